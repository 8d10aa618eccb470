/- '==' of structs of numbers and bools. No condition. -/
import Derived.Test.YtllpfpdanonhkaaSxStr
import Derived.DeepKeys
namespace Go.Sx
open Go.RowKit

/-- Of a struct type that is compared field by field: each field's type and place. -/
def eqsB (P : Program) (t : TypeId) : Option (List (TypeId × Nat)) :=
  match P.underlying t with
  | some (.struct fs) => if fs.all (fun f => f.name != "_") && !P.stoodInHeld t && !P.eqGuardType P.depth t then some (fs.toList.map fun f => (f.type, f.offset)) else none
  | _ => none
inductive AllSc (P : Program) (xs ys : List Value) : List (TypeId × Nat) → List Bool → Prop
  | nil : AllSc P xs ys [] []
  | int {ty : TypeId} {off : Nat} {k : IntKind} {a b : Int} {fl : List (TypeId × Nat)} {bs : List Bool} (h : P.underlying ty = some (.int k)) (hx : xs[off]? = some (.int k a)) (hy : ys[off]? = some (.int k b)) (r : AllSc P xs ys fl bs) : AllSc P xs ys ((ty, off) :: fl) (decide (a = b) :: bs)
  | bool {ty : TypeId} {off : Nat} {a b : Bool} {fl : List (TypeId × Nat)} {bs : List Bool} (h : P.underlying ty = some .bool) (hx : xs[off]? = some (.bool a)) (hy : ys[off]? = some (.bool b)) (r : AllSc P xs ys fl bs) : AllSc P xs ys ((ty, off) :: fl) (decide (a = b) :: bs)
theorem AllSc.run {P : Program} {xs ys : List Value} {fl : List (TypeId × Nat)} {bs : List Bool} (h : AllSc P xs ys fl bs) (d : Nat) (w : World) : ∀ (fs : List Field), (∀ f ∈ fs, f.name ≠ "_") → fs.map (fun f => (f.type, f.offset)) = fl → (Op.eqFields (d + 1) xs.toArray ys.toArray fs).run P w = .ok (bs.all id) w := by
  induction h with
  | nil =>
    intro fs _ hm
    rw [List.map_eq_nil_iff.1 hm]; rfl
  | @int ty off k a b fl bs h hx hy _ ih =>
    intro fs hn hm
    obtain ⟨f, fs', rfl, e, hm'⟩ := List.map_eq_cons_iff.1 hm
    simp only [Prod.mk.injEq] at e
    obtain ⟨rfl, rfl⟩ := e
    have h1 : (part f.type xs.toArray f.offset).run P w = .ok (.int k a) w := by simp [part, isAgg, run_underlying h, hx]
    have h2 : (part f.type ys.toArray f.offset).run P w = .ok (.int k b) w := by simp [part, isAgg, run_underlying h, hy]
    have h3 : (Op.equalIn (d + 1) f.type (.int k a) (.int k b)).run P w = .ok (decide (a = b)) w := by
      simp [Op.equalIn, run_underlying h]
      by_cases e : a = b <;> simp [e]
    have h4 := ih fs' (fun g hg => hn g (List.mem_cons_of_mem _ hg)) hm'
    simp only [Op.eqFields, hn f List.mem_cons_self, ne_eq, not_false_eq_true, if_true, Sem.run_bind, h1, h2, h3, Result.andThen_ok]
    by_cases e : a = b <;> simp [e, h4]
  | @bool ty off a b fl bs h hx hy _ ih =>
    intro fs hn hm
    obtain ⟨f, fs', rfl, e, hm'⟩ := List.map_eq_cons_iff.1 hm
    simp only [Prod.mk.injEq] at e
    obtain ⟨rfl, rfl⟩ := e
    have h1 : (part f.type xs.toArray f.offset).run P w = .ok (.bool a) w := by simp [part, isAgg, run_underlying h, hx]
    have h2 : (part f.type ys.toArray f.offset).run P w = .ok (.bool b) w := by simp [part, isAgg, run_underlying h, hy]
    have h3 : (Op.equalIn (d + 1) f.type (.bool a) (.bool b)).run P w = .ok (decide (a = b)) w := by
      simp [Op.equalIn, run_underlying h]
      cases a <;> cases b <;> rfl
    have h4 := ih fs' (fun g hg => hn g (List.mem_cons_of_mem _ hg)) hm'
    simp only [Op.eqFields, hn f List.mem_cons_self, ne_eq, not_false_eq_true, if_true, Sem.run_bind, h1, h2, h3, Result.andThen_ok]
    by_cases e : a = b <;> simp [e, h4]

theorem eqS_run {P : Program} {t : TypeId} {xs ys : List Value} {fl : List (TypeId × Nat)} {bs : List Bool} (hB : eqsB P t = some fl) (h : AllSc P xs ys fl bs) (w : World) : (Op.equal t (.agg xs.toArray) (.agg ys.toArray)).run P w = .ok (bs.all id) w ∧ P.eqGuardType P.depth t = false := by
  unfold eqsB at hB
  split at hB
  · rename_i fs hu
    split at hB
    · rename_i hc
      simp only [Bool.and_eq_true, Bool.not_eq_true'] at hc
      obtain ⟨⟨h1, h2⟩, h3⟩ := hc
      simp only [Option.some.injEq] at hB
      refine ⟨?_, h3⟩
      have hfs : P.fieldsOf t = fs := by simp [Program.fieldsOf, hu]
      have e : (Op.equalIn (9998 + 1 + 1) t (.agg xs.toArray) (.agg ys.toArray)).run P w = _ := run_equalIn_struct w (9998 + 1) t xs.toArray ys.toArray (by rw [hfs]; exact hu) h2
      rw [hfs] at e
      show (Op.equalIn 10000 t _ _).run P w = _
      rw [e]
      exact h.run 9998 w fs.toList (fun f hf => by
        have := Array.all_eq_true_iff_forall_mem.1 h1 f (Array.mem_toList_iff.1 hf)
        simpa using this) hB
    · cases hB
  · cases hB

section
variable {c : Cx} {ops : Array Oper} {un : Nat → Nat → Bool} {K : St → Prop} {i : Nat} {rest : List (Nat × Nat × Oper)} {fs : Fs} {env : Env} {L : List HP} {ds : List Deferred}
variable {d : Tmp} {x y z : Operand} {ty t t2 : TypeId} {pos : String} {af : Array Edge} {g : Option (Nat × Bool)}
theorem Run.eqS {xs ys : List Value} {fl : List (TypeId × Nat)} {bs : List Bool} (hB : eqsB c.P t = some fl) (hx : opd env x = some (.agg xs.toArray) := by rfl) (hy : opd env y = some (.agg ys.toArray) := by rfl) (hs : AllSc c.P xs ys fl bs) (hg : gok ops env g = true := by rfl) (h : Run c ops un K rest fs ⟨(d, .bool (bs.all id)) :: env, L, ds⟩) :
    Run c ops un K ((i, 0, ⟨some d, .binOp .eql t x y t2, ty, pos, af, g⟩) :: rest) fs ⟨env, L, ds⟩ :=
  Run.calm (by simp [Op.operands, hx, hy]) (by simp) (by simp) hg (fun w => by
    obtain ⟨h1, h2⟩ := eqS_run hB hs w
    simp [execOp, rho_of hx, rho_of hy, eqGuard, h2, binOp, h1]) h
theorem Run.neS {xs ys : List Value} {fl : List (TypeId × Nat)} {bs : List Bool} (hB : eqsB c.P t = some fl) (hx : opd env x = some (.agg xs.toArray) := by rfl) (hy : opd env y = some (.agg ys.toArray) := by rfl) (hs : AllSc c.P xs ys fl bs) (hg : gok ops env g = true := by rfl) (h : Run c ops un K rest fs ⟨(d, .bool !(bs.all id)) :: env, L, ds⟩) :
    Run c ops un K ((i, 0, ⟨some d, .binOp .neq t x y t2, ty, pos, af, g⟩) :: rest) fs ⟨env, L, ds⟩ :=
  Run.calm (by simp [Op.operands, hx, hy]) (by simp) (by simp) hg (fun w => by
    obtain ⟨h1, h2⟩ := eqS_run hB hs w
    simp [execOp, rho_of hx, rho_of hy, eqGuard, h2, binOp, h1]) h
end
end Go.Sx
