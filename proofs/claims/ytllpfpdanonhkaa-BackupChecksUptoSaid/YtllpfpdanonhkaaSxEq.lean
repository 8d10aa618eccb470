/- The rules: equality, min, max, cap, interfaces, functions as values, panic. No condition. -/
import Derived.Test.YtllpfpdanonhkaaSxMore
namespace Go.Sx
open Go.RowKit

section
variable {c : Cx} {ops : Array Oper} {un : Nat → Nat → Bool} {K : St → Prop} {i : Nat} {rest : List (Nat × Nat × Oper)} {fs : Fs} {env : Env} {L : List HP} {ds : List Deferred}
variable {d : Tmp} {x y z : Operand} {ty t t2 : TypeId} {pos : String} {af : Array Edge} {g : Option (Nat × Bool)}

/-! ### Equality of what is no number -/
/-- Two values of which '==' tells b. -/
inductive EqV (P : Program) (t : TypeId) : Value → Value → Bool → Prop
  | ptrL {e : TypeId} {a : Option Addr} (h : P.underlying t = some (.pointer e)) : EqV P t (.pointer none) (.pointer a) a.isNone
  | ptrR {e : TypeId} {a : Option Addr} (h : P.underlying t = some (.pointer e)) : EqV P t (.pointer a) (.pointer none) a.isNone
  | slcL {e : TypeId} {a : Option Addr} {n m n' m' : Nat} (h : P.underlying t = some (.slice e)) : EqV P t (.slice none n m) (.slice a n' m') a.isNone
  | slcR {e : TypeId} {a : Option Addr} {n m n' m' : Nat} (h : P.underlying t = some (.slice e)) : EqV P t (.slice a n m) (.slice none n' m') a.isNone
  | bool {a b : Bool} (h : P.underlying t = some .bool) : EqV P t (.bool a) (.bool b) (a == b)
  | ifc0 {u : TypeId} {v : Value} {ms : Array (String × TypeId)} (h : P.underlying t = some (.interface ms)) : EqV P t (.iface u v) .nilIface false
  | map0 {k v : TypeId} {a : Option Nat} (h : P.underlying t = some (.map k v)) : EqV P t (.map a) (.map none) a.isNone
theorem EqV.runIn {P : Program} {t : TypeId} {u v : Value} {b : Bool} (h : EqV P t u v b) (k : Nat) (w : World) : (Op.equalIn (k + 1) t u v).run P w = .ok b w := by
  cases h with
  | ptrL h => simp [Op.equalIn, underlying, h]
  | @ptrR _ a h => cases a <;> simp [Op.equalIn, underlying, h]
  | slcL h => simp [Op.equalIn, underlying, h]
  | @slcR _ a _ _ _ _ h => cases a <;> simp [Op.equalIn, underlying, h]
  | bool h => simp [Op.equalIn, underlying, h]
  | ifc0 h => simp [Op.equalIn, underlying, h]
  | @map0 _ _ a h => cases a <;> simp [Op.equalIn, underlying, h]
theorem EqV.run {P : Program} {t : TypeId} {u v : Value} {b : Bool} (h : EqV P t u v b) (w : World) : (Op.equal t u v).run P w = .ok b w := h.runIn 9999 w
theorem EqV.guard {P : Program} {t : TypeId} {u v : Value} {b : Bool} (h : EqV P t u v b) (op : BinOp) (w : World) : (eqGuard op t x y u v).run P w = .ok () w := by
  cases h <;> cases op <;> simp [eqGuard]

theorem Run.eqV {u v : Value} {b : Bool} (h0 : EqV c.P t u v b) (hx : opd env x = some u := by rfl) (hy : opd env y = some v := by rfl) (hg : gok ops env g = true := by rfl) (h : Run c ops un K rest fs ⟨(d, .bool b) :: env, L, ds⟩) :
    Run c ops un K ((i, 0, ⟨some d, .binOp .eql t x y t2, ty, pos, af, g⟩) :: rest) fs ⟨env, L, ds⟩ :=
  Run.calm (by simp [Op.operands, hx, hy]) (by simp) (by simp) hg (fun w => by
    have h1 := h0.run w
    have h2 := h0.guard (x := x) (y := y) .eql w
    have h3 : (binOp .eql t u v).run c.P w = .ok (.bool b) w := by cases h0 <;> simp [binOp, h1]
    simp [execOp, rho_of hx, rho_of hy, h2, h3]) h
theorem Run.neV {u v : Value} {b : Bool} (h0 : EqV c.P t u v b) (hx : opd env x = some u := by rfl) (hy : opd env y = some v := by rfl) (hg : gok ops env g = true := by rfl) (h : Run c ops un K rest fs ⟨(d, .bool !b) :: env, L, ds⟩) :
    Run c ops un K ((i, 0, ⟨some d, .binOp .neq t x y t2, ty, pos, af, g⟩) :: rest) fs ⟨env, L, ds⟩ :=
  Run.calm (by simp [Op.operands, hx, hy]) (by simp) (by simp) hg (fun w => by
    have h1 := h0.run w
    have h2 := h0.guard (x := x) (y := y) .neq w
    have h3 : (binOp .neq t u v).run c.P w = .ok (.bool !b) w := by cases h0 <;> simp [binOp, h1]
    simp [execOp, rho_of hx, rho_of hy, h2, h3]) h

/-! ### min, max, cap -/
theorem Run.max2 {k : IntKind} {a b : Int} {at' : Array TypeId} (hx : opd env x = some (.int k a) := by rfl) (hy : opd env y = some (.int k b) := by rfl) (hg : gok ops env g = true := by rfl) (h : Run c ops un K rest fs ⟨(d, .int k (max a b)) :: env, L, ds⟩) :
    Run c ops un K ((i, 0, ⟨some d, .call { callee := .builtin .max, args := #[x, y], argTypes := at' }, ty, pos, af, g⟩) :: rest) fs ⟨env, L, ds⟩ :=
  Run.calm (by simp [Op.operands, Call.operands, hx, hy]) (by simp) (by simp) hg (fun w => by
    have : (if a < b then b else a) = max a b := by omega
    simp [execOp, resolve, invoke, builtin, rho_of hx, rho_of hy, Builtin.max_, Builtin.max2, this]) h
theorem Run.min2 {k : IntKind} {a b : Int} {at' : Array TypeId} (hx : opd env x = some (.int k a) := by rfl) (hy : opd env y = some (.int k b) := by rfl) (hg : gok ops env g = true := by rfl) (h : Run c ops un K rest fs ⟨(d, .int k (min a b)) :: env, L, ds⟩) :
    Run c ops un K ((i, 0, ⟨some d, .call { callee := .builtin .min, args := #[x, y], argTypes := at' }, ty, pos, af, g⟩) :: rest) fs ⟨env, L, ds⟩ :=
  Run.calm (by simp [Op.operands, Call.operands, hx, hy]) (by simp) (by simp) hg (fun w => by
    have : (if b < a then b else a) = min a b := by omega
    simp [execOp, resolve, invoke, builtin, rho_of hx, rho_of hy, Builtin.min_, Builtin.min2, this]) h
theorem Run.cap {a : Option Addr} {n cp : Nat} {e : TypeId} {sz : Nat} (ht : slcB c.P t = some (e, sz)) (hx : opd env x = some (.slice a n cp) := by rfl) (hg : gok ops env g = true := by rfl)
    (h : Run c ops un K rest fs ⟨(d, .int .i64 cp) :: env, L, ds⟩) : Run c ops un K ((i, 0, ⟨some d, .call { callee := .builtin .cap, args := #[x], argTypes := #[t] }, ty, pos, af, g⟩) :: rest) fs ⟨env, L, ds⟩ := by
  refine Run.calm (by simp [Op.operands, Call.operands, hx]) (by simp) (by simp) hg (fun w => ?_) h
  unfold slcB at ht
  split at ht <;> try cases ht
  rename_i e' hu
  simp [execOp, resolve, invoke, builtin, rho_of hx, Builtin.cap_, underlying, hu, goInt]

/-! ### Interfaces, functions -/
def concB (P : Program) (t : TypeId) : Bool := match P.underlying t with | some (.interface _) => false | some _ => true | none => false
theorem Run.mi {v : Value} (ht : concB c.P t = true) (hx : opd env x = some v := by rfl) (hg : gok ops env g = true := by rfl) (h : Run c ops un K rest fs ⟨(d, .iface t v) :: env, L, ds⟩) :
    Run c ops un K ((i, 0, ⟨some d, .makeInterface t x, ty, pos, af, g⟩) :: rest) fs ⟨env, L, ds⟩ :=
  Run.calm (by simp [Op.operands, hx]) (by simp) (by simp) hg (fun w => by
    unfold concB at ht
    split at ht
    · cases ht
    · rename_i dd hu hne
      simp [execOp, rho_of hx, Instr.makeInterface, underlying, hne]
    · cases ht) h
theorem Run.mf {fn : Fn} {xs ys : List Operand} {us vs : List Value} (hx : ArgsR env xs us := by repeat (first | exact ArgsR.nil | (apply ArgsR.cons; rfl))) (hy : ArgsR env ys vs := by repeat (first | exact ArgsR.nil | (apply ArgsR.cons; rfl))) (hg : gok ops env g = true := by rfl) (h : Run c ops un K rest fs ⟨(d, .func fn us.toArray vs.toArray) :: env, L, ds⟩) :
    Run c ops un K ((i, 0, ⟨some d, .makeFunc fn xs.toArray ys.toArray, ty, pos, af, g⟩) :: rest) fs ⟨env, L, ds⟩ :=
  Run.calm (by
    intro z hz
    simp [Op.operands] at hz
    rcases hz with hz | hz
    · exact hx.map.2 z hz
    · exact hy.map.2 z hz) (by simp) (by simp) hg (fun w => by simp [execOp, Instr.makeFunc, hx.map.1, hy.map.1]) h

/-! ### panic -/
theorem Run.pan {u : TypeId} {v : Value} {dd : Option Tmp} (hx : opd env x = some (.iface u v) := by rfl) (hg : gok ops env g = true := by rfl) (hst : c.strict i = true → False := by (intro hq; cases hq)) (hE : ∀ w, Sat c.w0 w L → c.E ds [{ v := .iface u v, recovered := false }] w) :
    Run c ops un K ((i, 3, ⟨dd, .panic x, ty, pos, af, g⟩) :: rest) fs ⟨env, L, ds⟩ := by
  refine .inl ⟨defd_of (by simp [Op.operands, hx]) (.inl hg), by simp, gok_wanted hg, by simp, fun _ _ => False, fun a w ha hds hs => ?_, fun h => (hst h).elim, fun _ _ _ _ _ h => h.elim, fun _ _ h => h.elim⟩
  refine ⟨by simp [Oper.about], ?_⟩
  rw [Oper.semAt_eq _ _ _ (by simp), ha.exec (by simp)]
  have : (execOp (rho env) ⟨dd, .panic x, ty, pos, af, g⟩).run c.P w = .halt (.panic (.iface u v)) w := by simp [execOp, rho_of hx, Instr.panic]
  rw [this]
  exact ⟨_, rfl, rfl, hds, hE w hs⟩
end
end Go.Sx
