/- The rules of single operations, state to state. No condition. -/
import Derived.Test.YtllpfpdanonhkaaSxAny
namespace Go.Sx
open Go.RowKit

def opd (env : Env) : Operand → Option Value
  | .tmp t => look env t
  | .const v => some v
  | .global g => some (.pointer (some ⟨g, 0, none⟩))
  | .func f => some (.func (.func f) #[] #[])

def gok (ops : Array Oper) (env : Env) : Option (Nat × Bool) → Bool
  | none => true
  | some (j, b) => match yieldE ops env j with | some b' => b' == b | none => false

/-- The guard says no. -/
def gno (ops : Array Oper) (env : Env) : Option (Nat × Bool) → Bool
  | none => false
  | some (j, b) => match yieldE ops env j with | some b' => b' != b | none => false

theorem rho_of {env : Env} {x : Operand} {v : Value} (h : opd env x = some v) : rho env x = v := by
  cases x with
  | tmp t => simp [rho, opd] at *; simp [h]
  | const u => simpa [rho, opd] using h
  | global g => simpa [rho, opd] using h
  | func f => simpa [rho, opd] using h

section
variable {c : Cx} {ops : Array Oper} {un : Nat → Nat → Bool} {K : St → Prop} {i : Nat} {rest : List (Nat × Nat × Oper)} {fs : Fs} {env : Env} {L : List HP} {ds : List Deferred}

theorem gok_wanted {o : Oper} (h : gok ops env o.guard = true) : Region.wanted o (yieldE ops env) = true := by
  unfold Region.wanted
  cases hg : o.guard with
  | none => rfl
  | some gw =>
    obtain ⟨j, b⟩ := gw
    rw [hg] at h
    unfold gok at h
    dsimp only at h ⊢
    cases hy : yieldE ops env j with
    | none => rw [hy] at h; cases h
    | some b' => rw [hy] at h; simpa using h
theorem gno_wanted {o : Oper} (h : gno ops env o.guard = true) : Region.wanted o (yieldE ops env) = false := by
  unfold Region.wanted
  cases hg : o.guard with
  | none => rw [hg] at h; cases h
  | some gw =>
    obtain ⟨j, b⟩ := gw
    rw [hg] at h
    unfold gno at h
    dsimp only at h ⊢
    cases hy : yieldE ops env j with
    | none => rw [hy] at h; cases h
    | some b' => rw [hy] at h; simpa using h

theorem guard_look {g : Nat} {b : Bool} (h : yieldE ops env g = some b) : ∀ t, (ops[g]?).bind (·.dst) = some t → (look env t).isSome = true := fun t ht => by
  unfold yieldE at h
  rw [ht, Option.bind_some] at h
  cases hl : look env t with
  | none => rw [hl] at h; cases h
  | some v => rfl

theorem defd_of {o : Oper} (ho : ∀ x ∈ o.op.operands, (opd env x).isSome = true) (hg : gok ops env o.guard = true ∨ gno ops env o.guard = true) : defd ops o env = true := by
  unfold defd
  refine List.all_eq_true.2 fun t ht => ?_
  unfold Oper.looksAt at ht
  rcases List.mem_append.1 ht with h | h
  · obtain ⟨x, hx, he⟩ := List.mem_filterMap.1 h
    have := ho x (by simpa using hx)
    cases x <;> simp at he
    subst he
    exact this
  · cases hgd : o.guard with
    | none => rw [hgd] at h; cases h
    | some gw =>
      obtain ⟨g, w⟩ := gw
      rw [hgd] at h hg
      have : ∃ b, yieldE ops env g = some b := by
        unfold gok gno at hg
        dsimp only at hg
        cases hy : yieldE ops env g with
        | none => rw [hy] at hg; simp at hg
        | some b => exact ⟨b, rfl⟩
      obtain ⟨b, hy⟩ := this
      exact guard_look hy t (by simpa using h)

/-- Passed over. -/
theorem Run.skip {k : Nat} {o : Oper} (ho : ∀ x ∈ o.op.operands, (opd env x).isSome = true) (hns : ∀ cs b, o.op ≠ .select cs b) (hnd : ∀ d, o.op ≠ .defer d) (hk : k ≤ 4) (hg : gno ops env o.guard = true)
    (h : Run c ops un K rest fs (St.put ⟨env, L, ds⟩ o.dst undef)) : Run c ops un K ((i, k, o) :: rest) fs ⟨env, L, ds⟩ := by
  exact .inr ⟨hk, gno_wanted hg, defd_of ho (.inr hg), hns, undef, .inr ⟨gno_wanted hg, rfl⟩, hnd, h⟩

theorem Run.calm {o : Oper} {v : Value} (ho : ∀ x ∈ o.op.operands, (opd env x).isSome = true) (hns : ∀ cs b, o.op ≠ .select cs b) (hnd : ∀ d, o.op ≠ .defer d) (hg : gok ops env o.guard = true)
    (hrun : ∀ w, (execOp (rho env) o).run c.P w = .ok (.value v) w) (h : Run c ops un K rest fs (St.put ⟨env, L, ds⟩ o.dst v)) : Run c ops un K ((i, 0, o) :: rest) fs ⟨env, L, ds⟩ :=
  .inl ⟨defd_of ho (.inl hg), hns, v, .inl ⟨gok_wanted hg, hrun⟩, hnd, h⟩

theorem Run.reads {o : Oper} {v : Value} (ho : ∀ x ∈ o.op.operands, (opd env x).isSome = true) (hns : ∀ cs b, o.op ≠ .select cs b) (hnd : ∀ d, o.op ≠ .defer d) (hg : gok ops env o.guard = true)
    (hrun : ∀ w, Sat c.w0 w L → (execOp (rho env) o).run c.P w = .ok (.value v) w)
    (h : Run c ops un K rest ((i, fun w => (execOp (rho env) o).run c.P w = .ok (.value v) w) :: fs) (St.put ⟨env, L, ds⟩ o.dst v)) : Run c ops un K ((i, 1, o) :: rest) fs ⟨env, L, ds⟩ :=
  .inl ⟨defd_of ho (.inl hg), hns, gok_wanted hg, hnd, v, hrun, h⟩

theorem Run.news {o : Oper} {ob : Obj} {val : Nat → Value} (ho : ∀ x ∈ o.op.operands, (opd env x).isSome = true) (hns : ∀ cs b, o.op ≠ .select cs b) (hnd : ∀ d, o.op ≠ .defer d) (hg : gok ops env o.guard = true)
    (hrun : ∀ w, (execOp (rho env) o).run c.P w = .ok (.value (val w.heap.size)) { w with heap := w.heap.push ob })
    (h : ∀ g, Run c ops un K rest fs (St.put ⟨env, blk g ob :: L, ds⟩ o.dst (val g))) : Run c ops un K ((i, 2, o) :: rest) fs ⟨env, L, ds⟩ :=
  .inl ⟨defd_of ho (.inl hg), hns, gok_wanted hg, hnd, ob, val, hrun, h⟩

/-! ### Calm operations -/
variable {d : Tmp} {x y z : Operand} {ty t t2 : TypeId} {pos : String} {af : Array Edge} {g : Option (Nat × Bool)}

theorem Run.mv {v : Value} (hx : opd env x = some v := by rfl) (hg : gok ops env g = true := by rfl) (h : Run c ops un K rest fs ⟨(d, v) :: env, L, ds⟩) :
    Run c ops un K ((i, 0, ⟨some d, .move x, ty, pos, af, g⟩) :: rest) fs ⟨env, L, ds⟩ :=
  Run.calm (by simp [Op.operands, hx]) (by simp) (by simp) hg (fun w => by simp [execOp, rho_of hx]) h
theorem Run.as {v : Value} (hx : opd env x = some v := by rfl) (hg : gok ops env g = true := by rfl) (h : Run c ops un K rest fs ⟨(d, v) :: env, L, ds⟩) :
    Run c ops un K ((i, 0, ⟨some d, .assign x, ty, pos, af, g⟩) :: rest) fs ⟨env, L, ds⟩ :=
  Run.calm (by simp [Op.operands, hx]) (by simp) (by simp) hg (fun w => by simp [execOp, rho_of hx]) h
theorem Run.pk {b : Bool} {u v : Value} (hx : opd env x = some (.bool b) := by rfl) (hy : opd env y = some u := by rfl) (hz : opd env z = some v := by rfl) (hg : gok ops env g = true := by rfl)
    (h : Run c ops un K rest fs ⟨(d, if b then u else v) :: env, L, ds⟩) : Run c ops un K ((i, 0, ⟨some d, .pick x y z, ty, pos, af, g⟩) :: rest) fs ⟨env, L, ds⟩ :=
  Run.calm (by simp [Op.operands, hx, hy, hz]) (by simp) (by simp) hg (fun w => by simp [execOp, rho_of hx, rho_of hy, rho_of hz, asBool]) h
theorem Run.ncp {a : Addr} (hx : opd env x = some (.pointer (some a)) := by rfl) (hg : gok ops env g = true := by rfl) (h : Run c ops un K rest fs ⟨(d, .pointer (some a)) :: env, L, ds⟩) :
    Run c ops un K ((i, 0, ⟨some d, .nilCheck x, ty, pos, af, g⟩) :: rest) fs ⟨env, L, ds⟩ :=
  Run.calm (by simp [Op.operands, hx]) (by simp) (by simp) hg (fun w => by simp [execOp, rho_of hx]) h
theorem Run.ncf {f : FuncId} {a b : Array Value} (hx : opd env x = some (.func (.func f) a b) := by rfl) (hg : gok ops env g = true := by rfl) (h : Run c ops un K rest fs ⟨(d, .func (.func f) a b) :: env, L, ds⟩) :
    Run c ops un K ((i, 0, ⟨some d, .nilCheck x, ty, pos, af, g⟩) :: rest) fs ⟨env, L, ds⟩ :=
  Run.calm (by simp [Op.operands, hx]) (by simp) (by simp) hg (fun w => by simp [execOp, rho_of hx]) h
theorem Run.ncy {f : Nat} {a b : Array Value} (hx : opd env x = some (.func (.yield f) a b) := by rfl) (hg : gok ops env g = true := by rfl) (h : Run c ops un K rest fs ⟨(d, .func (.yield f) a b) :: env, L, ds⟩) :
    Run c ops un K ((i, 0, ⟨some d, .nilCheck x, ty, pos, af, g⟩) :: rest) fs ⟨env, L, ds⟩ :=
  Run.calm (by simp [Op.operands, hx]) (by simp) (by simp) hg (fun w => by simp [execOp, rho_of hx]) h
theorem Run.nci {u : TypeId} {a : Value} (hx : opd env x = some (.iface u a) := by rfl) (hg : gok ops env g = true := by rfl) (h : Run c ops un K rest fs ⟨(d, .iface u a) :: env, L, ds⟩) :
    Run c ops un K ((i, 0, ⟨some d, .nilCheck x, ty, pos, af, g⟩) :: rest) fs ⟨env, L, ds⟩ :=
  Run.calm (by simp [Op.operands, hx]) (by simp) (by simp) hg (fun w => by simp [execOp, rho_of hx]) h

theorem Run.ex {vs : Array Value} {k : Nat} {v : Value} (hx : opd env x = some (.tuple vs) := by rfl) (hv : vs[k]? = some v := by rfl) (hg : gok ops env g = true := by rfl) (h : Run c ops un K rest fs ⟨(d, v) :: env, L, ds⟩) :
    Run c ops un K ((i, 0, ⟨some d, .extract x k, ty, pos, af, g⟩) :: rest) fs ⟨env, L, ds⟩ :=
  Run.calm (by simp [Op.operands, hx]) (by simp) (by simp) hg (fun w => by simp [execOp, rho_of hx, Instr.extract, hv]) h

/-! Numbers and bools. -/
theorem Run.not {b : Bool} (hx : opd env x = some (.bool b) := by rfl) (hg : gok ops env g = true := by rfl) (h : Run c ops un K rest fs ⟨(d, .bool !b) :: env, L, ds⟩) :
    Run c ops un K ((i, 0, ⟨some d, .unOp .not t x, ty, pos, af, g⟩) :: rest) fs ⟨env, L, ds⟩ :=
  Run.calm (by simp [Op.operands, hx]) (by simp) (by simp) hg (fun w => by simp [execOp, rho_of hx, Op.unary]) h
theorem Run.notp {p : Prop} [Decidable p] (hx : opd env x = some (.bool (decide p)) := by rfl) (hg : gok ops env g = true := by rfl) (h : Run c ops un K rest fs ⟨(d, .bool (decide (¬p))) :: env, L, ds⟩) :
    Run c ops un K ((i, 0, ⟨some d, .unOp .not t x, ty, pos, af, g⟩) :: rest) fs ⟨env, L, ds⟩ :=
  Run.not hx hg (by have : (!decide p) = decide (¬p) := by simp
                    rw [this]; exact h)
theorem Run.neg {k : IntKind} {a : Int} (hx : opd env x = some (.int k a) := by rfl) (hg : gok ops env g = true := by rfl) (h : Run c ops un K rest fs ⟨(d, .int k (k.wrap (0 - a))) :: env, L, ds⟩) :
    Run c ops un K ((i, 0, ⟨some d, .unOp .neg t x, ty, pos, af, g⟩) :: rest) fs ⟨env, L, ds⟩ :=
  Run.calm (by simp [Op.operands, hx]) (by simp) (by simp) hg (fun w => by simp [execOp, rho_of hx, Op.unary, Op.intArith]) h
theorem Run.com {k : IntKind} {a : Int} (hx : opd env x = some (.int k a) := by rfl) (hg : gok ops env g = true := by rfl) (h : Run c ops un K rest fs ⟨(d, .int k (bits .xor k (if k.signed then -1 else k.max) a)) :: env, L, ds⟩) :
    Run c ops un K ((i, 0, ⟨some d, .unOp .xor t x, ty, pos, af, g⟩) :: rest) fs ⟨env, L, ds⟩ :=
  Run.calm (by simp [Op.operands, hx]) (by simp) (by simp) hg (fun w => by simp [execOp, rho_of hx, Op.unary, Op.intBits, bits]) h

theorem Run.cv {k k' : IntKind} {s : TypeDesc} {a : Int} (hs : c.P.underlying t = some s) (ht : c.P.underlying t2 = some (.int k')) (hx : opd env x = some (.int k a) := by rfl) (hg : gok ops env g = true := by rfl)
    (h : Run c ops un K rest fs ⟨(d, .int k' (k'.wrap a)) :: env, L, ds⟩) : Run c ops un K ((i, 0, ⟨some d, .convert t t2 x, ty, pos, af, g⟩) :: rest) fs ⟨env, L, ds⟩ :=
  Run.calm (by simp [Op.operands, hx]) (by simp) (by simp) hg (fun w => by simp [execOp, rho_of hx, convert, underlying, hs, ht, Conv.intToInt]) h
/-- The same, the number fits. -/
theorem Run.cvf {k k' : IntKind} {s : TypeDesc} {a : Int} (hs : c.P.underlying t = some s) (ht : c.P.underlying t2 = some (.int k')) (hx : opd env x = some (.int k a) := by rfl) (hg : gok ops env g = true := by rfl)
    (hw : k'.wrap a = a) (h : Run c ops un K rest fs ⟨(d, .int k' a) :: env, L, ds⟩) : Run c ops un K ((i, 0, ⟨some d, .convert t t2 x, ty, pos, af, g⟩) :: rest) fs ⟨env, L, ds⟩ :=
  Run.cv hs ht hx hg (by rw [hw]; exact h)

theorem Run.bin {op : BinOp} {k : IntKind} {a b : Int} {v : Value} (hv : ∀ w, (binOp op t (.int k a) (.int k b)).run c.P w = .ok v w) (hx : opd env x = some (.int k a) := by rfl) (hy : opd env y = some (.int k b) := by rfl) (hg : gok ops env g = true := by rfl)
    (h : Run c ops un K rest fs ⟨(d, v) :: env, L, ds⟩) : Run c ops un K ((i, 0, ⟨some d, .binOp op t x y t2, ty, pos, af, g⟩) :: rest) fs ⟨env, L, ds⟩ :=
  Run.calm (by simp [Op.operands, hx, hy]) (by simp) (by simp) hg (fun w => by cases op <;> simp [execOp, rho_of hx, rho_of hy, eqGuard, hv]) h

theorem Run.add {k : IntKind} {a b : Int} (hx : opd env x = some (.int k a) := by rfl) (hy : opd env y = some (.int k b) := by rfl) (hg : gok ops env g = true := by rfl) (h : Run c ops un K rest fs ⟨(d, .int k (k.wrap (a + b))) :: env, L, ds⟩) :
    Run c ops un K ((i, 0, ⟨some d, .binOp .add t x y t2, ty, pos, af, g⟩) :: rest) fs ⟨env, L, ds⟩ := Run.bin (fun w => by simp [binOp, Op.intArith]) hx hy hg h
theorem Run.sub {k : IntKind} {a b : Int} (hx : opd env x = some (.int k a) := by rfl) (hy : opd env y = some (.int k b) := by rfl) (hg : gok ops env g = true := by rfl) (h : Run c ops un K rest fs ⟨(d, .int k (k.wrap (a - b))) :: env, L, ds⟩) :
    Run c ops un K ((i, 0, ⟨some d, .binOp .sub t x y t2, ty, pos, af, g⟩) :: rest) fs ⟨env, L, ds⟩ := Run.bin (fun w => by simp [binOp, Op.intArith]) hx hy hg h
theorem Run.mul {k : IntKind} {a b : Int} (hx : opd env x = some (.int k a) := by rfl) (hy : opd env y = some (.int k b) := by rfl) (hg : gok ops env g = true := by rfl) (h : Run c ops un K rest fs ⟨(d, .int k (k.wrap (a * b))) :: env, L, ds⟩) :
    Run c ops un K ((i, 0, ⟨some d, .binOp .mul t x y t2, ty, pos, af, g⟩) :: rest) fs ⟨env, L, ds⟩ := Run.bin (fun w => by simp [binOp, Op.intArith]) hx hy hg h
theorem Run.quo {k : IntKind} {a b : Int} (hx : opd env x = some (.int k a) := by rfl) (hy : opd env y = some (.int k b) := by rfl) (hg : gok ops env g = true := by rfl)
    (hb : b ≠ 0) (h : Run c ops un K rest fs ⟨(d, .int k (k.wrap (a.tdiv b))) :: env, L, ds⟩) :
    Run c ops un K ((i, 0, ⟨some d, .binOp .quo t x y t2, ty, pos, af, g⟩) :: rest) fs ⟨env, L, ds⟩ := Run.bin (fun w => by simp [binOp, Op.intDiv, hb]) hx hy hg h
theorem Run.rem {k : IntKind} {a b : Int} (hx : opd env x = some (.int k a) := by rfl) (hy : opd env y = some (.int k b) := by rfl) (hg : gok ops env g = true := by rfl)
    (hb : b ≠ 0) (h : Run c ops un K rest fs ⟨(d, .int k (a.tmod b)) :: env, L, ds⟩) :
    Run c ops un K ((i, 0, ⟨some d, .binOp .rem t x y t2, ty, pos, af, g⟩) :: rest) fs ⟨env, L, ds⟩ := Run.bin (fun w => by simp [binOp, Op.intDiv, hb]) hx hy hg h
theorem Run.bit {op : BinOp} (hop : op = .and ∨ op = .or ∨ op = .xor ∨ op = .andNot) {k : IntKind} {a b : Int} (hx : opd env x = some (.int k a) := by rfl) (hy : opd env y = some (.int k b) := by rfl) (hg : gok ops env g = true := by rfl) (h : Run c ops un K rest fs ⟨(d, .int k (bits op k a b)) :: env, L, ds⟩) :
    Run c ops un K ((i, 0, ⟨some d, .binOp op t x y t2, ty, pos, af, g⟩) :: rest) fs ⟨env, L, ds⟩ := Run.bin (fun w => by rcases hop with rfl | rfl | rfl | rfl <;> simp [binOp, Op.intBits, bits]) hx hy hg h
theorem Run.shl {k k' : IntKind} {a b : Int} (hx : opd env x = some (.int k a) := by rfl) (hy : opd env y = some (.int k' b) := by rfl) (hg : gok ops env g = true := by rfl)
    (hb : 0 ≤ b) (h : Run c ops un K rest fs ⟨(d, .int k (k.wrap (a * 2 ^ min b.toNat k.bits))) :: env, L, ds⟩) :
    Run c ops un K ((i, 0, ⟨some d, .binOp .shl t x y t2, ty, pos, af, g⟩) :: rest) fs ⟨env, L, ds⟩ :=
  Run.calm (by simp [Op.operands, hx, hy]) (by simp) (by simp) hg (fun w => by simp [execOp, rho_of hx, rho_of hy, eqGuard, binOp, Op.shift, show ¬ b < 0 by omega]) h
theorem Run.shr {k k' : IntKind} {a b : Int} (hx : opd env x = some (.int k a) := by rfl) (hy : opd env y = some (.int k' b) := by rfl) (hg : gok ops env g = true := by rfl)
    (hb : 0 ≤ b) (h : Run c ops un K rest fs ⟨(d, .int k (a.fdiv (2 ^ min b.toNat k.bits))) :: env, L, ds⟩) :
    Run c ops un K ((i, 0, ⟨some d, .binOp .shr t x y t2, ty, pos, af, g⟩) :: rest) fs ⟨env, L, ds⟩ :=
  Run.calm (by simp [Op.operands, hx, hy]) (by simp) (by simp) hg (fun w => by simp [execOp, rho_of hx, rho_of hy, eqGuard, binOp, Op.shift, show ¬ b < 0 by omega]) h
theorem Run.lt {k : IntKind} {a b : Int} (hx : opd env x = some (.int k a) := by rfl) (hy : opd env y = some (.int k b) := by rfl) (hg : gok ops env g = true := by rfl) (h : Run c ops un K rest fs ⟨(d, .bool (decide (a < b))) :: env, L, ds⟩) :
    Run c ops un K ((i, 0, ⟨some d, .binOp .lss t x y t2, ty, pos, af, g⟩) :: rest) fs ⟨env, L, ds⟩ := Run.bin (fun w => by simp [binOp, Op.intCmp]) hx hy hg h
theorem Run.le {k : IntKind} {a b : Int} (hx : opd env x = some (.int k a) := by rfl) (hy : opd env y = some (.int k b) := by rfl) (hg : gok ops env g = true := by rfl) (h : Run c ops un K rest fs ⟨(d, .bool (decide (a ≤ b))) :: env, L, ds⟩) :
    Run c ops un K ((i, 0, ⟨some d, .binOp .leq t x y t2, ty, pos, af, g⟩) :: rest) fs ⟨env, L, ds⟩ := Run.bin (fun w => by simp [binOp, Op.intCmp]) hx hy hg h
theorem Run.gt {k : IntKind} {a b : Int} (hx : opd env x = some (.int k a) := by rfl) (hy : opd env y = some (.int k b) := by rfl) (hg : gok ops env g = true := by rfl) (h : Run c ops un K rest fs ⟨(d, .bool (decide (b < a))) :: env, L, ds⟩) :
    Run c ops un K ((i, 0, ⟨some d, .binOp .gtr t x y t2, ty, pos, af, g⟩) :: rest) fs ⟨env, L, ds⟩ := Run.bin (fun w => by simp [binOp, Op.intCmp]) hx hy hg h
theorem Run.ge {k : IntKind} {a b : Int} (hx : opd env x = some (.int k a) := by rfl) (hy : opd env y = some (.int k b) := by rfl) (hg : gok ops env g = true := by rfl) (h : Run c ops un K rest fs ⟨(d, .bool (decide (b ≤ a))) :: env, L, ds⟩) :
    Run c ops un K ((i, 0, ⟨some d, .binOp .geq t x y t2, ty, pos, af, g⟩) :: rest) fs ⟨env, L, ds⟩ := Run.bin (fun w => by simp [binOp, Op.intCmp]) hx hy hg h
theorem Run.eq {k : IntKind} {a b : Int} (hx : opd env x = some (.int k a) := by rfl) (hy : opd env y = some (.int k b) := by rfl) (hg : gok ops env g = true := by rfl) (h : Run c ops un K rest fs ⟨(d, .bool (decide (a = b))) :: env, L, ds⟩) :
    Run c ops un K ((i, 0, ⟨some d, .binOp .eql t x y t2, ty, pos, af, g⟩) :: rest) fs ⟨env, L, ds⟩ :=
  Run.bin (v := .bool (decide (a = b))) (fun w => by simp [binOp, Op.intCmp, Bool.beq_eq_decide_eq]) hx hy hg h
theorem Run.ne {k : IntKind} {a b : Int} (hx : opd env x = some (.int k a) := by rfl) (hy : opd env y = some (.int k b) := by rfl) (hg : gok ops env g = true := by rfl) (h : Run c ops un K rest fs ⟨(d, .bool (decide (a ≠ b))) :: env, L, ds⟩) :
    Run c ops un K ((i, 0, ⟨some d, .binOp .neq t x y t2, ty, pos, af, g⟩) :: rest) fs ⟨env, L, ds⟩ :=
  Run.bin (v := .bool (decide (a ≠ b))) (fun w => by simp [binOp, Op.intCmp, bne, Bool.beq_eq_decide_eq]) hx hy hg h

end
end Go.Sx
