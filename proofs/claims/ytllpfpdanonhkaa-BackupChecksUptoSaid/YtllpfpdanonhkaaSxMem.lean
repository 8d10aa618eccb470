/- The rules of operations on memory: addresses, loads, stores, new blocks, slices. No condition. -/
import Derived.Test.YtllpfpdanonhkaaSxOps
namespace Go.Sx
open Go.RowKit

/-! ### Facts off the program's tables -/
def aggB (P : Program) (t : TypeId) : Option Bool := (P.underlying t).map fun d => match d with | .struct _ => true | .array .. => true | _ => false
def szB (P : Program) (t : TypeId) : Option Nat := (P.info? t).map (·.size)
def zeroL (P : Program) (t : TypeId) : Option (List Value) := ((P.info? t).bind (·.zero)).map fun v => v.cells.toList
def fldB (P : Program) (s f : Nat) : Option Nat :=
  match P.underlying s with
  | some (.struct fs) => match fs[f]? with
    | some fl => match P.info? fl.type with
      | some i => if i.size = 0 then none else some fl.offset
      | none => none
    | none => none
  | _ => none
def slcB (P : Program) (t : TypeId) : Option (TypeId × Nat) :=
  match P.underlying t with
  | some (.slice e) => (szB P e).map (e, ·)
  | _ => none
def arrB (P : Program) (t : TypeId) : Option (Nat × Nat) :=
  match P.underlying t with
  | some (.array n e) => (szB P e).map (n, ·)
  | _ => none
/-- Of a struct: its zero's cells, and each field's place and size. -/
def strB (P : Program) (t : TypeId) : Option (List Value × List (Nat × Nat)) :=
  match P.underlying t, zeroL P t with
  | some (.struct fs), some z => (fs.toList.mapM fun f => (szB P f.type).map (f.offset, ·)).map (z, ·)
  | _, _ => none

/-! ### Places -/
abbrev plus (a : Addr) (k : Nat) : Addr := ⟨a.block, a.off + k, none⟩
theorem add_plus {a : Addr} (h : a.spot = none) (k : Nat) : a.add k = plus a k := by
  unfold Addr.add plus
  split
  · rename_i e; subst e; cases a; simp at h; simp [h]
  · rfl
def adr (A : Option Addr) : Addr := A.getD ⟨0, 0, none⟩
/-- The address of a cut. -/
def cutA (A : Option Addr) (l size cap : Nat) : Option Addr := if cap = l then A else A.map fun a => plus a (l * size)

/-- A cell that every world of these chunks has. -/
def Cel (w0 : World) (L : List HP) (a : Addr) (v : Value) : Prop := ∀ w, Sat w0 w L → w.cell? a = some v

/-- A block of cells, none frozen. -/
abbrev cel (g : Nat) (t : TypeId) (l : List Value) : HP := blk g (.cells l.toArray t (0, 0))

theorem Sat.cells {w0 w : World} {L F : List HP} {g : Nat} {t : TypeId} {l : List Value} (hs : Sat w0 w L) (hp : Pick L (cel g t l) F) : w.heap[g]? = some (.cells l.toArray t (0, 0)) := (hs.pick hp).blk_at.1
theorem Cel.own {w0 : World} {L F : List HP} {g : Nat} {t : TypeId} {l : List Value} {k : Nat} {v : Value} (hp : Pick L (cel g t l) F) (hv : l[k]? = some v) : Cel w0 L ⟨g, k, none⟩ v := fun w hs => by
  have := hs.cells hp
  simp [World.cell?, this, hv]
theorem Cel.cons {w0 : World} {L : List HP} {d : HP} {a : Addr} {v : Value} (h : Cel w0 L a v) : Cel w0 (d :: L) a v := fun w hs => h w hs.tail
theorem Cel.ent {w0 : World} {L L2 : List HP} {a : Addr} {v : Value} (h : Cel w0 L a v) (he : ∀ f, Star L2 f → Star L f) : Cel w0 L2 a v := fun w hs => h w (hs.mono he)

/-- Cells in a row, each of which every such world has. -/
def CelR (w0 : World) (L : List HP) (a : Addr) (vs : List Value) : Prop := ∀ j v, vs[j]? = some v → Cel w0 L (plus a j) v

inductive TakeR : List Value → Nat → Nat → List Value → Prop
  | nil {l : List Value} {k : Nat} : TakeR l k 0 []
  | cons {l : List Value} {k n : Nat} {v : Value} {vs : List Value} (h : l[k]? = some v) (r : TakeR l (k + 1) n vs) : TakeR l k (n + 1) (v :: vs)
theorem TakeR.get {l : List Value} {k n : Nat} {vs : List Value} (h : TakeR l k n vs) : vs.length = n ∧ ∀ j v, vs[j]? = some v → l[k + j]? = some v := by
  induction h with
  | nil => exact ⟨rfl, fun j v hj => by simp at hj⟩
  | cons h _ ih =>
    refine ⟨by simp [ih.1], fun j v hj => ?_⟩
    cases j with
    | zero => simp at hj; subst hj; exact h
    | succ j => have := ih.2 j v (by simpa using hj); rwa [show ∀ a b : Nat, a + (b + 1) = a + 1 + b from fun _ _ => by omega]

inductive SetR : List Value → Nat → Value → List Value → Prop
  | zero {x c : Value} {l : List Value} : SetR (x :: l) 0 c (c :: l)
  | succ {x c : Value} {l l' : List Value} {k : Nat} (h : SetR l k c l') : SetR (x :: l) (k + 1) c (x :: l')
theorem SetR.eq {l l' : List Value} {k : Nat} {c : Value} (h : SetR l k c l') : k < l.length ∧ l' = l.set k c := by
  induction h with
  | zero => simp
  | succ _ ih => simp [ih.1]; exact ih.2
inductive SetsR : List Value → Nat → List Value → List Value → Prop
  | nil {l : List Value} {k : Nat} : SetsR l k [] l
  | cons {l l1 l' : List Value} {k : Nat} {c : Value} {cs : List Value} (h : SetR l k c l1) (r : SetsR l1 (k + 1) cs l') : SetsR l k (c :: cs) l'

/-- The cells of a value. -/
inductive CellsR : Value → List Value → Prop
  | agg {l : List Value} : CellsR (.agg l.toArray) l
  | int {k : IntKind} {n : Int} : CellsR (.int k n) [.int k n]
  | bool {b : Bool} : CellsR (.bool b) [.bool b]
  | slice {a : Option Addr} {n m : Nat} : CellsR (.slice a n m) [.slice a n m]
  | string {s : ByteArray} : CellsR (.string s) [.string s]
  | pointer {a : Option Addr} : CellsR (.pointer a) [.pointer a]
  | map {a : Option Nat} : CellsR (.map a) [.map a]
  | func {f : Fn} {a b : Array Value} : CellsR (.func f a b) [.func f a b]
  | nilFunc : CellsR .nilFunc [.nilFunc]
  | iface {t : TypeId} {v : Value} : CellsR (.iface t v) [.iface t v]
  | nilIface : CellsR .nilIface [.nilIface]
theorem CellsR.eq {v : Value} {l : List Value} (h : CellsR v l) : v.cells.toList = l := by cases h <;> rfl
theorem CellsR.one {v : Value} (h : CellsR v [v]) : v.cells = #[v] := by
  have := h.eq
  apply Array.ext'; simpa using this

section
variable {c : Cx} {ops : Array Oper} {un : Nat → Nat → Bool} {K : St → Prop} {i : Nat} {rest : List (Nat × Nat × Oper)} {fs : Fs} {env : Env} {L : List HP} {ds : List Deferred}
variable {d : Tmp} {x y z : Operand} {ty t t2 : TypeId} {pos : String} {af : Array Edge} {g : Option (Nat × Bool)}

/-! ### Addresses -/
theorem Run.fa {a : Addr} {f off : Nat} (hf : fldB c.P t f = some off) (hx : opd env x = some (.pointer (some a)) := by rfl) (hs : a.spot = none := by rfl) (hg : gok ops env g = true := by rfl)
    (h : Run c ops un K rest fs ⟨(d, .pointer (some (plus a off))) :: env, L, ds⟩) : Run c ops un K ((i, 0, ⟨some d, .fieldAddr t x f, ty, pos, af, g⟩) :: rest) fs ⟨env, L, ds⟩ := by
  refine Run.calm (by simp [Op.operands, hx]) (by simp) (by simp) hg (fun w => ?_) h
  unfold fldB at hf
  split at hf <;> try contradiction
  rename_i fs' hu
  split at hf <;> try contradiction
  rename_i fl hfl
  split at hf <;> try contradiction
  rename_i inf hinf
  split at hf <;> try contradiction
  rename_i hne
  simp only [Option.some.injEq] at hf
  subst hf
  simp [execOp, rho_of hx, Instr.fieldAt, underlying, hu, hfl, Instr.sureAddr, fieldPlace, sizeOf, typeInfo, hinf, hne, add_plus hs]

theorem run_asIntOf {P : Program} {w : World} (k : IntKind) (n : Int) : (asIntOf (.int k n)).run P w = .ok (k, n) w := rfl

theorem Run.ia {a : Addr} {n cp sz : Nat} {e : TypeId} {k : IntKind} {j : Int} (ht : slcB c.P t = some (e, sz)) (hx : opd env x = some (.slice (some a) n cp) := by rfl) (hy : opd env y = some (.int k j) := by rfl) (hg : gok ops env g = true := by rfl)
    (h0 : 0 ≤ j) (h1 : j < n) (hs : a.spot = none := by rfl) (h : Run c ops un K rest fs ⟨(d, .pointer (some (plus a (j.toNat * sz)))) :: env, L, ds⟩) : Run c ops un K ((i, 0, ⟨some d, .indexAddr t x y, ty, pos, af, g⟩) :: rest) fs ⟨env, L, ds⟩ := by
  refine Run.calm (by simp [Op.operands, hx, hy]) (by simp) (by simp) hg (fun w => ?_) h
  unfold slcB szB at ht
  split at ht <;> try cases ht
  rename_i e' hu
  cases hi : c.P.info? e' with
  | none => rw [hi] at ht; cases ht
  | some inf =>
    rw [hi] at ht
    simp only [Option.map_some, Option.some.injEq, Prod.mk.injEq] at ht
    obtain ⟨rfl, rfl⟩ := ht
    simp [execOp, rho_of hx, rho_of hy, Instr.indexAt, run_asIntOf, underlying, hu, h0, h1, sizeOf, typeInfo, hi, add_plus hs]

/-- An element of an array behind a pointer. -/
theorem Run.iaA {a : Addr} {n sz : Nat} {k : IntKind} {j : Int} (ht : arrB c.P t = some (n, sz)) (hx : opd env x = some (.pointer (some a)) := by rfl) (hy : opd env y = some (.int k j) := by rfl) (hg : gok ops env g = true := by rfl)
    (h0 : 0 ≤ j) (h1 : j < n) (hs : a.spot = none := by rfl) (h : Run c ops un K rest fs ⟨(d, .pointer (some (plus a (j.toNat * sz)))) :: env, L, ds⟩) : Run c ops un K ((i, 0, ⟨some d, .indexAddr t x y, ty, pos, af, g⟩) :: rest) fs ⟨env, L, ds⟩ := by
  refine Run.calm (by simp [Op.operands, hx, hy]) (by simp) (by simp) hg (fun w => ?_) h
  unfold arrB szB at ht
  split at ht <;> try cases ht
  rename_i n' e' hu
  cases hi : c.P.info? e' with
  | none => rw [hi] at ht; cases ht
  | some inf =>
    rw [hi] at ht
    simp only [Option.map_some, Option.some.injEq, Prod.mk.injEq] at ht
    obtain ⟨rfl, rfl⟩ := ht
    simp [execOp, rho_of hx, rho_of hy, Instr.indexAt, Instr.sureAddr, run_asIntOf, underlying, hu, h0, h1, sizeOf, typeInfo, hi, add_plus hs]

/-! ### Slices -/
theorem Run.len {a : Option Addr} {n cp : Nat} {e : TypeId} {sz : Nat} (ht : slcB c.P t = some (e, sz)) (hx : opd env x = some (.slice a n cp) := by rfl) (hg : gok ops env g = true := by rfl)
    (h : Run c ops un K rest fs ⟨(d, .int .i64 n) :: env, L, ds⟩) : Run c ops un K ((i, 0, ⟨some d, .call { callee := .builtin .len, args := #[x], argTypes := #[t] }, ty, pos, af, g⟩) :: rest) fs ⟨env, L, ds⟩ := by
  refine Run.calm (by simp [Op.operands, Call.operands, hx]) (by simp) (by simp) hg (fun w => ?_) h
  unfold slcB at ht
  split at ht <;> try cases ht
  rename_i e' hu
  simp [execOp, resolve, invoke, builtin, rho_of hx, Builtin.len_, underlying, hu, goInt]

theorem run_sliceBound {P : Program} {w : World} {k : IntKind} {n : Int} {m : Nat} {code : BoundsCode} (h0 : 0 ≤ n) (h1 : n ≤ m) : (Instr.sliceBound (.int k n) m code).run P w = .ok n.toNat w := by
  simp [Instr.sliceBound, run_asIntOf, h0, h1]

theorem slice_run {P : Program} {w : World} {a : Option Addr} {n cp sz : Nat} {e : TypeId} {l h : Nat} {lo hi : Option Value} (ht : slcB P t = some (e, sz)) (hs : ∀ b, a = some b → b.spot = none)
    (hb : (Instr.sliceBounds true n cp lo hi none).run P w = .ok (l, h, cp) w) : (Instr.sliceAt t (.slice a n cp) lo hi none).run P w = .ok (.slice (cutA a l sz cp) (h - l) (cp - l)) w := by
  unfold slcB szB at ht
  split at ht <;> try cases ht
  rename_i e' hu
  cases hi' : P.info? e' with
  | none => rw [hi'] at ht; cases ht
  | some inf =>
    rw [hi'] at ht
    simp only [Option.map_some, Option.some.injEq, Prod.mk.injEq] at ht
    obtain ⟨rfl, rfl⟩ := ht
    simp [Instr.sliceAt, underlying, hu, Instr.slice, hb, sizeOf, typeInfo, hi']
    unfold cutA
    split
    · rfl
    · cases a with
      | none => rfl
      | some b => simp [add_plus (hs b rfl)]

theorem Run.sl {a : Option Addr} {n cp sz : Nat} {e : TypeId} {k k' : IntKind} {l h : Int} {xl xh : Operand} (ht : slcB c.P t = some (e, sz)) (hx : opd env x = some (.slice a n cp) := by rfl) (hl : opd env xl = some (.int k l) := by rfl) (hh : opd env xh = some (.int k' h) := by rfl) (hg : gok ops env g = true := by rfl)
    (h0 : 0 ≤ l) (h1 : l ≤ h) (h2 : h ≤ cp) (hs : ∀ b, a = some b → b.spot = none) (hr : Run c ops un K rest fs ⟨(d, .slice (cutA a l.toNat sz cp) (h.toNat - l.toNat) (cp - l.toNat)) :: env, L, ds⟩) : Run c ops un K ((i, 0, ⟨some d, .slice t x (some xl) (some xh) none, ty, pos, af, g⟩) :: rest) fs ⟨env, L, ds⟩ := by
  refine Run.calm (by simp [Op.operands, hx, hl, hh]) (by simp) (by simp) hg (fun w => ?_) hr
  have hb : (Instr.sliceBounds true n cp (some (.int k l)) (some (.int k' h)) none).run c.P w = .ok (l.toNat, h.toNat, cp) w := by
    have e1 := run_sliceBound (P := c.P) (w := w) (k := k') (n := h) (m := cp) (code := .sliceAcap) (by omega) (by omega)
    have e2 := run_sliceBound (P := c.P) (w := w) (k := k) (n := l) (m := h.toNat) (code := .sliceB) h0 (by omega)
    simp [Instr.sliceBounds, e1, e2]
  simp [execOp, rho_of hx, rho_of hl, rho_of hh, slice_run ht hs hb]
theorem Run.slL {a : Option Addr} {n cp sz : Nat} {e : TypeId} {k : IntKind} {l : Int} {xl : Operand} (ht : slcB c.P t = some (e, sz)) (hx : opd env x = some (.slice a n cp) := by rfl) (hl : opd env xl = some (.int k l) := by rfl) (hg : gok ops env g = true := by rfl)
    (h0 : 0 ≤ l) (h1 : l ≤ n) (hs : ∀ b, a = some b → b.spot = none) (hr : Run c ops un K rest fs ⟨(d, .slice (cutA a l.toNat sz cp) (n - l.toNat) (cp - l.toNat)) :: env, L, ds⟩) : Run c ops un K ((i, 0, ⟨some d, .slice t x (some xl) none none, ty, pos, af, g⟩) :: rest) fs ⟨env, L, ds⟩ := by
  refine Run.calm (by simp [Op.operands, hx, hl]) (by simp) (by simp) hg (fun w => ?_) hr
  have hb : (Instr.sliceBounds true n cp (some (.int k l)) none none).run c.P w = .ok (l.toNat, n, cp) w := by
    have e2 := run_sliceBound (P := c.P) (w := w) (k := k) (n := l) (m := n) (code := .sliceB) h0 (by omega)
    simp [Instr.sliceBounds, e2]
  simp [execOp, rho_of hx, rho_of hl, slice_run ht hs hb]
theorem Run.slH {a : Option Addr} {n cp sz : Nat} {e : TypeId} {k' : IntKind} {h : Int} {xh : Operand} (ht : slcB c.P t = some (e, sz)) (hx : opd env x = some (.slice a n cp) := by rfl) (hh : opd env xh = some (.int k' h) := by rfl) (hg : gok ops env g = true := by rfl)
    (h1 : 0 ≤ h) (h2 : h ≤ cp) (hs : ∀ b, a = some b → b.spot = none) (hr : Run c ops un K rest fs ⟨(d, .slice (cutA a 0 sz cp) h.toNat cp) :: env, L, ds⟩) : Run c ops un K ((i, 0, ⟨some d, .slice t x none (some xh) none, ty, pos, af, g⟩) :: rest) fs ⟨env, L, ds⟩ := by
  refine Run.calm (by simp [Op.operands, hx, hh]) (by simp) (by simp) hg (fun w => ?_) hr
  have hb : (Instr.sliceBounds true n cp none (some (.int k' h)) none).run c.P w = .ok (0, h.toNat, cp) w := by
    have e1 := run_sliceBound (P := c.P) (w := w) (k := k') (n := h) (m := cp) (code := .sliceAcap) (by omega) (by omega)
    simp [Instr.sliceBounds, e1]
  simp [execOp, rho_of hx, rho_of hh, slice_run ht hs hb]

/-! ### Loads -/
theorem run_loadVar_one {P : Program} {w : World} {a : Addr} {v : Value} (ht : aggB P t = some false) (hc : w.cell? a = some v) : (loadVar t a).run P w = .ok v w := by
  unfold aggB at ht
  cases hu : P.underlying t with
  | none => rw [hu] at ht; cases ht
  | some dd =>
    rw [hu] at ht
    have hA : (isAgg t).run P w = .ok false w := by
      cases dd <;> simp at ht <;> simp [isAgg, underlying, hu]
    simp [loadVar, hA, hc]

theorem run_loadVar_agg {P : Program} {w : World} {a : Addr} {vs : List Value} (ht : aggB P t = some true) (hn : szB P t = some vs.length) (hs : a.spot = none) (hc : ∀ j v, vs[j]? = some v → w.cell? (plus a j) = some v) : (loadVar t a).run P w = .ok (.agg vs.toArray) w := by
  unfold aggB at ht
  unfold szB at hn
  cases hu : P.underlying t with
  | none => rw [hu] at ht; cases ht
  | some dd =>
    rw [hu] at ht
    have hA : (isAgg t).run P w = .ok true w := by
      cases dd <;> simp at ht <;> simp [isAgg, underlying, hu]
    cases hi : P.info? t with
    | none => rw [hi] at hn; cases hn
    | some inf =>
      rw [hi] at hn
      simp only [Option.map_some, Option.some.injEq] at hn
      have hl := run_loadCells_list (P := P) w a vs (fun j v hj => by rw [add_plus hs]; exact hc j v hj)
      simp [loadVar, hA, sizeOf, typeInfo, hi, hn, hl]

/-- A load of one cell. -/
theorem Run.ldx {a : Addr} {v : Value} (ht : aggB c.P t = some false) (hc : Cel c.w0 L a v) (hx : opd env x = some (.pointer (some a)) := by rfl) (hg : gok ops env g = true := by rfl)
    (h : Run c ops un K rest ((i, fun w => (execOp (rho env) ⟨some d, .load t x, ty, pos, af, g⟩).run c.P w = .ok (.value v) w) :: fs) ⟨(d, v) :: env, L, ds⟩) : Run c ops un K ((i, 1, ⟨some d, .load t x, ty, pos, af, g⟩) :: rest) fs ⟨env, L, ds⟩ :=
  Run.reads (by simp [Op.operands, hx]) (by simp) (by simp) hg (fun w hs => by simp [execOp, rho_of hx, Instr.loadAt, Instr.sureAddr, run_loadVar_one ht (hc w hs)]) h
/-- A load of one cell, of a block that lies here. -/
theorem Run.ld {b k : Nat} {u : TypeId} {l : List Value} {F : List HP} {v : Value} (ht : aggB c.P t = some false) (hx : opd env x = some (.pointer (some ⟨b, k, none⟩)) := by rfl)
    (hp : Pick L (cel b u l) F := by repeat (first | exact Pick.here | apply Pick.there)) (hv : l[k]? = some v := by rfl) (hg : gok ops env g = true := by rfl)
    (h : Run c ops un K rest ((i, fun w => (execOp (rho env) ⟨some d, .load t x, ty, pos, af, g⟩).run c.P w = .ok (.value v) w) :: fs) ⟨(d, v) :: env, L, ds⟩) : Run c ops un K ((i, 1, ⟨some d, .load t x, ty, pos, af, g⟩) :: rest) fs ⟨env, L, ds⟩ :=
  Run.ldx ht (Cel.own hp hv) hx hg h
/-- A load of several cells. -/
theorem Run.ldxA {a : Addr} {n0 : Nat} {vs : List Value} (ht : aggB c.P t = some true) (hn : szB c.P t = some n0) (hc : CelR c.w0 L a vs) (hn0 : vs.length = n0 := by rfl) (hx : opd env x = some (.pointer (some a)) := by rfl) (hs : a.spot = none := by rfl) (hg : gok ops env g = true := by rfl)
    (h : Run c ops un K rest ((i, fun w => (execOp (rho env) ⟨some d, .load t x, ty, pos, af, g⟩).run c.P w = .ok (.value (.agg vs.toArray)) w) :: fs) ⟨(d, .agg vs.toArray) :: env, L, ds⟩) : Run c ops un K ((i, 1, ⟨some d, .load t x, ty, pos, af, g⟩) :: rest) fs ⟨env, L, ds⟩ :=
  Run.reads (by simp [Op.operands, hx]) (by simp) (by simp) hg (fun w hsat => by simp [execOp, rho_of hx, Instr.loadAt, Instr.sureAddr, run_loadVar_agg ht (by rw [hn, hn0]) hs (fun j v hj => hc j v hj w hsat)]) h
theorem Run.ldA {b k n : Nat} {u : TypeId} {l vs : List Value} {F : List HP} (ht : aggB c.P t = some true) (hn : szB c.P t = some n) (hx : opd env x = some (.pointer (some ⟨b, k, none⟩)) := by rfl)
    (hp : Pick L (cel b u l) F := by repeat (first | exact Pick.here | apply Pick.there)) (hv : TakeR l k n vs := by repeat (first | exact TakeR.nil | (apply TakeR.cons; rfl))) (hg : gok ops env g = true := by rfl)
    (h : Run c ops un K rest ((i, fun w => (execOp (rho env) ⟨some d, .load t x, ty, pos, af, g⟩).run c.P w = .ok (.value (.agg vs.toArray)) w) :: fs) ⟨(d, .agg vs.toArray) :: env, L, ds⟩) : Run c ops un K ((i, 1, ⟨some d, .load t x, ty, pos, af, g⟩) :: rest) fs ⟨env, L, ds⟩ :=
  Run.ldxA ht (by rw [hn, hv.get.1]) (fun j v hj => Cel.own hp (hv.get.2 j v hj)) rfl hx rfl hg h

/-! ### New blocks -/
theorem Run.al {l : List Value} (hz : zeroL c.P t = some l) (hg : gok ops env g = true := by rfl) (h : ∀ b, Run c ops un K rest fs ⟨(d, .pointer (some ⟨b, 0, none⟩)) :: env, cel b t l :: L, ds⟩) :
    Run c ops un K ((i, 2, ⟨some d, .alloc t, ty, pos, af, g⟩) :: rest) fs ⟨env, L, ds⟩ := by
  refine Run.news (ob := .cells l.toArray t (0, 0)) (val := fun b => .pointer (some ⟨b, 0, none⟩)) (by simp [Op.operands]) (by simp) (by simp) hg (fun w => ?_) h
  unfold zeroL at hz
  cases hi : c.P.info? t with
  | none => rw [hi] at hz; cases hz
  | some inf =>
    rw [hi] at hz
    cases hzz : inf.zero with
    | none => simp [hzz] at hz
    | some v =>
      simp [hzz] at hz
      subst hz
      simp [execOp, Instr.alloc, zeroValue, typeInfo, hi, hzz, newVar, newRow]
theorem Run.bx {v : Value} {l : List Value} (hx : opd env x = some v := by rfl) (hv : CellsR v l := by constructor) (hg : gok ops env g = true := by rfl) (h : ∀ b, Run c ops un K rest fs ⟨(d, .pointer (some ⟨b, 0, none⟩)) :: env, cel b t l :: L, ds⟩) :
    Run c ops un K ((i, 2, ⟨some d, .box t x, ty, pos, af, g⟩) :: rest) fs ⟨env, L, ds⟩ :=
  Run.news (ob := .cells l.toArray t (0, 0)) (val := fun b => .pointer (some ⟨b, 0, none⟩)) (by simp [Op.operands, hx]) (by simp) (by simp) hg (fun w => by
    have := hv.eq
    subst this
    simp [execOp, rho_of hx, Instr.box, newVar, newRow]) h

/-! ### Stores -/
theorem run_storeCells {P : Program} : ∀ (cs l l' : List Value) (b k n : Nat) (u : TypeId) (w : World), SetsR l (k + n) cs l' → (∀ x ∈ cs, x.oneCell' = true) → w.heap[b]? = some (.cells l.toArray u (0, 0)) →
    ∃ w', (storeCells ⟨b, k, none⟩ cs n).run P w = .ok () w' ∧ w'.os = w.os ∧ w'.tape = w.tape ∧ w'.output = w.output ∧ w'.heap.size = w.heap.size ∧ w'.heap[b]? = some (.cells l'.toArray u (0, 0)) ∧ ∀ j, j ≠ b → w'.heap[j]? = w.heap[j]?
  | [], l, l', b, k, n, u, w, hs, _, hw => by
    cases hs
    exact ⟨w, rfl, rfl, rfl, rfl, rfl, hw, fun _ _ => rfl⟩
  | v :: cs, l, l', b, k, n, u, w, hs, h1, hw => by
    cases hs with
    | @cons _ l1 _ _ _ _ h r =>
      obtain ⟨hlt, rfl⟩ := h.eq
      have hcell : w.cell? ((⟨b, k, none⟩ : Addr).add n) = some l[k + n] := by
        rw [add_plus rfl]
        simp [World.cell?, hw, hlt]
      have hfr : w.frozen? ((⟨b, k, none⟩ : Addr).add n) = false := by
        rw [add_plus rfl]
        simp [World.frozen?, hw]
      have hw1 : (w.setCell ((⟨b, k, none⟩ : Addr).add n) v).heap[b]? = some (.cells (l.set (k + n) v).toArray u (0, 0)) := by
        rw [add_plus rfl]
        simp [World.setCell, Array.getElem?_modify, hw]
      obtain ⟨w', hrun, e1, e2, e3, e4, e5, e6⟩ := run_storeCells (P := P) cs (l.set (k + n) v) l' b k (n + 1) u (w.setCell ((⟨b, k, none⟩ : Addr).add n) v) r (fun x hx => h1 x (List.mem_cons_of_mem _ hx)) hw1
      refine ⟨w', ?_, e1, e2, e3, by rw [e4]; simp, e5, fun j hj => (e6 j hj).trans ?_⟩
      · simp only [storeCells, Sem.run_bind]
        rw [run_store P w _ v .plain (h1 v List.mem_cons_self), hcell]
        simp only [hfr, Bool.false_eq_true, if_false, Result.andThen_ok]
        exact hrun
      · exact Below.heap_setCell w _ v j (by rw [add_plus rfl]; exact hj)

theorem run_storeVar {P : Program} {w0 w : World} {L F : List HP} {b k : Nat} {u : TypeId} {l l' cs : List Value} {v : Value} (hsz : szB P t = some cs.length) (hv : CellsR v cs) (h1 : ∀ x ∈ cs, x.oneCell' = true) (hs : SetsR l k cs l')
    (hp : Pick L (cel b u l) F) (hsat : Sat w0 w L) : ∃ w', (storeVar t ⟨b, k, none⟩ v).run P w = .ok () w' ∧ Sat w0 w' (cel b u l' :: F) := by
  have hw := hsat.cells hp
  obtain ⟨w', hrun, e1, e2, e3, e4, e5, e6⟩ := run_storeCells (P := P) cs l l' b k 0 u w hs h1 hw
  refine ⟨w', ?_, (hsat.pick hp).turn e1 e2 e3 e4 e5 e6⟩
  unfold szB at hsz
  cases hi : P.info? t with
  | none => rw [hi] at hsz; cases hsz
  | some inf =>
    rw [hi] at hsz
    simp only [Option.map_some, Option.some.injEq] at hsz
    have e7 : v.cells.size = inf.size := by rw [← Array.length_toList, hv.eq, hsz]
    simp [storeVar, sizeOf, typeInfo, hi, e7, hv.eq, hrun]

theorem Pick.app {L F : List HP} {x : HP} (h : Pick L x F) (G : List HP) : Pick (L ++ G) x (F ++ G) := by
  induction h with
  | here => exact .here
  | there _ ih => exact .there ih

theorem store_wpIn {o : Oper} {a : Act} {w w' : World} {ds : List Deferred} {Kx : Act → World → Prop} (ho : o.op = .store t x y) (hdst : o.dst = none) (hrun : (execOp a.eval o).run c.P w = .ok .skip w') (hk : Kx a w') :
    o.wpIn (FW c.r) 0 c.P a w Kx (c.Q a ds) := by
  refine ⟨fun _ _ => trivial, ?_⟩
  show o.uponIn (FW c.r) 0 c.P a _ _ ((o.semAt c.r a.eval).run c.P w)
  rw [Oper.semAt_eq _ _ _ (by rw [ho]; simp), hrun]
  simp only [Oper.uponIn, hdst]
  exact hk

/-- A store into a block that lies here. -/
theorem Run.st {b k n0 : Nat} {u : TypeId} {l l' cs : List Value} {F : List HP} {v : Value} (hsz : szB c.P t = some n0) (hx : opd env x = some (.pointer (some ⟨b, k, none⟩)) := by rfl) (hy : opd env y = some v := by rfl) (hv : CellsR v cs := by constructor) (hn0 : cs.length = n0 := by rfl)
    (h1 : ∀ e ∈ cs, e.oneCell' = true := by simp [Value.oneCell'])
    (hp : Pick L (cel b u l) F := by repeat (first | exact Pick.here | apply Pick.there)) (hs : SetsR l k cs l' := by repeat (first | exact SetsR.nil | (apply SetsR.cons; repeat (first | exact SetR.zero | apply SetR.succ)))) (hg : gok ops env g = true := by rfl)
    (hk : ∀ e ∈ fs, un e.1 i = true → ∀ w, Sat c.w0 w (cel b u l' :: F) → e.2 w := by (intro _ _ hq; cases hq))
    (h : Run c ops un K rest fs ⟨env, cel b u l' :: F, ds⟩) : Run c ops un K ((i, 3, ⟨none, .store t x y, ty, pos, af, g⟩) :: rest) fs ⟨env, L, ds⟩ := by
  subst hn0
  refine .inl ⟨defd_of (by simp [Op.operands, hx, hy]) (.inl hg), by simp, gok_wanted hg, by simp, fun _ L' => L' = cel b u l' :: F, fun a w ha _ hsat => ?_, fun _ => ⟨undef, _, rfl⟩, fun e he hu _ L' hL w hw => by subst hL; exact hk e he hu w hw, fun _ L' hL => by subst hL; exact h⟩
  obtain ⟨w', hrun, hs'⟩ := run_storeVar (t := t) hsz hv h1 hs hp hsat
  refine store_wpIn (w' := w') rfl rfl ?_ ⟨undef, _, rfl, rfl, hs'⟩
  rw [ha.exec (by simp)]
  simp [execOp, rho_of hx, rho_of hy, Instr.storeAt, Instr.sureAddr, hrun]
/-- The same, whatever else lies there. -/
theorem Run.st4 {b k n0 : Nat} {u : TypeId} {l l' cs : List Value} {F : List HP} {v : Value} (hsz : szB c.P t = some n0) (hx : opd env x = some (.pointer (some ⟨b, k, none⟩)) := by rfl) (hy : opd env y = some v := by rfl) (hv : CellsR v cs := by constructor) (hn0 : cs.length = n0 := by rfl)
    (h1 : ∀ e ∈ cs, e.oneCell' = true := by simp [Value.oneCell'])
    (hp : Pick L (cel b u l) F := by repeat (first | exact Pick.here | apply Pick.there)) (hs : SetsR l k cs l' := by repeat (first | exact SetsR.nil | (apply SetsR.cons; repeat (first | exact SetR.zero | apply SetR.succ)))) (hg : gok ops env g = true := by rfl)
    (hk : ∀ e ∈ fs, un e.1 i = true → ∀ w, Sat c.w0 w (cel b u l' :: F) → e.2 w := by (intro _ _ hq; cases hq))
    (h : Run c ops un K rest fs ⟨env, cel b u l' :: F, ds⟩) : Run c ops un K ((i, 4, ⟨none, .store t x y, ty, pos, af, g⟩) :: rest) fs ⟨env, L, ds⟩ := by
  subst hn0
  refine .inl ⟨defd_of (by simp [Op.operands, hx, hy]) (.inl hg), by simp, gok_wanted hg, by simp, fun _ L' => L' = cel b u l' :: F, fun G a w ha _ hsat => ?_, fun _ => ⟨undef, _, rfl⟩, fun e he hu _ L' hL w hw => by subst hL; exact hk e he hu w hw, fun _ L' hL => by subst hL; exact h⟩
  obtain ⟨w', hrun, hs'⟩ := run_storeVar (t := t) hsz hv h1 hs (hp.app G) hsat
  refine store_wpIn (w' := w') rfl rfl ?_ ⟨undef, _, rfl, rfl, hs'⟩
  rw [ha.exec (by simp)]
  simp [execOp, rho_of hx, rho_of hy, Instr.storeAt, Instr.sureAddr, hrun]
end
end Go.Sx
