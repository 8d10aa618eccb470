/- The rules: struct and slice literals, copy, clear, stores into a row, equality, min, max, interfaces. No condition. -/
import Derived.Test.YtllpfpdanonhkaaSxApp
namespace Go.Sx
open Go.RowKit

/-! ### Cells laid over cells -/
theorem fold_sets {off : Nat} : ∀ (cs : List Value) (j : Nat) (l l' : List Value), SetsR l (off + j) cs l' →
    (cs.zipIdx j).foldl (fun a (x : Value × Nat) => a.setIfInBounds (off + x.2) x.1) l.toArray = l'.toArray ∧ l'.length = l.length ∧ (cs = [] ∨ off + j + cs.length ≤ l.length)
  | [], _, _, _, h => by cases h; simp
  | c :: cs, j, l, l', h => by
    cases h with
    | @cons _ l1 _ _ _ _ h r =>
      obtain ⟨hlt, rfl⟩ := h.eq
      obtain ⟨e1, e2, e3⟩ := fold_sets (off := off) cs (j + 1) _ l' r
      refine ⟨?_, by simpa using e2, .inr ?_⟩
      · simp only [List.zipIdx_cons, List.foldl_cons]
        rw [← e1]; simp
      · simp only [List.length_set, List.length_cons] at e3 ⊢
        rcases e3 with rfl | e3
        · simp; omega
        · omega

theorem fold_cells {v : Value} {cs l l' : List Value} {off : Nat} (hv : CellsR v cs) (hs : SetsR l off cs l') :
    v.cells.zipIdx.foldl (fun a (x : Value × Nat) => a.setIfInBounds (off + x.2) x.1) l.toArray = l'.toArray ∧ l'.length = l.length ∧ (cs = [] ∨ off + cs.length ≤ l.length) := by
  have h := fold_sets (off := off) cs 0 l l' (by simpa using hs)
  have hc : v.cells = cs.toArray := by apply Array.ext'; simpa using hv.eq
  rw [hc]
  simpa using h

inductive FillV (pl : List (Nat × Nat)) : List Value → List (Nat × Value) → List Value → Prop
  | nil {l : List Value} : FillV pl l [] l
  | cons {i off sz : Nat} {v : Value} {cs l l1 l' : List Value} {ps : List (Nat × Value)} (hp : pl[i]? = some (off, sz)) (hv : CellsR v cs) (hl : cs.length = sz) (hb : off + cs.length ≤ l.length) (hs : SetsR l off cs l1) (r : FillV pl l1 ps l') : FillV pl l ((i, v) :: ps) l'
theorem FillV.run {pl : List (Nat × Nat)} {place : Nat → Option (Nat × Nat)} (hpl : ∀ i x, pl[i]? = some x → place i = some x) {l l' : List Value} {ps : List (Nat × Value)} (h : FillV pl l ps l') : Instr.fill place l.toArray ps = some l'.toArray := by
  induction h with
  | nil => rfl
  | cons hp hv hl hb hs _ ih =>
    have hc : ∀ {v : Value} {cs : List Value}, CellsR v cs → v.cells.size = cs.length := fun h => by rw [← h.eq]; simp
    have hz := hc hv
    simp only [Instr.fill, hpl _ _ hp, hz, hl]
    rw [if_neg (by simp; omega), (fold_cells hv hs).1]
    exact ih

inductive FillR (env : Env) (pl : List (Nat × Nat)) : List Value → List (Nat × Operand) → List Value → Prop
  | nil {l : List Value} : FillR env pl l [] l
  | cons {i off sz : Nat} {x : Operand} {v : Value} {cs l l1 l' : List Value} {ps : List (Nat × Operand)} (hp : pl[i]? = some (off, sz)) (hx : opd env x = some v) (hv : CellsR v cs) (hl : cs.length = sz) (hb : off + cs.length ≤ l.length) (hs : SetsR l off cs l1) (r : FillR env pl l1 ps l') : FillR env pl l ((i, x) :: ps) l'
theorem FillR.val {env : Env} {pl : List (Nat × Nat)} {l l' : List Value} {ps : List (Nat × Operand)} (h : FillR env pl l ps l') : FillV pl l (ps.map fun p => (p.1, rho env p.2)) l' ∧ ∀ p ∈ ps, (opd env p.2).isSome = true := by
  induction h with
  | nil => exact ⟨.nil, by simp⟩
  | cons hp hx hv hl hb hs _ ih =>
    refine ⟨?_, ?_⟩
    · simp only [List.map_cons, rho_of hx]; exact .cons hp hv hl hb hs ih.1
    · intro p hp'
      rcases List.mem_cons.1 hp' with rfl | h
      · simp [hx]
      · exact ih.2 p h

/-- Elements one by one, from k on. -/
inductive SeqR (env : Env) (sz : Nat) : Nat → List (Nat × Operand) → List (List Value) → Prop
  | nil {k : Nat} : SeqR env sz k [] []
  | cons {k : Nat} {x : Operand} {v : Value} {cs : List Value} {ps : List (Nat × Operand)} {xs : List (List Value)} (hx : opd env x = some v) (hv : CellsR v cs) (hl : cs.length = sz) (h1 : ∀ e ∈ cs, e.oneCell' = true) (r : SeqR env sz (k + 1) ps xs) : SeqR env sz k ((k, x) :: ps) (cs :: xs)

theorem sets_mid : ∀ (cs pre z : List Value) , cs.length ≤ z.length → SetsR (pre ++ z) pre.length cs (pre ++ cs ++ z.drop cs.length)
  | [], pre, z, _ => by simpa using SetsR.nil
  | c :: cs, pre, [], h => by simp at h
  | c :: cs, pre, y :: z, h => by
    have ih := sets_mid cs (pre ++ [c]) z (by simpa using h)
    refine SetsR.cons (l1 := pre ++ c :: z) ?_ (by simpa using ih)
    have : ∀ pre : List Value, SetR (pre ++ y :: z) pre.length c (pre ++ c :: z) := fun pre => by
      induction pre with
      | nil => exact SetR.zero
      | cons p pre ih => exact SetR.succ ih
    exact this pre

theorem SeqR.run {env : Env} {sz : Nat} {k : Nat} {ps : List (Nat × Operand)} {xs : List (List Value)} (h : SeqR env sz k ps xs) : (∀ p ∈ ps, (opd env p.2).isSome = true) ∧ Els sz xs ∧ ps.length = xs.length ∧
    ∀ pre z : List Value, pre.length = k * sz → z.length = xs.length * sz → Instr.fill (fun i => some (i * sz, sz)) (pre ++ z).toArray (ps.map fun p => (p.1, rho env p.2)) = some (pre ++ xs.flatten).toArray := by
  induction h with
  | nil => exact ⟨by simp, Els.nil, rfl, fun pre z h1 h2 => by
      have : z = [] := List.eq_nil_of_length_eq_zero (by simpa using h2)
      subst this; simp [Instr.fill]⟩
  | @cons k x v cs ps xs hx hv hl h1 _ ih =>
    obtain ⟨i1, i2, i3, i4⟩ := ih
    refine ⟨fun p hp => ?_, i2.cons ⟨hl, h1⟩, by simp [i3], fun pre z e1 e2 => ?_⟩
    · rcases List.mem_cons.1 hp with rfl | h
      · simp [hx]
      · exact i1 p h
    · have hz : v.cells.size = sz := by rw [← hl, ← hv.eq]; simp
      have hlen : cs.length ≤ z.length := by rw [e2, hl, List.length_cons, Nat.succ_mul]; omega
      have hs := sets_mid cs pre z hlen
      rw [e1] at hs
      have hf := fold_cells hv hs
      simp only [List.map_cons, Instr.fill, rho_of hx, hz]
      rw [if_neg (by simp; omega), hf.1]
      have h4 := i4 (pre ++ cs) (z.drop cs.length) (by simp only [List.length_append, e1, hl, Nat.succ_mul]) (by simp only [List.length_drop, e2, hl, List.length_cons, Nat.succ_mul]; omega)
      rw [h4]
      simp [List.append_assoc]

section
variable {c : Cx} {ops : Array Oper} {un : Nat → Nat → Bool} {K : St → Prop} {i : Nat} {rest : List (Nat × Nat × Oper)} {fs : Fs} {env : Env} {L : List HP} {ds : List Deferred}
variable {d : Tmp} {x y z : Operand} {ty t t2 : TypeId} {pos : String} {af : Array Edge} {g : Option (Nat × Bool)}

theorem places_run {P : Program} {w : World} : ∀ {fs : List Go.Field} {pl : List (Nat × Nat)}, (fs.mapM fun f => (szB P f.type).map (f.offset, ·)) = some pl → (fs.mapM fun f => (do pure (f.offset, ← sizeOf f.type) : Sem (Nat × Nat))).run P w = .ok pl w
  | [], pl, h => by simp at h; subst h; rfl
  | f :: fs, pl, h => by
    simp only [List.mapM_cons, Option.bind_eq_bind, Option.bind_eq_some_iff] at h
    obtain ⟨a, ha, b, hb, hpl⟩ := h
    have ih := places_run (P := P) (w := w) hb
    cases hi : P.info? f.type with
    | none => simp [szB, hi] at ha
    | some inf =>
      simp [szB, hi] at ha hpl
      subst ha; subst hpl
      have hs : (sizeOf f.type).run P w = .ok inf.size w := by simp [sizeOf, typeInfo, hi]
      simp only [List.mapM_cons, Sem.run_bind, hs, ih, Result.andThen_ok, Sem.run_pure]

/-- A struct's value, built. -/
theorem Run.bd {parts : List (Nat × Operand)} {zl l : List Value} {pl : List (Nat × Nat)} (ht : strB c.P t = some (zl, pl))
    (hf : FillR env pl zl parts l := by repeat (first | exact FillR.nil | (apply FillR.cons; rfl; rfl; constructor; rfl; exact Nat.le_of_ble_eq_true rfl; (repeat (first | exact SetsR.nil | (apply SetsR.cons; repeat (first | exact SetR.zero | apply SetR.succ))))))) (hg : gok ops env g = true := by rfl)
    (h : Run c ops un K rest fs ⟨(d, .agg l.toArray) :: env, L, ds⟩) : Run c ops un K ((i, 0, ⟨some d, .build t parts.toArray, ty, pos, af, g⟩) :: rest) fs ⟨env, L, ds⟩ := by
  obtain ⟨hv, ho⟩ := hf.val
  refine Run.calm (by intro y hy; simp [Op.operands] at hy; obtain ⟨a, hy⟩ := hy; exact ho _ hy) (by simp) (by simp) hg (fun w => ?_) h
  unfold strB at ht
  split at ht <;> try cases ht
  rename_i fs' z' hu hz
  simp only [Option.map_eq_some_iff] at ht
  obtain ⟨pl', hpl, e⟩ := ht
  simp only [Prod.mk.injEq] at e
  obtain ⟨rfl, rfl⟩ := e
  have hr := places_run (P := c.P) (w := w) hpl
  unfold zeroL at hz
  cases hi : c.P.info? t with
  | none => rw [hi] at hz; cases hz
  | some inf =>
    rw [hi] at hz
    cases hzz : inf.zero with
    | none => simp [hzz] at hz
    | some v0 =>
      simp [hzz] at hz
      have hfill := hv.run (place := fun k => pl'[k]?) (fun _ _ h => h)
      have e0 : v0.cells = z'.toArray := by rw [← hz]
      have e1 : (fs'.mapM fun f => (do pure (f.offset, ← sizeOf f.type) : Sem (Nat × Nat))).run c.P w = .ok pl'.toArray w := by
        rw [← Array.toArray_toList (xs := fs')]
        simp only [List.mapM_toArray, Sem.run_map, hr, Result.andThen_ok]
      simp [execOp, Instr.build, zeroValue, typeInfo, hi, hzz, underlying, hu, e0] at e1 ⊢
      simp [e1, hfill]

/-- A slice's value, built. -/
theorem Run.bs {n sz by' : Nat} {e : TypeId} {zl : List Value} {parts : List (Nat × Operand)} {xs : List (List Value)} (ht : elB c.P t = some (e, zl, sz, by')) (hsz : Nat.ble (n * sz) 4096 = true := by rfl)
    (hf : SeqR env sz 0 parts xs := by repeat (first | exact SeqR.nil | (apply SeqR.cons; rfl; constructor; rfl; simp [Value.oneCell']))) (hn : parts.length = n := by rfl) (hg : gok ops env g = true := by rfl)
    (h : ∀ q, Run c ops un K rest fs ⟨(d, .slice (some ⟨q, 0, none⟩) n n) :: env, row e sz (some ⟨q, 0, none⟩) n xs :: L, ds⟩)
    (hK : ∀ S S2, Ent S2 S → K S → K S2 := by first | exact fun _ _ he h => At.ent he h | exact ScEnd.closed) : Run c ops un K ((i, 2, ⟨some d, .buildSlice t n parts.toArray, ty, pos, af, g⟩) :: rest) fs ⟨env, L, ds⟩ := by
  obtain ⟨hu, inf, zv, hi, hz, rfl, rfl, hzs, hpos, rfl⟩ := elB_spec ht
  obtain ⟨ho, he, hl, hrun⟩ := hf.run
  have hxn : xs.length = n := by omega
  have hfl := he.len
  have hble := Nat.le_of_ble_eq_true hsz
  refine Run.news (ob := .cells xs.flatten.toArray e (0, 0)) (val := fun q => .slice (some ⟨q, 0, none⟩) n n) (by intro y hy; simp [Op.operands] at hy; obtain ⟨a, hy⟩ := hy; exact ho _ hy) (by simp) (by simp) hg (fun w => ?_) fun q => ?_
  · have h1 := hrun [] ((Array.range (n * inf.size)).map (zv.cells[· % zv.cells.size]!)).toList (by simp) (by simp [hxn])
    simp only [List.nil_append, Array.toArray_toList] at h1
    have hle : ¬ (n * inf.size > 2 ^ 24) := by omega
    by_cases h0 : n * inf.size = 0
    · simp only [h0] at h1
      have h1' : Instr.fill (fun i => some (i * inf.size, inf.size)) #[] (parts.map fun p => (p.1, rho env p.2)) = some xs.flatten.toArray := by simpa [Array.range_zero'] using h1
      simp [execOp, Instr.buildSlice, underlying, hu, sizeOf, typeInfo, hi, h0, Array.range_zero', h1', newRow]
    · simp [execOp, Instr.buildSlice, underlying, hu, sizeOf, typeInfo, zeroValue, hi, hz, h0, h1, newRow, show ¬ (16777216 < n * inf.size) by omega]
  · refine Run.closed hK rest fs fs ⟨(d, .slice (some ⟨q, 0, none⟩) n n) :: env, row e inf.size (some ⟨q, 0, none⟩) n xs :: L, ds⟩ _ ⟨fun _ _ h => h, fun f hf => ?_, rfl⟩ (fun _ h => h) (h q)
    obtain ⟨f1, hl, hb, hst⟩ := hf
    have h5 : 1 ≤ inf.size := hpos
    have h6 : n ≤ n * inf.size := Nat.le_mul_of_pos_right _ h5
    refine ⟨f1, hl, ⟨he, .inr ⟨q, _, rfl, hb, by omega, by simp only [maxLen]; omega, by simp only [List.size_toArray, hfl, hxn], ?_⟩⟩, hst⟩
    rw [← hfl]
    exact List.take_length
end
end Go.Sx
