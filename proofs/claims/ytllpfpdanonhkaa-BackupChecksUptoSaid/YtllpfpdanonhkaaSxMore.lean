/- The rules: stores into a row, copy, clear, equality, min, max, cap, interfaces, functions as values. No condition. -/
import Derived.Test.YtllpfpdanonhkaaSxBuild
namespace Go.Sx
open Go.RowKit

/-! ### A row over which cells are laid -/
theorem row_put {cur : Array Value} {l ys : List (List Value)} {sz k : Nat} (he : Els sz l) (hy : Els sz ys) (hk : k + ys.length ≤ l.length) (ht : cur.toList.take (l.length * sz) = l.flatten) :
    (cur.toList.take (k * sz) ++ ys.flatten ++ cur.toList.drop (k * sz + ys.flatten.length)).take ((l.take k ++ ys ++ l.drop (k + ys.length)).length * sz) = (l.take k ++ ys ++ l.drop (k + ys.length)).flatten := by
  have hyl := hy.len
  have hcur : cur.toList = l.flatten ++ cur.toList.drop (l.length * sz) := by rw [← ht]; exact (List.take_append_drop _ _).symm
  have hl : l = l.take k ++ l.drop k := (List.take_append_drop k l).symm
  have hA : (l.take k).flatten.length = k * sz := by rw [he.take.len, List.length_take, Nat.min_eq_left (by omega)]
  have hfl : l.flatten = (l.take k).flatten ++ (l.drop k).flatten := by rw [← List.flatten_append, ← hl]
  have h1 : cur.toList.take (k * sz) = (l.take k).flatten := by rw [hcur, hfl, List.append_assoc, ← hA]; exact List.take_left
  have hd : l.drop k = (l.drop k).take ys.length ++ l.drop (k + ys.length) := by rw [← List.drop_drop]; exact (List.take_append_drop _ _).symm
  have hB : ((l.drop k).take ys.length).flatten.length = ys.length * sz := by rw [he.drop.take.len, List.length_take, List.length_drop, Nat.min_eq_left (by omega)]
  have h2 : cur.toList.drop (k * sz + ys.flatten.length) = (l.drop (k + ys.length)).flatten ++ cur.toList.drop (l.length * sz) := by
    have e1 : cur.toList = ((l.take k).flatten ++ ((l.drop k).take ys.length).flatten) ++ ((l.drop (k + ys.length)).flatten ++ cur.toList.drop (l.length * sz)) := by
      rw [← List.append_assoc, List.append_assoc (l.take k).flatten, ← List.flatten_append, ← hd, ← hfl]; exact hcur
    have e2 : k * sz + ys.flatten.length = ((l.take k).flatten ++ ((l.drop k).take ys.length).flatten).length := by rw [List.length_append, hA, hB, hyl]
    rw [e2]
    conv => lhs; rw [e1]
    exact List.drop_left
  rw [h1, h2]
  have hE : Els sz (l.take k ++ ys ++ l.drop (k + ys.length)) := (he.take.app hy).app he.drop
  rw [← hE.len, List.flatten_append, List.flatten_append, ← List.append_assoc]
  exact List.take_left
theorem set_parts {l : List (List Value)} {j : Nat} {x : List Value} (h : j < l.length) : l.take j ++ [x] ++ l.drop (j + [x].length) = l.set j x := by
  rw [List.set_eq_take_append_cons_drop, if_pos h]
  simp

section
variable {w0 w : World} {L F : List HP} {e : TypeId} {sz : Nat} {ao : Option Addr} {cp : Nat} {l : List (List Value)}
/-- Elements are laid over a row's. -/
theorem put_run {P : Program} {ys : List (List Value)} {k : Nat} (hp : Pick L (Sx.row e sz ao cp l) F) (hs : Sat w0 w L) (hy : Els sz ys) (hk : k + ys.length ≤ l.length) (hne : ys ≠ []) :
    ∃ w', (storeCells (plus (adr ao) (k * sz)) ys.flatten 0).run P w = .ok () w' ∧ Sat w0 w' (Sx.row e sz ao cp (l.take k ++ ys ++ l.drop (k + ys.length)) :: F) := by
  obtain ⟨he, ⟨a, b, hc, _⟩ | ⟨g, cur, rfl, hlc, hcm, hcs, htk, hB⟩⟩ := (hs.pick hp).row
  · subst hc; simp at hk; exact absurd hk.2 hne
  · have hg := hB.blk_at.1
    have hyl := hy.len
    have hfit : k * sz + ys.flatten.length ≤ cur.size := by
      rw [hyl, hcs, ← Nat.add_mul]; exact Nat.mul_le_mul_right _ (Nat.le_trans hk hlc)
    have hst := run_storeCells_at P g (k * sz) e ys.flatten 0 cur w hg (by simpa using hfit) hy.one
    simp only [Nat.add_zero] at hst
    have e0 : plus (adr (some ⟨g, 0, none⟩)) (k * sz) = ⟨g, k * sz, none⟩ := by simp [plus, adr]
    refine ⟨_, by rw [e0]; exact hst, ?_⟩
    refine (hB.turn (w' := w.setRow g (cur.toList.take (k * sz) ++ ys.flatten ++ cur.toList.drop (k * sz + ys.flatten.length)).toArray) (o' := .cells (cur.toList.take (k * sz) ++ ys.flatten ++ cur.toList.drop (k * sz + ys.flatten.length)).toArray e (0, 0)) rfl rfl rfl (by simp [World.setRow]) (setRow_heap w g cur _ e _ hg) fun k hk => setRow_other w g k _ hk).toRow ((he.take.app hy).app he.drop) (by simp only [List.length_append, List.length_take, List.length_drop]; omega) hcm ?_ (row_put he hy hk htk)
    simp only [List.size_toArray, List.length_append, List.length_take, List.length_drop, Array.length_toList]
    omega
end

section
variable {c : Cx} {ops : Array Oper} {un : Nat → Nat → Bool} {K : St → Prop} {i : Nat} {rest : List (Nat × Nat × Oper)} {fs : Fs} {env : Env} {L : List HP} {ds : List Deferred}
variable {d : Tmp} {x y z : Operand} {ty t t2 : TypeId} {pos : String} {af : Array Edge} {g : Option (Nat × Bool)}

/-! ### Stores into a row -/
theorem add_add {a : Addr} (k n : Nat) : (plus a k).add n = plus a (k + n) := by
  rw [add_plus rfl]; simp [plus, Nat.add_assoc]

theorem sets_get : ∀ {vs l l' : List Value} {o : Nat}, SetsR l o vs l' → l'.length = l.length ∧ (vs ≠ [] → o + vs.length ≤ l.length) ∧ l' = if vs = [] then l else l.take o ++ vs ++ l.drop (o + vs.length) := fun {vs l l' o} h => by
  induction h with
  | nil => simp
  | @cons l l1 l' k c cs h r ih =>
    obtain ⟨hlt, rfl⟩ := h.eq
    obtain ⟨i1, i2, i3⟩ := ih
    simp only [List.length_set] at i1 i2
    have hb : k + (c :: cs).length ≤ l.length := by
      cases cs with
      | nil => simp; omega
      | cons => have := i2 (by simp); simp at this ⊢; omega
    refine ⟨i1, fun _ => hb, ?_⟩
    simp only [reduceCtorEq, if_false]
    rw [i3]
    split
    · rename_i h0; subst h0
      rw [List.set_eq_take_append_cons_drop, if_pos hlt]; simp
    · have e1 : (l.set k c).take (k + 1) = l.take k ++ [c] := by
        rw [List.set_eq_take_append_cons_drop, if_pos hlt, List.take_append, List.length_take, Nat.min_eq_left (by omega)]
        rw [List.take_of_length_le (by simp; omega), show k + 1 - k = 1 by omega]; simp
      have e2 : (l.set k c).drop (k + 1 + cs.length) = l.drop (k + (c :: cs).length) := by
        rw [List.drop_set_of_lt (by omega)]; congr 1; simp; omega
      rw [e1, e2]; simp

/-- Some cells of one element are laid anew. -/
theorem putAt_run {P : Program} {w0 w : World} {L F : List HP} {e : TypeId} {sz j o : Nat} {ao : Option Addr} {cp : Nat} {l : List (List Value)} {cs vs cs' : List Value} (hp : Pick L (Sx.row e sz ao cp l) F) (hs : Sat w0 w L) (hj : l[j]? = some cs) (hvs : SetsR cs o vs cs') (hne : vs ≠ []) (h1 : ∀ v ∈ vs, v.oneCell' = true) :
    ∃ w', (storeCells (plus (plus (adr ao) (j * sz)) o) vs 0).run P w = .ok () w' ∧ Sat w0 w' (Sx.row e sz ao cp (l.set j cs') :: F) := by
  obtain ⟨he, ⟨a, b, hc, _⟩ | ⟨g, cur, rfl, hlc, hcm, hcs, htk, hB⟩⟩ := (hs.pick hp).row
  · subst hc; simp at hj
  · have hg := hB.blk_at.1
    obtain ⟨s1, s2, s3⟩ := sets_get hvs
    have s2 := s2 hne
    rw [if_neg hne] at s3
    have hjl : j < l.length := (List.getElem?_eq_some_iff.1 hj).1
    have hcl := (he cs (List.mem_of_getElem? hj))
    have hfit : j * sz + o + vs.length ≤ cur.size := by
      have : (j + 1) * sz ≤ cp * sz := Nat.mul_le_mul_right _ (by omega)
      rw [Nat.succ_mul] at this; rw [hcs]; omega
    have hst := run_storeCells_at P g (j * sz + o) e vs 0 cur w hg (by simpa using hfit) h1
    simp only [Nat.add_zero] at hst
    have e0 : plus (plus (adr (some ⟨g, 0, none⟩)) (j * sz)) o = ⟨g, j * sz + o, none⟩ := by simp [plus, adr]
    have h1' : ∀ v ∈ cs', v.oneCell' = true := fun v hv => by
      rw [s3] at hv
      simp only [List.mem_append] at hv
      rcases hv with (hv | hv) | hv
      · exact hcl.2 v (List.mem_of_mem_take hv)
      · exact h1 v hv
      · exact hcl.2 v (List.mem_of_mem_drop hv)
    have he' : Els sz (l.set j cs') := he.set ⟨by rw [s1, hcl.1], h1'⟩
    have e1 := row_put (k := j) (ys := [cs']) he (Els.nil.cons ⟨by rw [s1, hcl.1], h1'⟩) (by simp; omega) htk
    rw [set_parts hjl] at e1
    have e2 : cur.toList.take (j * sz + o) ++ vs ++ cur.toList.drop (j * sz + o + vs.length) = cur.toList.take (j * sz) ++ [cs'].flatten ++ cur.toList.drop (j * sz + [cs'].flatten.length) := by
      have hmid : (cur.toList.drop (j * sz)).take sz = cs := by
        apply List.ext_getElem?
        intro q
        rw [List.getElem?_take]
        split
        · rename_i hq
          obtain ⟨v, hv⟩ : ∃ v, cs[q]? = some v := ⟨cs[q]'(by omega), List.getElem?_eq_getElem _⟩
          have hf := flat_at he hj hv
          rw [← htk, List.getElem?_take] at hf
          split at hf
          · rw [List.getElem?_drop, hf, hv]
          · cases hf
        · rw [List.getElem?_eq_none (by omega)]
      have hsp : cur.toList = cur.toList.take (j * sz) ++ cs ++ cur.toList.drop (j * sz + sz) := by
        conv => lhs; rw [← List.take_append_drop (j * sz) cur.toList, ← List.take_append_drop sz (cur.toList.drop (j * sz)), hmid, List.drop_drop]
        simp
      have hA : (cur.toList.take (j * sz)).length = j * sz := by rw [List.length_take, Array.length_toList, Nat.min_eq_left (by omega)]
      generalize hAe : cur.toList.take (j * sz) = A at *
      generalize hCe : cur.toList.drop (j * sz + sz) = C at *
      have t1 : cur.toList.take (j * sz + o) = A ++ cs.take o := by
        rw [hsp, List.append_assoc, List.take_append, hA, List.take_of_length_le (by omega), show j * sz + o - j * sz = o by omega, List.take_append_of_le_length (by omega)]
      have t2 : cur.toList.drop (j * sz + o + vs.length) = cs.drop (o + vs.length) ++ C := by
        rw [hsp, List.append_assoc, List.drop_append, hA, List.drop_eq_nil_of_le (by omega), show j * sz + o + vs.length - j * sz = o + vs.length by omega, List.drop_append_of_le_length (by omega)]
        simp
      rw [t1, t2, show j * sz + [cs'].flatten.length = j * sz + sz by simp [s1, hcl.1], hCe, s3]
      simp
    rw [e2] at hst
    refine ⟨_, by rw [e0]; exact hst, ?_⟩
    refine (hB.turn (w' := w.setRow g (cur.toList.take (j * sz) ++ [cs'].flatten ++ cur.toList.drop (j * sz + [cs'].flatten.length)).toArray) (o' := .cells (cur.toList.take (j * sz) ++ [cs'].flatten ++ cur.toList.drop (j * sz + [cs'].flatten.length)).toArray e (0, 0)) rfl rfl rfl (by simp [World.setRow]) (setRow_heap w g cur _ e _ hg) fun k hk => setRow_other w g k _ hk).toRow he' (by simpa using hlc) hcm ?_ e1
    simp only [List.size_toArray, List.length_append, List.length_take, List.length_drop, Array.length_toList, List.flatten_cons, List.flatten_nil, List.append_nil, s1, hcl.1]
    have : (j + 1) * sz ≤ cp * sz := Nat.mul_le_mul_right _ (by omega)
    rw [Nat.succ_mul] at this
    omega

theorem storeVar_cells {P : Program} {w w' : World} {a : Addr} {v : Value} {cs : List Value} (hsz : szB P t = some cs.length) (hv : CellsR v cs) (hrun : (storeCells a cs 0).run P w = .ok () w') : (storeVar t a v).run P w = .ok () w' := by
  unfold szB at hsz
  cases hi : P.info? t with
  | none => rw [hi] at hsz; cases hsz
  | some inf =>
    rw [hi] at hsz
    simp only [Option.map_some, Option.some.injEq] at hsz
    have e7 : v.cells.size = inf.size := by rw [← Array.length_toList, hv.eq, hsz]
    simp [storeVar, sizeOf, typeInfo, hi, e7, hv.eq, hrun]

/-- A store into an element of a row, at the cell o of it. -/
theorem Run.str {e : TypeId} {sz j o cp n0 : Nat} {ao : Option Addr} {l : List (List Value)} {cs vs cs' : List Value} {F : List HP} {v : Value} (hsz : szB c.P t = some n0) (hx : opd env x = some (.pointer (some (plus (plus (adr ao) (j * sz)) o))) := by rfl) (hy : opd env y = some v := by rfl) (hp : Pick L (row e sz ao cp l) F := by repeat (first | exact Pick.here | apply Pick.there)) (hg : gok ops env g = true := by rfl)
    (hj : l[j]? = some cs) (hv : CellsR v vs := by constructor) (hn0 : vs.length = n0 := by rfl) (h1 : ∀ e ∈ vs, e.oneCell' = true := by simp [Value.oneCell']) (hne : vs ≠ [] := by simp) (hs : SetsR cs o vs cs' := by repeat (first | exact SetsR.nil | (apply SetsR.cons; repeat (first | exact SetR.zero | apply SetR.succ)))) (hk : ∀ e' ∈ fs, un e'.1 i = true → ∀ w, Sat c.w0 w (row e sz ao cp (l.set j cs') :: F) → e'.2 w := by (intro _ _ hq; cases hq)) (h : Run c ops un K rest fs ⟨env, row e sz ao cp (l.set j cs') :: F, ds⟩) : Run c ops un K ((i, 3, ⟨none, .store t x y, ty, pos, af, g⟩) :: rest) fs ⟨env, L, ds⟩ := by
  refine .inl ⟨defd_of (by simp [Op.operands, hx, hy]) (.inl hg), by simp, gok_wanted hg, by simp, fun _ L' => L' = row e sz ao cp (l.set j cs') :: F, fun a w ha _ hsat => ?_, fun _ => ⟨undef, _, rfl⟩, fun e he hu _ L' hL w hw => by subst hL; exact hk e he hu w hw, fun _ L' hL => by subst hL; exact h⟩
  obtain ⟨w', hrun, hs'⟩ := putAt_run (P := c.P) hp hsat hj hs hne h1
  refine store_wpIn (w' := w') rfl rfl ?_ ⟨undef, _, rfl, rfl, hs'⟩
  rw [ha.exec (by simp)]
  simp [execOp, rho_of hx, rho_of hy, Instr.storeAt, Instr.sureAddr, storeVar_cells (by rw [hsz, hn0]) hv hrun]
theorem Run.str0 {e : TypeId} {sz j cp n0 : Nat} {ao : Option Addr} {l : List (List Value)} {cs vs cs' : List Value} {F : List HP} {v : Value} (hsz : szB c.P t = some n0) (hx : opd env x = some (.pointer (some (plus (adr ao) (j * sz)))) := by rfl) (hy : opd env y = some v := by rfl) (hp : Pick L (row e sz ao cp l) F := by repeat (first | exact Pick.here | apply Pick.there)) (hg : gok ops env g = true := by rfl)
    (hj : l[j]? = some cs) (hv : CellsR v vs := by constructor) (hn0 : vs.length = n0 := by rfl) (h1 : ∀ e ∈ vs, e.oneCell' = true := by simp [Value.oneCell']) (hne : vs ≠ [] := by simp) (hs : SetsR cs 0 vs cs' := by repeat (first | exact SetsR.nil | (apply SetsR.cons; repeat (first | exact SetR.zero | apply SetR.succ)))) (hk : ∀ e' ∈ fs, un e'.1 i = true → ∀ w, Sat c.w0 w (row e sz ao cp (l.set j cs') :: F) → e'.2 w := by (intro _ _ hq; cases hq)) (h : Run c ops un K rest fs ⟨env, row e sz ao cp (l.set j cs') :: F, ds⟩) : Run c ops un K ((i, 3, ⟨none, .store t x y, ty, pos, af, g⟩) :: rest) fs ⟨env, L, ds⟩ :=
  Run.str (o := 0) (hsz := hsz) (hx := by rw [hx]; rfl) (hy := hy) (hp := hp) (hg := hg) (hj := hj) (hv := hv) (hn0 := hn0) (h1 := h1) (hne := hne) (hs := hs) (hk := hk) (h := h)

/-! ### copy -/
theorem builtin_wpIn {o : Oper} {a : Act} {w w' : World} {ds : List Deferred} {b : Builtin} {xs : List Operand} {at' : Array TypeId} {Kx : Act → World → Prop} {v : Value} (ho : o.op = .call { callee := .builtin b, args := xs.toArray, argTypes := at' })
    (hrun : (execOp a.eval o).run c.P w = .ok (.value v) w') (hk : Kx (a.put o.dst v) w') : o.wpIn (FW c.r) 0 c.P a w Kx (c.Q a ds) := by
  refine ⟨?_, ?_⟩
  · simp [Oper.about, ho, resolve, Target.leads, Sem.run_pure]
  · rw [Oper.semAt_eq _ _ _ (by rw [ho]; simp), hrun]
    exact hk

/-- What is copied into part of a row. -/
theorem Run.cpy {ao bo so : Option Addr} {m n cp cq cr sz by' k : Nat} {e : TypeId} {zl : List Value} {F : List HP} {l xs l2 : List (List Value)} (ht : elB c.P t = some (e, zl, sz, by')) (hx : opd env x = some (.slice bo m cq) := by rfl) (hy : opd env y = some (.slice so n cr) := by rfl) (hp : Pick L (row e sz ao cp l) F := by repeat (first | exact Pick.here | apply Pick.there)) (hg : gok ops env g = true := by rfl)
    (hR : RdS c.w0 L sz so xs) (hbo : m ≠ 0 → bo = some (plus (adr ao) (k * sz))) (hk0 : k + m ≤ l.length) (hl2 : l.take k ++ xs.take (min n m) ++ l.drop (k + min n m) = l2) (hn : n = xs.length := by first | rfl | simp) (hk : ∀ e' ∈ fs, un e'.1 i = true → ∀ w, Sat c.w0 w (row e sz ao cp l2 :: F) → e'.2 w := by (intro _ _ hq; cases hq)) (h : Run c ops un K rest fs ⟨(d, .int .i64 (min n m : Nat)) :: env, row e sz ao cp l2 :: F, ds⟩) : Run c ops un K ((i, 3, ⟨some d, .call { callee := .builtin .copy, args := #[x, y], argTypes := #[t, t] }, ty, pos, af, g⟩) :: rest) fs ⟨env, L, ds⟩ := by
  subst hn
  subst hl2
  refine .inl ⟨defd_of (by simp [Op.operands, Call.operands, hx, hy]) (.inl hg), by simp, gok_wanted hg, by simp, fun u L' => u = .int .i64 (min xs.length m : Nat) ∧ L' = row e sz ao cp (l.take k ++ xs.take (min xs.length m) ++ l.drop (k + min xs.length m)) :: F, fun a w ha _ hs => ?_, fun _ => ⟨_, _, rfl, rfl⟩, fun e' he hu u L' ⟨_, hL⟩ w hw => by subst hL; exact hk e' he hu w hw, fun u L' ⟨hu, hL⟩ => by subst hu hL; exact h⟩
  obtain ⟨hu, inf, zv, hi, hz, rfl, rfl, hzs, hpos, rfl⟩ := elB_spec ht
  have hev := ha.eval
  have e1 : a.eval x = .slice bo m cq := (hev x (by simp [Op.operands, Call.operands])).trans (rho_of hx)
  have e2 : a.eval y = .slice so xs.length cr := (hev y (by simp [Op.operands, Call.operands])).trans (rho_of hy)
  have hlen : (xs.take (min xs.length m)).length = min xs.length m := by rw [List.length_take]; omega
  -- what is read
  have hfc : (Builtin.firstCells inf.size (min xs.length m) (.slice so xs.length cr)).run c.P w = .ok (xs.take (min xs.length m)).flatten.toArray w := by
    cases so with
    | none =>
      rcases hR.base with rfl | ⟨_, h⟩
      · simp [Builtin.firstCells]
      · cases h
    | some b =>
      refine run_firstCells_some (P := c.P) w inf.size _ b _ cr _ (by rw [hR.els.take.len, hlen]) fun j u hu => ?_
      have hR' : RdS c.w0 L inf.size (some b) (xs.take (min xs.length m)) := ⟨hR.els.take, .inr ⟨b, rfl⟩, hR.spot.imp (fun h => by rw [h, List.take_nil]) id, fun q cs hq => hR.cel q cs (by rw [List.getElem?_take] at hq; split at hq <;> simp_all)⟩
      exact hR'.news hs j u hu
  by_cases h0 : xs.take (min xs.length m) = []
  · have hm0 : min xs.length m = 0 := by rw [h0] at hlen; simpa using hlen.symm
    refine builtin_wpIn (w' := w) (v := .int .i64 (min xs.length m : Nat)) (b := .copy) (xs := [x, y]) rfl ?_ ⟨_, _, rfl, ⟨rfl, rfl⟩, ?_⟩
    · have hc0 : (Builtin.copy_ #[t, t] ty #[.slice bo m cq, .slice so xs.length cr]).run c.P w = .ok (.int .i64 (min xs.length m : Nat)) w := by
        rw [h0] at hfc
        cases bo <;> simp [Builtin.copy_, run_underlying hu, Builtin.lenOf, sizeOf, typeInfo, hi, hfc, storeCells, goInt]
      simp [execOp, resolve, invoke, builtin, e1, e2, hc0]
    · simpa [h0, hm0] using hs.pick hp
  · have hmpos : m ≠ 0 := fun hm => h0 (by simp [hm])
    obtain ⟨w', hrun, hs'⟩ := put_run (P := c.P) (k := k) hp hs hR.els.take (by rw [hlen]; omega) h0
    rw [hlen] at hs'
    refine builtin_wpIn (w' := w') (v := .int .i64 (min xs.length m : Nat)) (b := .copy) (xs := [x, y]) rfl ?_ ⟨_, _, rfl, ⟨rfl, rfl⟩, hs'⟩
    have hc0 : (Builtin.copy_ #[t, t] ty #[.slice bo m cq, .slice so xs.length cr]).run c.P w = .ok (.int .i64 (min xs.length m : Nat)) w' := by
      rw [hbo hmpos]
      simp [Builtin.copy_, run_underlying hu, Builtin.lenOf, sizeOf, typeInfo, hi, hfc, hrun, goInt]
    simp [execOp, resolve, invoke, builtin, e1, e2, hc0]

/-- Part of a row is cleared. -/
theorem Run.clr {ao bo : Option Addr} {m cp cq sz by' k : Nat} {e : TypeId} {zl : List Value} {F : List HP} {l l2 : List (List Value)} (ht : elB c.P t = some (e, zl, sz, by')) (hx : opd env x = some (.slice bo m cq) := by rfl) (hp : Pick L (row e sz ao cp l) F := by repeat (first | exact Pick.here | apply Pick.there)) (hg : gok ops env g = true := by rfl)
    (hz1 : ∀ v ∈ zl, v.oneCell' = true) (hbo : m ≠ 0 → bo = some (plus (adr ao) (k * sz))) (hk0 : k + m ≤ l.length) (hl2 : l.take k ++ List.replicate m zl ++ l.drop (k + m) = l2)
    (hk : ∀ e' ∈ fs, un e'.1 i = true → ∀ w, Sat c.w0 w (row e sz ao cp l2 :: F) → e'.2 w := by (intro _ _ hq; cases hq))
    (h : Run c ops un K rest fs ⟨env, row e sz ao cp l2 :: F, ds⟩) : Run c ops un K ((i, 3, ⟨none, .call { callee := .builtin .clear, args := #[x], argTypes := #[t] }, ty, pos, af, g⟩) :: rest) fs ⟨env, L, ds⟩ := by
  subst hl2
  refine .inl ⟨defd_of (by simp [Op.operands, Call.operands, hx]) (.inl hg), by simp, gok_wanted hg, by simp, fun u L' => L' = row e sz ao cp (l.take k ++ List.replicate m zl ++ l.drop (k + m)) :: F, fun a w ha _ hs => ?_, fun _ => ⟨undef, _, rfl⟩, fun e' he hu u L' hL w hw => by subst hL; exact hk e' he hu w hw, fun u L' hL => by subst hL; exact h⟩
  obtain ⟨hu, inf, zv, hi, hz, rfl, rfl, hzs, hpos, rfl⟩ := elB_spec ht
  have e1 : a.eval x = .slice bo m cq := (ha.eval x (by simp [Op.operands, Call.operands])).trans (rho_of hx)
  by_cases hm : m = 0
  · subst hm
    refine builtin_wpIn (w' := w) (v := .tuple #[]) (b := .clear) (xs := [x]) rfl ?_ ⟨undef, _, rfl, rfl, ?_⟩
    · have hc0 : (Builtin.clear_ #[t] ty #[.slice bo 0 cq]).run c.P w = .ok (.tuple #[]) w := by
        cases bo <;> simp [Builtin.clear_, run_underlying hu]
      simp [execOp, resolve, invoke, builtin, e1, hc0]
    · simpa using hs.pick hp
  · have hne : List.replicate m zv.cells.toList ≠ [] := by intro h0; exact hm (by simpa using congrArg List.length h0)
    obtain ⟨w', hrun, hs'⟩ := put_run (P := c.P) (k := k) (ys := List.replicate m zv.cells.toList) hp hs (Els.rep ⟨by simpa using hzs, hz1⟩) (by simpa using hk0) hne
    rw [List.length_replicate] at hs'
    refine builtin_wpIn (w' := w') (v := .tuple #[]) (b := .clear) (xs := [x]) rfl ?_ ⟨undef, _, rfl, rfl, hs'⟩
    have hzc : (Builtin.zeroCells zv.cells m).toList = (List.replicate m zv.cells.toList).flatten := by
      have := madeCells_rep hzs m
      rw [← this]
      simp [Builtin.zeroCells, madeCells, hzs]
    have hc0 : (Builtin.clear_ #[t] ty #[.slice bo m cq]).run c.P w = .ok (.tuple #[]) w' := by
      rw [hbo hm]
      obtain ⟨m', rfl⟩ : ∃ q, m = q + 1 := ⟨m - 1, by omega⟩
      simp [Builtin.clear_, run_underlying hu, zeroValue, typeInfo, hi, hz, hzc, hrun]
    simp [execOp, resolve, invoke, builtin, e1, hc0]
end
end Go.Sx
