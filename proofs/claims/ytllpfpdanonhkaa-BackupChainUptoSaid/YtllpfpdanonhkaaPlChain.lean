/- Plain: what a list of runs does to bytes, told by cells; a chain of archives, each of what has turned, is the device at its last moment. No condition. -/
import Derived.Test.YtllpfpdanonhkaaPlJoin
import Derived.Test.YtllpfpdanonhkaaExts
import Derived.Test.YtllpfpdanonhkaaPlArg
namespace Go.Proofs.Ytllpfpdanonhkaa
open Go.Sx Go.RowKit
set_option linter.unusedVariables false
set_option linter.unusedSimpArgs false

def bodyR (r : Rn) : List Int := if r.hole then List.replicate r.len.toNat 0 else r.data
theorem putRun_body {o : List Int} {r : Rn} : putRun o r = o.take r.off.toNat ++ bodyR r ++ o.drop (r.off.toNat + r.len.toNat) := rfl
theorem putRun_join {o : List Int} {x r : Rn} (h0 : 0 ≤ x.off) (h1 : 0 ≤ x.len) (h2 : 0 ≤ r.len) (h3 : x.off.toNat + x.len.toNat + r.len.toNat ≤ o.length) (hx : (bodyR x).length = x.len.toNat) (hr : (bodyR r).length = r.len.toNat) (hj : joins x r) :
    putRun (putRun o x) r = putRun o ⟨x.off, x.len + r.len, x.hole, x.data ++ r.data⟩ := by
  obtain ⟨j1, j2⟩ := hj
  have hb : bodyR ⟨x.off, x.len + r.len, x.hole, x.data ++ r.data⟩ = bodyR x ++ bodyR r := by
    unfold bodyR
    rw [← j2]
    cases x.hole
    · rfl
    · simp only [if_true]
      rw [show (x.len + r.len).toNat = x.len.toNat + r.len.toNat by omega, List.replicate_append_replicate.symm]
  rw [putRun_body, putRun_body, putRun_body, hb]
  have e1 : r.off.toNat = x.off.toNat + x.len.toNat := by omega
  have l1 : (o.take x.off.toNat ++ bodyR x).length = r.off.toNat := by rw [List.length_append, List.length_take, hx]; omega
  have t1 : (o.take x.off.toNat ++ bodyR x ++ o.drop (x.off.toNat + x.len.toNat)).take r.off.toNat = o.take x.off.toNat ++ bodyR x := by
    rw [List.take_append_of_le_length (by omega), List.take_of_length_le (by omega)]
  have t2 : (o.take x.off.toNat ++ bodyR x ++ o.drop (x.off.toNat + x.len.toNat)).drop (r.off.toNat + r.len.toNat) = o.drop (x.off.toNat + (x.len + r.len).toNat) := by
    rw [List.drop_append, l1, List.drop_of_length_le (by omega), List.nil_append, List.drop_drop]
    congr 1; omega
  rw [t1, t2]
  simp [List.append_assoc]
theorem body_len {N : Nat} {r : Rn} (h : RunFit N r) : (bodyR r).length = r.len.toNat := by
  unfold bodyR
  cases hh : r.hole
  · simp only [Bool.false_eq_true, if_false]; exact h.2.2.2 (by simp [hh])
  · simp
theorem puts_len {N : Nat} : ∀ {rs : List Rn} {o : List Int}, (∀ r ∈ rs, RunFit N r) → o.length = N → (rs.foldl putRun o).length = N
  | [], o, _, h => h
  | r :: rs, o, h, ho => puts_len (rs := rs) (o := putRun o r) (fun x hx => h x (List.mem_cons_of_mem _ hx)) (by
      have h1 := h r List.mem_cons_self
      have h2 := body_len h1
      have h3 := h1.2.2.1
      rw [putRun_body, List.length_append, List.length_append, List.length_take, List.length_drop, h2]; omega)
theorem lay_put {N : Nat} {o : List Int} {R : List Rn} {r : Rn} (ho : o.length = N) (hR : ∀ x ∈ R, RunFit N x) (hr : RunFit N r) : (layP R r).foldl putRun o = putRun (R.foldl putRun o) r := by
  rcases List.eq_nil_or_concat R with rfl | ⟨ini, x, rfl⟩
  · rfl
  · rw [List.concat_eq_append] at hR ⊢
    rw [layP_snoc]
    have hx := hR x (by simp)
    have hl := puts_len (rs := ini) (o := o) (fun y hy => hR y (List.mem_append_left _ hy)) ho
    split
    · rename_i hj
      rw [List.foldl_append, List.foldl_append]
      simp only [List.foldl_cons, List.foldl_nil]
      have h1 := hr.2.2.1
      have h2 := hj.1
      have h3 := hx.1
      have h4 := hx.2.1
      have h5 := hr.2.1
      exact (putRun_join h3 h4 h5 (by omega) (body_len hx) (body_len hr) hj).symm
    · simp [List.foldl_append]
theorem lay_fit {N : Nat} {R : List Rn} {r : Rn} (hR : ∀ x ∈ R, RunFit N x) (hr : RunFit N r) : ∀ x ∈ layP R r, RunFit N x := by
  rcases List.eq_nil_or_concat R with rfl | ⟨ini, y, rfl⟩
  · intro x hx; rw [show x = r by simpa [layP] using hx]; exact hr
  · rw [List.concat_eq_append] at hR ⊢
    rw [layP_snoc]
    have hy := hR y (by simp)
    intro x hx
    rcases List.mem_append.1 hx with hx | hx
    · exact hR x (List.mem_append_left _ hx)
    · split at hx
      · rename_i hj
        rw [List.mem_singleton.1 hx]
        obtain ⟨a1, a2, a3, a4⟩ := hy
        obtain ⟨b1, b2, b3, b4⟩ := hr
        have hj1 := hj.1
        refine ⟨a1, by dsimp only; omega, by dsimp only; omega, fun h => ?_⟩
        have h5 := a4 h
        have h6 := b4 (by rw [← hj.2]; exact h)
        dsimp only
        rw [List.length_append]; omega
      · rcases List.mem_cons.1 hx with rfl | hx
        · exact hy
        · rw [List.mem_singleton.1 hx]; exact hr
def overC (v : Int) (c : Cl) : Int := if c.has then (if c.hole then 0 else c.b) else v
/-- Bytes, and over them cells. -/
def over (o : List Int) (cs : List Cl) : List Int := List.zipWith overC o cs
theorem rruns_put {N : Nat} {cs : List Cl} {o : List Int} (hc : cs.length = N) (ho : o.length = N) : ∀ k, k ≤ N → (∀ r ∈ rruns (cs.take k), RunFit N r) ∧ (rruns (cs.take k)).foldl putRun o = over (o.take k) (cs.take k) ++ o.drop k
  | 0, _ => ⟨fun r hr => by simp [rruns, rrunsFrom] at hr, by simp [rruns, rrunsFrom, over]⟩
  | k + 1, hk => by
    obtain ⟨h1, h2⟩ := rruns_put hc ho k (by omega)
    have hck : cs[k]? = some (cs[k]'(by omega)) := List.getElem?_eq_getElem _
    have hok : o[k]? = some (o[k]'(by omega)) := List.getElem?_eq_getElem _
    rw [rruns_succ hck]
    have hl : (over (o.take k) (cs.take k)).length = k := by simp [over]; omega
    have e1 : over (o.take (k + 1)) (cs.take (k + 1)) = over (o.take k) (cs.take k) ++ [overC (o[k]'(by omega)) (cs[k]'(by omega))] := by
      rw [List.take_add_one, List.take_add_one, hck, hok]
      unfold over
      rw [List.zipWith_append (by simp; omega)]
      rfl
    have e2 : o.drop k = o[k]'(by omega) :: o.drop (k + 1) := List.drop_eq_getElem_cons _
    unfold rstep
    split
    · rename_i hh
      have hf : RunFit N (oneR k (cs[k]'(by omega))) := ⟨by simp [oneR], by simp [oneR], by simp [oneR]; omega, fun h => by simp only [oneR] at h ⊢; simp [h]⟩
      refine ⟨lay_fit h1 hf, ?_⟩
      rw [lay_put ho h1 hf, h2, e1, putRun_body, e2]
      have e3 : (oneR k (cs[k]'(by omega))).off.toNat = k := by simp [oneR]
      have e4 : (oneR k (cs[k]'(by omega))).len.toNat = 1 := by simp [oneR]
      have e5 : bodyR (oneR k (cs[k]'(by omega))) = [overC (o[k]'(by omega)) (cs[k]'(by omega))] := by
        unfold bodyR overC
        rw [if_pos hh, e4]
        simp only [oneR]
        split <;> rfl
      rw [e3, e4, e5, List.take_append_of_le_length (by omega), List.take_of_length_le (by omega), List.drop_append, hl, List.drop_of_length_le (by omega)]
      simp
    · rename_i hh
      refine ⟨h1, ?_⟩
      rw [h2, e1, e2]
      unfold overC
      rw [if_neg hh]
      simp
theorem MayGo_all {par size : Int} {rs : List Rn} (h : ∀ (k : Nat) r, rs[k]? = some r → okRun par size (endAt rs k) (prevAt rs k) r) (he : par = 0 → endAt rs rs.length = size) : MayGo par size 0 none rs := by
  have key : ∀ m k : Nat, m + k = rs.length → MayGo par size (endAt rs k) (prevAt rs k) (rs.drop k) := by
    intro m
    induction m with
    | zero =>
      intro k hk
      rw [List.drop_of_length_le (by omega)]
      have : k = rs.length := by omega
      subst this
      exact he
    | succ m ih =>
      intro k hk
      have hr : rs[k]? = some (rs[k]'(by omega)) := List.getElem?_eq_getElem _
      rw [MayGo_drop hr]
      exact ⟨h k _ hr, ih (k + 1) (by omega)⟩
  exact key rs.length 0 (by omega)
/-- So far, so good. -/
def MayTo (par size : Int) (rs : List Rn) : Prop := ∀ (k : Nat) r, rs[k]? = some r → okRun par size (endAt rs k) (prevAt rs k) r
theorem endAt_app {l m : List Rn} {k : Nat} (h : k ≤ l.length) : endAt (l ++ m) k = endAt l k ∧ prevAt (l ++ m) k = prevAt l k := by
  cases k with
  | zero => exact ⟨rfl, rfl⟩
  | succ k => simp only [endAt, prevAt]; rw [List.getElem?_append_left (by omega)]; exact ⟨rfl, rfl⟩
theorem endAt_last {l : List Rn} {x : Rn} : endAt (l ++ [x]) (l ++ [x]).length = x.off + x.len ∧ prevAt (l ++ [x]) (l ++ [x]).length = some x.hole := by
  simp [endAt, prevAt]
theorem MayTo.snoc {par size : Int} {l : List Rn} {x : Rn} (h : MayTo par size l) (hx : okRun par size (endAt l l.length) (prevAt l l.length) x) : MayTo par size (l ++ [x]) := fun k r hr => by
  by_cases hk : k < l.length
  · rw [List.getElem?_append_left hk] at hr
    rw [(endAt_app (by omega)).1, (endAt_app (by omega)).2]
    exact h k r hr
  · have hk2 := (List.getElem?_eq_some_iff.1 hr).1
    have : k = l.length := by simp at hk2; omega
    subst this
    rw [(endAt_app (Nat.le_refl _)).1, (endAt_app (Nat.le_refl _)).2]
    have : r = x := by simpa using hr.symm
    subst this
    exact hx
theorem MayTo.front {par size : Int} {l : List Rn} {x : Rn} (h : MayTo par size (l ++ [x])) : MayTo par size l ∧ okRun par size (endAt l l.length) (prevAt l l.length) x := by
  refine ⟨fun k r hr => ?_, ?_⟩
  · have hk := (List.getElem?_eq_some_iff.1 hr).1
    have := h k r (by rw [List.getElem?_append_left hk]; exact hr)
    rwa [(endAt_app (by omega)).1, (endAt_app (by omega)).2] at this
  · have := h l.length x (by simp)
    rwa [(endAt_app (Nat.le_refl _)).1, (endAt_app (Nat.le_refl _)).2] at this
theorem lay_may {par size : Int} {R : List Rn} {k : Nat} {c : Cl} (hl : ∀ r ∈ R, 0 ≤ r.len) (h : MayTo par size R) (he : endAt R R.length ≤ k) (he0 : 0 ≤ endAt R R.length) (hp : par = 0 → endAt R R.length = k) (hk : (k : Int) + 1 ≤ size) : MayTo par size (layP R (oneR k c)) ∧ endAt (layP R (oneR k c)) (layP R (oneR k c)).length = k + 1 := by
  have hd1 : c.hole = true → (oneR k c).data.length = 0 := fun h => by simp [oneR, h]
  have hd2 : ¬ c.hole = true → ((oneR k c).data.length : Int) = 1 := fun h => by simp [oneR, h]
  rcases List.eq_nil_or_concat R with rfl | ⟨ini, y, rfl⟩
  · refine ⟨?_, rfl⟩
    have e0 : endAt ([] : List Rn) 0 = 0 := rfl
    have := MayTo.snoc (x := oneR k c) h ⟨by simp [oneR], by simp [oneR, e0], by simp only [oneR]; omega, by simp only [oneR]; omega, hd1, hd2, (fun hh => by simp [prevAt] at hh), fun hq => by have := hp hq; simp only [oneR]; exact this.symm⟩
    exact this
  · rw [List.concat_eq_append] at h he hp he0 hl ⊢
    have hy := hl y (by simp)
    obtain ⟨h1, h2⟩ := h.front
    rw [endAt_last.1] at he hp he0
    rw [layP_snoc]
    obtain ⟨o1, o2, o3, o4, o5, o6, o7, o8⟩ := h2
    split
    · rename_i hj
      obtain ⟨hj1, hj2⟩ := hj
      simp only [oneR] at hj1 hj2
      refine ⟨h1.snoc ⟨by simp only [oneR]; omega, o2, o3, by simp only [oneR]; omega, fun hh => ?_, fun hh => ?_, o7, o8⟩, ?_⟩
      · have := o5 hh; have := hd1 (by rw [← hj2]; exact hh); simp only [List.length_append]; omega
      · have := o6 hh; have := hd2 (by rw [← hj2]; exact hh); simp only [List.length_append, oneR] at *; omega
      · rw [endAt_last.1]; simp only [oneR]; omega
    · rename_i hj
      have e : ini ++ [y, oneR k c] = ini ++ [y] ++ [oneR k c] := by simp
      rw [e]
      refine ⟨h.snoc ?_, ?_⟩
      · rw [endAt_last.1, endAt_last.2]
        refine ⟨by simp [oneR], by simp only [oneR]; omega, by simp only [oneR]; omega, by simp only [oneR]; omega, hd1, hd2, fun hh => hj ⟨hh.2.symm, ?_⟩, fun hq => ?_⟩
        · have := hh.1; simpa using this
        · have := hp hq; simp only [oneR]; omega
      · rw [endAt_last.1]; simp [oneR]
/-- Runs made of cells may be. -/
theorem rruns_may {par : Int} {cs : List Cl} (hp : par = 0 → ∀ c ∈ cs, c.has = true) : ∀ k, k ≤ cs.length → MayTo par cs.length (rruns (cs.take k)) ∧ 0 ≤ endAt (rruns (cs.take k)) (rruns (cs.take k)).length ∧ endAt (rruns (cs.take k)) (rruns (cs.take k)).length ≤ k ∧ (par = 0 → endAt (rruns (cs.take k)) (rruns (cs.take k)).length = k)
  | 0, _ => ⟨fun k r hr => by simp [rruns, rrunsFrom] at hr, Int.le_refl _, Int.le_refl _, fun _ => rfl⟩
  | k + 1, hk => by
    obtain ⟨h1, h2, h3, h4⟩ := rruns_may hp k (by omega)
    have hck : cs[k]? = some (cs[k]'(by omega)) := List.getElem?_eq_getElem _
    rw [rruns_succ hck]
    unfold rstep
    split
    · have hf := (rruns_put (N := cs.length) (cs := cs) (o := List.replicate cs.length 0) rfl (by simp) k (by omega)).1
      obtain ⟨m1, m2⟩ := lay_may (c := cs[k]'(by omega)) (fun r hr => (hf r hr).2.1) h1 h3 h2 h4 (by omega)
      exact ⟨m1, by rw [m2]; omega, by rw [m2]; omega, fun _ => by rw [m2]; omega⟩
    · rename_i hh
      exact ⟨h1, h2, by omega, fun hq => absurd (hp hq _ (List.getElem_mem _)) hh⟩
theorem rruns_May {id par : Int} {cs : List Cl} (hi : id ≠ 0) (hip : id ≠ par) (h1 : 1 ≤ cs.length) (h2 : cs.length ≤ 33554432) (hp : par = 0 → ∀ c ∈ cs, c.has = true) : May ⟨id, par, cs.length, rruns cs⟩ := by
  obtain ⟨m1, m2, m3, m4⟩ := rruns_may hp cs.length (Nat.le_refl _)
  rw [List.take_length] at m1 m2 m3 m4
  exact ⟨hi, hip, by show (1 : Int) ≤ cs.length; omega, by show (cs.length : Int) ≤ 33554432; omega, MayGo_all m1 m4⟩
theorem over_none {o : List Int} : over o (List.replicate o.length clZ) = o := by
  unfold over
  apply List.ext_getElem?
  intro i
  rw [List.getElem?_zipWith]
  by_cases h : i < o.length
  · rw [List.getElem?_eq_getElem h, List.getElem?_replicate, if_pos h]; rfl
  · rw [List.getElem?_eq_none (by omega)]
theorem over_body {N : Nat} {r : Rn} {o : List Int} (h : RunFit N r) (ho : o.length = r.len.toNat) : over o (runCells r) = bodyR r := by
  have h3 := h.2.2.2
  unfold over runCells bodyR
  cases hh : r.hole
  · have h4 := h3 (by simp [hh])
    simp only [Bool.false_eq_true, if_false]
    apply List.ext_getElem?
    intro i
    rw [List.getElem?_zipWith, List.getElem?_map]
    by_cases hi : i < r.len.toNat
    · rw [List.getElem?_eq_getElem (by omega), List.getElem?_eq_getElem (by omega)]; rfl
    · rw [List.getElem?_eq_none (by omega), List.getElem?_eq_none (by omega)]
  · simp only [if_true]
    apply List.ext_getElem?
    intro i
    rw [List.getElem?_zipWith, List.getElem?_replicate, List.getElem?_replicate]
    by_cases hi : i < r.len.toNat
    · rw [List.getElem?_eq_getElem (by omega), if_pos hi, if_pos hi]; rfl
    · rw [List.getElem?_eq_none (by omega), if_neg hi, if_neg hi]
theorem putRun_over {N : Nat} {o : List Int} {cs : List Cl} {r : Rn} (h : RunFit N r) (ho : o.length = N) (hc : cs.length = N) : putRun (over o cs) r = over o (putC cs r) := by
  have hb := runCells_len h
  have hN := h.2.2.1
  have eo : o = o.take r.off.toNat ++ (((o.drop r.off.toNat).take r.len.toNat) ++ o.drop (r.off.toNat + r.len.toNat)) := by
    rw [show o.drop (r.off.toNat + r.len.toNat) = (o.drop r.off.toNat).drop r.len.toNat by rw [List.drop_drop], List.take_append_drop, List.take_append_drop]
  have e1 : over o (putC cs r) = over (o.take r.off.toNat) (cs.take r.off.toNat) ++ (over ((o.drop r.off.toNat).take r.len.toNat) (runCells r) ++ over (o.drop (r.off.toNat + r.len.toNat)) (cs.drop (r.off.toNat + r.len.toNat))) := by
    conv => lhs; rw [eo]
    unfold over putC
    rw [List.zipWith_append (by simp; omega), List.zipWith_append (by simp; omega)]
  rw [e1, over_body h (by simp; omega), putRun_body]
  unfold over
  rw [List.take_zipWith, List.drop_zipWith, List.append_assoc]
theorem puts_over {N : Nat} {o : List Int} : ∀ {rs : List Rn} {cs : List Cl}, (∀ r ∈ rs, RunFit N r) → o.length = N → cs.length = N → rs.foldl putRun (over o cs) = over o (putCs cs rs)
  | [], cs, _, _, _ => rfl
  | r :: rs, cs, h, ho, hc => by
    have hr := h r List.mem_cons_self
    show rs.foldl putRun (putRun (over o cs) r) = over o (putCs (putC cs r) rs)
    rw [putRun_over hr ho hc]
    exact puts_over (rs := rs) (fun x hx => h x (List.mem_cons_of_mem _ hx)) ho (putC_len hr hc)
/-- Two archives put one after the other are their join put once. -/
theorem join_put {X Y : Ar} {o : List Int} (hx : ∀ r ∈ X.runs, RunFit X.size.toNat r) (hy : ∀ r ∈ Y.runs, RunFit X.size.toNat r) (ho : o.length = X.size.toNat) : putAr (putAr o X) Y = (rruns (cells2 X Y)).foldl putRun o := by
  have hc1 : (List.replicate X.size.toNat clZ).length = X.size.toNat := by simp
  have h1 : putAr o X = over o (putCs (List.replicate X.size.toNat clZ) X.runs) := by
    have := puts_over (o := o) hx ho hc1
    rw [← ho, over_none] at this
    rw [ho] at this
    exact this
  have h2 := puts_over (o := o) hy ho (putCs_len hx hc1)
  have h3 := (rruns_put (cs := cells2 X Y) (o := o) (putCs_len hy (putCs_len hx hc1)) ho X.size.toNat (Nat.le_refl _)).2
  rw [List.take_of_length_le (by rw [show (cells2 X Y).length = X.size.toNat from putCs_len hy (putCs_len hx hc1)]; exact Nat.le_refl _), List.take_of_length_le (by omega), List.drop_of_length_le (by omega), List.append_nil] at h3
  rw [h3, h1]
  exact h2
def sN (N : Nat) : Nat := (N + 3) / 4
theorem exts_at {p d : List Int} {h : List Bool} {n k : Nat} (hk : k < n) : (exts p d h n)[k]? = some (exAt p d h k) := range_at hk
theorem exts_len {p d : List Int} {h : List Bool} {n : Nat} : (exts p d h n).length = n := by simp [exts]
/-- Where a hole is told there are zeros. -/
def HoleZ (d : List Int) (h : List Bool) : Prop := ∀ q, q < d.length → h.getD (q / 4) false = true → d.getD q 0 = 0
theorem exn_pos {d : List Int} {k : Nat} (hk : k < sN d.length) : 4 * k < d.length ∧ 0 < exn d k ∧ 4 * k + exn d k ≤ d.length ∧ exn d k ≤ 4 ∧ min (4 * (k + 1)) d.length = 4 * k + exn d k := by unfold sN at hk; unfold exn; omega
theorem exAt_ok {p d : List Int} {h : List Bool} {k : Nat} (hb : Byt d) (hz : HoleZ d h) (hk : k < sN d.length) : okEx d ((4 * k : Nat) : Int) (exAt p d h k) := by
  obtain ⟨h1, h2, h3, h4, h5⟩ := exn_pos hk
  refine ⟨rfl, by simp only [exAt]; omega, by simp only [exAt]; omega, fun hh => ?_⟩
  simp only [exAt] at hh ⊢
  simp only [Int.toNat_natCast]
  have hl : (part d (4 * k) (exn d k)).length = exn d k := part_length (by omega)
  rw [lmax_zero (part_byt hb) (fun e => by rw [e] at hl; simp at hl; omega)]
  intro i hi
  rw [hl] at hi
  rw [part_getD (by omega) hi]
  exact hz _ (by omega) (by rw [show (4 * k + i) / 4 = k by omega]; exact hh)
theorem exts_dev {p d : List Int} {h : List Bool} (hb : Byt d) (hz : HoleZ d h) : DevGo d 0 (exts p d h (sN d.length)) := by
  have key : ∀ m k : Nat, m + k = sN d.length → DevGo d ((min (4 * k) d.length : Nat) : Int) ((exts p d h (sN d.length)).drop k) := by
    intro m
    induction m with
    | zero =>
      intro k hk
      rw [List.drop_of_length_le (by rw [exts_len]; omega)]
      show ((min (4 * k) d.length : Nat) : Int) = d.length
      unfold sN at hk; omega
    | succ m ih =>
      intro k hk
      obtain ⟨h1, h2, h3, h4, h5⟩ := exn_pos (d := d) (k := k) (by omega)
      rw [DevGo_drop (exts_at (by omega))]
      have e : min (4 * k) d.length = 4 * k := by omega
      rw [e]
      refine ⟨exAt_ok hb hz (by omega), ?_⟩
      have := ih (k + 1) (by omega)
      rw [h5] at this
      simpa [exAt] using this
  have h := key (sN d.length) 0 (by omega)
  rw [List.drop_zero, show min (4 * 0) d.length = 0 by omega] at h
  exact h
theorem exts_ok {p d : List Int} {h : List Bool} {n : Nat} (hd : d.length ≤ 33554432) (hn : n ≤ sN d.length) : ∀ x ∈ exts p d h n, ExOk x := fun x hx => by
  obtain ⟨k, hk, rfl⟩ := List.mem_map.1 hx
  have hk := List.mem_range.1 hk
  obtain ⟨h1, h2, h3, h4, h5⟩ := exn_pos (d := d) (k := k) (by omega)
  simp only [ExOk, exAt]; omega
/-- What has turned, put over what was: what is. -/
theorem over_mk {par : Int} {p o d : List Int} {h : List Bool} (hb : Byt d) (hz : HoleZ d h) (ho : o.length = d.length) (hp : par = 0 ∨ p = o) : ∀ k, k ≤ sN d.length → over (o.take (min (4 * k) d.length)) (mkCells par d ((exts p d h (sN d.length)).take k)) = d.take (min (4 * k) d.length) ∧ (mkCells par d ((exts p d h (sN d.length)).take k)).length = min (4 * k) d.length
  | 0, _ => by simp [mkCells, over]
  | k + 1, hk => by
    obtain ⟨h1, h2, h3, h4, h5⟩ := exn_pos (d := d) (k := k) (by omega)
    obtain ⟨i1, i2⟩ := over_mk (p := p) hb hz ho hp k (by omega)
    have e : min (4 * k) d.length = 4 * k := by omega
    rw [e] at i1 i2
    rw [h5, mkCells_succ (exts_at (by omega))]
    have hc : (exCells par d (exAt p d h k)).length = exn d k := by
      rw [exCells_len (by simp only [exAt]; omega)]; simp [exAt]
    refine ⟨?_, by rw [List.length_append, i2, hc]⟩
    have ho2 : o.take (4 * k + exn d k) = o.take (4 * k) ++ part o (4 * k) (exn d k) := by rw [part_eq, List.take_add]
    have hd2 : d.take (4 * k + exn d k) = d.take (4 * k) ++ part d (4 * k) (exn d k) := by rw [part_eq, List.take_add]
    rw [ho2, hd2]
    unfold over at i1 ⊢
    rw [List.zipWith_append (by rw [i2, List.length_take]; omega), i1]
    congr 1
    have hlo : (part o (4 * k) (exn d k)).length = exn d k := part_length (by omega)
    have hld : (part d (4 * k) (exn d k)).length = exn d k := part_length (by omega)
    apply List.ext_getElem?
    intro i
    rw [List.getElem?_zipWith]
    by_cases hi : i < exn d k
    · have hcell := exCells_at (par := par) (b := d) (x := exAt p d h k) (j := i) (by simp only [exAt]; omega) (by simpa [exAt] using hi)
      have eo : ((exAt p d h k).off).toNat = 4 * k := by simp only [exAt]; omega
      rw [eo] at hcell
      have g1 : (part o (4 * k) (exn d k))[i]? = some (o.getD (4 * k + i) 0) := by
        rw [List.getElem?_eq_getElem (by omega)]
        have := part_getD (b := o) (p := 4 * k) (n := exn d k) (i := i) (by omega) hi
        simp only [List.getD, List.getElem?_eq_getElem (show i < (part o (4 * k) (exn d k)).length by omega), Option.getD_some] at this
        rw [this]; rfl
      have g2 : (part d (4 * k) (exn d k))[i]? = some (d.getD (4 * k + i) 0) := by
        rw [List.getElem?_eq_getElem (by omega)]
        have := part_getD (b := d) (p := 4 * k) (n := exn d k) (i := i) (by omega) hi
        simp only [List.getD, List.getElem?_eq_getElem (show i < (part d (4 * k) (exn d k)).length by omega), Option.getD_some] at this
        rw [this]; rfl
      rw [hcell, g1, g2]
      show some (overC _ _) = _
      congr 1
      unfold exCell
      split
      · unfold overC
        simp only [if_true]
        split
        · rename_i hh
          exact (hz _ (by omega) (by rw [show (4 * k + i) / 4 = k by omega]; exact hh)).symm
        · rfl
      · rename_i hq
        have hpo : p = o := by rcases hp with h | h; exact absurd (.inl h) hq; exact h
        have hdt : ¬ (exAt p d h k).dirty = true := fun h => hq (.inr h)
        simp only [exAt, Bool.not_eq_true', Bool.not_eq_false, Bool.and_eq_true, decide_eq_true_eq] at hdt
        have h8 := hdt.2
        rw [hpo] at h8
        rw [h8, g2] at g1
        show o.getD (4 * k + i) 0 = _
        exact (Option.some.inj g1).symm
    · rw [List.getElem?_eq_none (by omega : (part o (4 * k) (exn d k)).length ≤ i), List.getElem?_eq_none (by omega : (part d (4 * k) (exn d k)).length ≤ i)]
/-- A moment of a device: its bytes and its holes, and where they lie. -/
structure SV where
  bo : Option Addr
  b : List Int
  bc : Nat
  ho : Option Addr
  h : List Bool
  hc : Nat
def SV.z : SV := ⟨none, [], 0, none, [], 0⟩
def nowAt (v : SV) (q : Nat) : Int := if v.h.getD (q / 4) false then 0 else v.b.getD q 0
def nowL (N : Nat) (v : SV) : List Int := (List.range N).map (nowAt v)
def nwTo (N : Nat) (v : SV) (k : Nat) : List Int := (List.range k).map (nowAt v) ++ List.replicate (N - k) 0
def nwI (l : List SV) (N i : Nat) : List Int := nowL N (l.getD i SV.z)
def wsI (l : List SV) (N : Nat) : Nat → List Int
  | 0 => []
  | i + 1 => nwI l N i
noncomputable def mkI (l : List SV) (N i : Nat) : Ar := mkA ((i + 1 : Nat) : Int) ((i : Nat) : Int) (nwI l N i) (exts (wsI l N i) (nwI l N i) (l.getD i SV.z).h (sN (nwI l N i).length))
noncomputable def chn (l : List SV) (N k : Nat) : List Ar := (List.range k).map (mkI l N)
theorem nw_len {l : List SV} {N i : Nat} : (nwI l N i).length = N := by simp [nwI, nowL]
theorem ws_len {l : List SV} {N i : Nat} : (wsI l N i).length ≤ N := by cases i; exact Nat.zero_le _; exact Nat.le_of_eq nw_len
theorem nw_at {l : List SV} {N i q : Nat} (hq : q < N) : (nwI l N i).getD q 0 = nowAt (l.getD i SV.z) q := by simp [nwI, nowL, List.getD, hq]
theorem now_byt {v : SV} {q : Nat} (h : Byt v.b) : 0 ≤ nowAt v q ∧ nowAt v q < 256 := by
  unfold nowAt
  split
  · omega
  · rcases Nat.lt_or_ge q v.b.length with hq | hq
    · have : v.b.getD q 0 ∈ v.b := by simp [List.getD, hq]
      exact h _ this
    · have : v.b.getD q 0 = 0 := by simp [List.getD, hq]
      omega
theorem now_getD {l : List SV} {i : Nat} (hl : ∀ v ∈ l, Byt v.b) : Byt (l.getD i SV.z).b := by
  rcases Nat.lt_or_ge i l.length with hi | hi
  · exact hl _ (by simp [List.getD, hi])
  · rw [show l.getD i SV.z = SV.z by simp [List.getD, hi]]; intro x hx; cases hx
theorem nw_byt {l : List SV} {N i : Nat} (hl : ∀ v ∈ l, Byt v.b) : Byt (nwI l N i) := fun x hx => by
  obtain ⟨q, _, rfl⟩ := List.mem_map.1 hx
  exact now_byt (now_getD hl)
theorem nw_holeZ {l : List SV} {N i : Nat} : HoleZ (nwI l N i) (l.getD i SV.z).h := fun q hq hh => by
  rw [nw_len] at hq
  rw [nw_at hq, nowAt, if_pos hh]
theorem nwTo_zero {N : Nat} {v : SV} : nwTo N v 0 = List.replicate N 0 := by simp [nwTo]
theorem nwTo_end {N : Nat} {v : SV} : nwTo N v N = nowL N v := by simp [nwTo, nowL]
theorem nwTo_len {N : Nat} {v : SV} {k : Nat} (h : k ≤ N) : (nwTo N v k).length = N := by simp [nwTo]; omega
theorem nwTo_set {N : Nat} {v : SV} {k : Nat} {x : Int} (h : k < N) (hx : x = nowAt v k) : (nwTo N v k).set k x = nwTo N v (k + 1) := by
  subst hx
  unfold nwTo
  rw [List.set_append_right _ _ (by simp), List.length_map, List.length_range, Nat.sub_self, List.range_succ, List.map_append, show N - k = (N - (k + 1)) + 1 by omega, List.replicate_succ, List.set_cons_zero]
  simp
theorem nwTo_same {N : Nat} {v : SV} {k : Nat} (h : k < N) (hx : nowAt v k = 0) : nwTo N v k = nwTo N v (k + 1) := by
  unfold nwTo
  rw [List.range_succ, List.map_append, show N - k = (N - (k + 1)) + 1 by omega, List.replicate_succ]
  simp [hx]
def cellsI (l : List SV) (N i : Nat) : List Cl := mkCells (i : Nat) (nwI l N i) (exts (wsI l N i) (nwI l N i) (l.getD i SV.z).h (sN (nwI l N i).length))
theorem cellsI_over {l : List SV} {N i : Nat} {o : List Int} (hl : ∀ v ∈ l, Byt v.b) (ho : o.length = N) (hp : i = 0 ∨ wsI l N i = o) : over o (cellsI l N i) = nwI l N i ∧ (cellsI l N i).length = N := by
  have hn : (nwI l N i).length = N := nw_len
  obtain ⟨h1, h2⟩ := over_mk (par := (i : Nat)) (p := wsI l N i) (o := o) (nw_byt hl) nw_holeZ (by rw [hn, ho]) (hp.imp (fun h => by omega) id) (sN (nwI l N i).length) (Nat.le_refl _)
  have e : min (4 * sN (nwI l N i).length) (nwI l N i).length = N := by unfold sN; omega
  rw [e, List.take_of_length_le (l := exts _ _ _ _) (by rw [exts_len]; exact Nat.le_refl _)] at h1 h2
  rw [List.take_of_length_le (by omega), List.take_of_length_le (by omega)] at h1
  exact ⟨h1, h2⟩
theorem mkI_eq {l : List SV} {N i : Nat} (hl : ∀ v ∈ l, Byt v.b) (h1 : 1 ≤ N) (h2 : N ≤ 33554432) : mkI l N i = ⟨((i + 1 : Nat) : Int), ((i : Nat) : Int), (N : Int), rruns (cellsI l N i)⟩ := by
  have hn : (nwI l N i).length = N := nw_len
  have hd := exts_dev (p := wsI l N i) (nw_byt (N := N) (i := i) hl) nw_holeZ
  have hr := rruns_mk (par := (i : Nat)) hd (exts_ok (by omega) (Nat.le_refl _)) _ (Nat.le_refl _)
  rw [List.take_of_length_le (Nat.le_refl _)] at hr
  unfold mkI mkA
  rw [if_neg (by unfold badArg; omega), if_pos hd, ← hr]
  show (⟨_, _, (((nwI l N i).length : Nat) : Int), rruns (cellsI l N i)⟩ : Ar) = _
  rw [hn]
theorem mkE_zero {l : List SV} {N i : Nat} (hl : ∀ v ∈ l, Byt v.b) (h1 : 1 ≤ N) (h2 : N ≤ 33554432) : mkE ((i + 1 : Nat) : Int) ((i : Nat) : Int) (nwI l N i) (exts (wsI l N i) (nwI l N i) (l.getD i SV.z).h (sN (nwI l N i).length)) = 0 := by
  have hn : (nwI l N i).length = N := nw_len
  have hd := exts_dev (p := wsI l N i) (nw_byt (N := N) (i := i) hl) nw_holeZ
  unfold mkE
  rw [if_neg (by unfold badArg; omega), if_pos hd]
theorem cellsI_len {l : List SV} {N i : Nat} (hl : ∀ v ∈ l, Byt v.b) : (cellsI l N i).length = N := by
  cases i with
  | zero => exact (cellsI_over (o := List.replicate N 0) hl (by simp) (.inl rfl)).2
  | succ i => exact (cellsI_over (o := wsI l N (i + 1)) hl nw_len (.inr rfl)).2
theorem cells_all {b : List Int} {l : List Ex} : ∀ c ∈ mkCells 0 b l, c.has = true := fun c hc => by
  obtain ⟨m, hm, hc⟩ := List.mem_flatten.1 hc
  obtain ⟨x, _, rfl⟩ := List.mem_map.1 hm
  obtain ⟨v, _, rfl⟩ := List.mem_map.1 hc
  simp [exCell]
theorem mkI_may {l : List SV} {N i : Nat} (hl : ∀ v ∈ l, Byt v.b) (h1 : 1 ≤ N) (h2 : N ≤ 33554432) : May (mkI l N i) := by
  have hc := cellsI_len (N := N) (i := i) hl
  have := rruns_May (id := ((i + 1 : Nat) : Int)) (par := ((i : Nat) : Int)) (cs := cellsI l N i) (by omega) (by omega) (by omega) (by omega) (fun h => by
    unfold cellsI; rw [h]; exact cells_all)
  rw [hc] at this
  rw [mkI_eq hl h1 h2]; exact this
theorem mkI_fit {l : List SV} {N i : Nat} (hl : ∀ v ∈ l, Byt v.b) (h1 : 1 ≤ N) (h2 : N ≤ 33554432) : ∀ r ∈ (mkI l N i).runs, RunFit N r := by
  have hc := cellsI_len (N := N) (i := i) hl
  have := (rruns_put (N := N) (cs := cellsI l N i) (o := List.replicate N 0) hc (by simp) N (Nat.le_refl _)).1
  rw [List.take_of_length_le (by omega)] at this
  rw [mkI_eq hl h1 h2]; exact this
theorem runs_over {N : Nat} {cs : List Cl} {o : List Int} (hc : cs.length = N) (ho : o.length = N) : (rruns cs).foldl putRun o = over o cs := by
  have := (rruns_put hc ho N (Nat.le_refl _)).2
  rw [List.take_of_length_le (by omega), List.take_of_length_le (by omega), List.drop_of_length_le (by omega), List.append_nil] at this
  exact this
theorem put_mkI {l : List SV} {N i : Nat} {o : List Int} (hl : ∀ v ∈ l, Byt v.b) (h1 : 1 ≤ N) (h2 : N ≤ 33554432) (ho : o.length = N) (hp : i = 0 ∨ wsI l N i = o) : putAr o (mkI l N i) = nwI l N i := by
  obtain ⟨e1, e2⟩ := cellsI_over hl ho hp
  rw [mkI_eq hl h1 h2]
  show (rruns _).foldl putRun o = _
  rw [runs_over e2 ho, e1]
theorem chn_at {l : List SV} {N n k : Nat} (h : k < n) : (chn l N n)[k]? = some (mkI l N k) := range_at h
theorem chn_len {l : List SV} {N n : Nat} : (chn l N n).length = n := by simp [chn]
theorem chn_succ {l : List SV} {N k : Nat} : chn l N (k + 1) = chn l N k ++ [mkI l N k] := by simp [chn, List.range_succ]
theorem chn_size {l : List SV} {N n : Nat} (hl : ∀ v ∈ l, Byt v.b) (h1 : 1 ≤ N) (h2 : N ≤ 33554432) (hn : 0 < n) : size0 (chn l N n) = N := by
  obtain ⟨m, rfl⟩ : ∃ m, n = m + 1 := ⟨n - 1, by omega⟩
  unfold chn
  rw [List.range_succ_eq_map, List.map_cons]
  show (mkI l N 0).size.toNat = N
  rw [mkI_eq hl h1 h2]
  show ((N : Int)).toNat = N
  omega
theorem chn_to {l : List SV} {N n : Nat} (hl : ∀ v ∈ l, Byt v.b) (h1 : 1 ≤ N) (h2 : N ≤ 33554432) : ∀ k, k < n → restTo (chn l N n) (k + 1) = nwI l N k ∧ (restTo (chn l N n) k).length = N
  | 0, hk => by
    have e : (restTo (chn l N n) 0).length = N := by simp [restTo, chn_size hl h1 h2 hk]
    refine ⟨?_, e⟩
    rw [restTo_succ (chn_at hk), put_mkI hl h1 h2 e (.inl rfl)]
  | k + 1, hk => by
    obtain ⟨e1, e2⟩ := chn_to (n := n) hl h1 h2 k (by omega)
    have e3 : (restTo (chn l N n) (k + 1)).length = N := by rw [e1]; exact nw_len
    refine ⟨?_, e3⟩
    rw [restTo_succ (chn_at hk), put_mkI (i := k + 1) hl h1 h2 e3 (.inr e1.symm)]
theorem chn_rest {l : List SV} {N n : Nat} (hl : ∀ v ∈ l, Byt v.b) (h1 : 1 ≤ N) (h2 : N ≤ 33554432) (hn : 0 < n) : restP (chn l N n) = wsI l N n := by
  obtain ⟨m, rfl⟩ : ∃ m, n = m + 1 := ⟨n - 1, by omega⟩
  have := (chn_to (n := m + 1) hl h1 h2 m (by omega)).1
  unfold restTo at this
  rw [List.take_of_length_le (by rw [chn_len]; exact Nat.le_refl _)] at this
  exact this
theorem chn_link {l : List SV} {N i : Nat} {L : List Ar} (hl : ∀ v ∈ l, Byt v.b) (h1 : 1 ≤ N) (h2 : N ≤ 33554432) (hp : ∀ p, 0 < i → L[i - 1]? = some p → p.id = (i : Nat) ∧ p.size = N) : Link L i (mkI l N i) := by
  rw [mkI_eq hl h1 h2]
  refine ⟨fun h => by simp only; omega, fun p hi hpi => ?_⟩
  obtain ⟨a, b⟩ := hp p hi hpi
  exact ⟨a.symm, b.symm⟩
theorem chn_ok {l : List SV} {N n : Nat} (hl : ∀ v ∈ l, Byt v.b) (h1 : 1 ≤ N) (h2 : N ≤ 33554432) : ∀ k, k ≤ n → ChOk (chn l N n) k := fun k hk i a hi ha => by
  rw [chn_at (by omega)] at ha
  cases ha
  refine ⟨mkI_may hl h1 h2, chn_link hl h1 h2 fun p hip hp => ?_⟩
  rw [chn_at (by omega)] at hp
  cases hp
  rw [mkI_eq hl h1 h2]
  exact ⟨by simp only; omega, rfl⟩
noncomputable def lessL (l : List SV) (N n k : Nat) (J : Ar) : List Ar := (chn l N n).take k ++ [J] ++ (chn l N n).drop (k + 2)
noncomputable def gapL (l : List SV) (N n k : Nat) : List Ar := (chn l N n).take k ++ (chn l N n).drop (k + 1)
theorem gap_bad {l : List SV} {N n k : Nat} (hl : ∀ v ∈ l, Byt v.b) (h1 : 1 ≤ N) (h2 : N ≤ 33554432) (hk : k + 1 < n) : Bad (gapL l N n k) k 251 := by
  have hc : ∀ i, i < k → (gapL l N n k)[i]? = some (mkI l N i) := fun i hi => by
    unfold gapL
    rw [List.getElem?_append_left (by simp [chn_len]; omega), List.getElem?_take, if_pos hi, chn_at (by omega)]
  have hkk : (gapL l N n k)[k]? = some (mkI l N (k + 1)) := by
    unfold gapL
    rw [List.getElem?_append_right (by simp [chn_len]; omega), List.length_take, chn_len, Nat.min_eq_left (by omega), Nat.sub_self, List.getElem?_drop, chn_at (by omega)]
  refine ⟨fun i a hi ha => ?_, _, hkk, .inr ⟨mkI_may hl h1 h2, fun hlk => ?_, rfl⟩⟩
  · rw [hc i hi] at ha
    cases ha
    refine ⟨mkI_may hl h1 h2, chn_link hl h1 h2 fun p hip hp => ?_⟩
    rw [hc _ (by omega)] at hp
    cases hp
    rw [mkI_eq hl h1 h2]
    exact ⟨by simp only; omega, rfl⟩
  · rw [mkI_eq hl h1 h2] at hlk
    obtain ⟨q1, q2⟩ := hlk
    rcases Nat.eq_zero_or_pos k with rfl | hp
    · have := q1 rfl; simp only at this; omega
    · have := (q2 (mkI l N (k - 1)) hp (hc _ (by omega))).1
      rw [mkI_eq hl h1 h2] at this
      simp only at this; omega
theorem over_diff {cs : List Cl} {N : Nat} (hc : cs.length = N) (h : over (List.replicate N 0) cs = over (List.replicate N 1) cs) : ∀ c ∈ cs, c.has = true := fun c hm => by
  obtain ⟨q, hq, rfl⟩ := List.getElem_of_mem hm
  have h1 := congrArg (fun t : List Int => t[q]?) h
  unfold over at h1
  simp only [List.getElem?_zipWith, List.getElem?_replicate, if_pos (show q < N by omega), List.getElem?_eq_getElem hq, Option.some.injEq] at h1
  unfold overC at h1
  cases hh : (cs[q]).has
  · rw [hh] at h1; simp at h1
  · rfl
section
variable {l : List SV} {N n k : Nat} {J : Ar}
theorem jn_cells (hl : ∀ v ∈ l, Byt v.b) (h1 : 1 ≤ N) (h2 : N ≤ 33554432) (o : List Int) (ho : o.length = N) : putAr (putAr o (mkI l N k)) (mkI l N (k + 1)) = over o (cells2 (mkI l N k) (mkI l N (k + 1))) ∧ (cells2 (mkI l N k) (mkI l N (k + 1))).length = N := by
  have hs : (mkI l N k).size.toNat = N := by rw [mkI_eq hl h1 h2]; show ((N : Int)).toNat = N; omega
  have hx : ∀ r ∈ (mkI l N k).runs, RunFit (mkI l N k).size.toNat r := by rw [hs]; exact mkI_fit hl h1 h2
  have hy : ∀ r ∈ (mkI l N (k + 1)).runs, RunFit (mkI l N k).size.toNat r := by rw [hs]; exact mkI_fit hl h1 h2
  have hc : (cells2 (mkI l N k) (mkI l N (k + 1))).length = N := by
    exact (putCs_len hy (putCs_len hx (by simp))).trans hs
  refine ⟨?_, hc⟩
  rw [join_put hx hy (by rw [hs]; exact ho), runs_over hc ho]
theorem jn_all (hl : ∀ v ∈ l, Byt v.b) (h1 : 1 ≤ N) (h2 : N ≤ 33554432) : ∀ c ∈ cells2 (mkI l N 0) (mkI l N 1), c.has = true := by
  obtain ⟨e1, e2⟩ := jn_cells (k := 0) hl h1 h2 (List.replicate N 0) (by simp)
  obtain ⟨e3, _⟩ := jn_cells (k := 0) hl h1 h2 (List.replicate N 1) (by simp)
  rw [put_mkI hl h1 h2 (by simp) (.inl rfl)] at e1 e3
  exact over_diff e2 (e1.symm.trans e3)
theorem jn_eq (hl : ∀ v ∈ l, Byt v.b) (h1 : 1 ≤ N) (h2 : N ≤ 33554432) (hr : joinRs (mkI l N k) (mkI l N (k + 1)) = rruns (cells2 (mkI l N k) (mkI l N (k + 1)))) : jA (mkI l N k) (mkI l N (k + 1)) = ⟨((k + 2 : Nat) : Int), ((k : Nat) : Int), (N : Int), rruns (cells2 (mkI l N k) (mkI l N (k + 1)))⟩ ∧ jE (mkI l N k) (mkI l N (k + 1)) = 0 := by
  have hm : May (mkI l N k) ∧ May (mkI l N (k + 1)) := ⟨mkI_may hl h1 h2, mkI_may hl h1 h2⟩
  have hk : linkJ (mkI l N k) (mkI l N (k + 1)) := by
    rw [mkI_eq hl h1 h2, mkI_eq hl h1 h2]
    unfold linkJ
    simp only
    omega
  unfold jA jE
  rw [if_pos ⟨hm, hk⟩, if_pos hm, if_pos hk, hr]
  refine ⟨?_, rfl⟩
  rw [mkI_eq hl h1 h2, mkI_eq hl h1 h2]
theorem jn_may (hl : ∀ v ∈ l, Byt v.b) (h1 : 1 ≤ N) (h2 : N ≤ 33554432) : May ⟨((k + 2 : Nat) : Int), ((k : Nat) : Int), (N : Int), rruns (cells2 (mkI l N k) (mkI l N (k + 1)))⟩ := by
  have hc := (jn_cells (k := k) hl h1 h2 (List.replicate N 0) (by simp)).2
  have := rruns_May (id := ((k + 2 : Nat) : Int)) (par := ((k : Nat) : Int)) (cs := cells2 (mkI l N k) (mkI l N (k + 1))) (by omega) (by omega) (by omega) (by omega) (fun h => by
    obtain rfl : k = 0 := by omega
    exact jn_all hl h1 h2)
  rw [hc] at this
  exact this
theorem less_rest (hl : ∀ v ∈ l, Byt v.b) (h1 : 1 ≤ N) (h2 : N ≤ 33554432) (hk : k + 1 < n) (hJ : J = ⟨((k + 2 : Nat) : Int), ((k : Nat) : Int), (N : Int), rruns (cells2 (mkI l N k) (mkI l N (k + 1)))⟩) : restP (lessL l N n k J) = wsI l N n := by
  rw [← chn_rest hl h1 h2 (by omega)]
  have e0 : chn l N n = (chn l N n).take k ++ (mkI l N k :: mkI l N (k + 1) :: (chn l N n).drop (k + 2)) := by
    have a1 := List.getElem?_eq_some_iff.1 (chn_at (l := l) (N := N) (show k < n by omega))
    have a2 := List.getElem?_eq_some_iff.1 (chn_at (l := l) (N := N) (show k + 1 < n by omega))
    obtain ⟨b1, b2⟩ := a1
    obtain ⟨c1, c2⟩ := a2
    conv => lhs; rw [← List.take_append_drop k (chn l N n), List.drop_eq_getElem_cons b1, List.drop_eq_getElem_cons c1, b2, c2]
  have hsz : size0 (lessL l N n k J) = N := by
    unfold lessL
    rcases Nat.eq_zero_or_pos k with rfl | hp
    · rw [hJ, List.take_zero]; show ((N : Int)).toNat = N; omega
    · have := chn_size (n := k) hl h1 h2 hp
      have e : (chn l N n).take k = chn l N k := by
        unfold chn; rw [← List.map_take, List.take_range, Nat.min_eq_left (by omega)]
      rw [e]
      unfold size0 at this ⊢
      revert this
      cases hck : chn l N k with
      | nil => have := chn_len (l := l) (N := N) (n := k); rw [hck] at this; simp at this; omega
      | cons a t => intro h; exact h
  unfold restP
  rw [hsz, chn_size hl h1 h2 (by omega)]
  conv => rhs; rw [e0]
  unfold lessL
  rw [List.foldl_append, List.foldl_append, List.foldl_append, List.foldl_cons, List.foldl_nil, List.foldl_cons, List.foldl_cons]
  congr 1
  have e1 : (((chn l N n).take k).foldl putAr (List.replicate N 0)).length = N := by
    have := (chn_to (n := n) hl h1 h2 k (by omega)).2
    unfold restTo at this
    rw [chn_size hl h1 h2 (by omega)] at this
    exact this
  obtain ⟨e2, e3⟩ := jn_cells (k := k) hl h1 h2 _ e1
  rw [e2, hJ]
  show (rruns _).foldl putRun _ = _
  rw [runs_over e3 e1]
theorem less_at (hk : k + 1 < n) {i : Nat} (hi : i < n - 1) : (lessL l N n k J)[i]? = some (if i < k then mkI l N i else if i = k then J else mkI l N (i + 1)) := by
  unfold lessL
  by_cases h : i < k
  · rw [if_pos h, List.append_assoc, List.getElem?_append_left (by simp [chn_len]; omega), List.getElem?_take, if_pos h, chn_at (by omega)]
  · rw [if_neg h]
    by_cases h2 : i = k
    · subst h2
      rw [if_pos rfl, List.getElem?_append_left (by simp [chn_len]; omega), List.getElem?_append_right (by simp [chn_len]; omega), List.length_take, chn_len, Nat.min_eq_left (by omega), Nat.sub_self]; rfl
    · rw [if_neg h2, List.getElem?_append_right (by simp [chn_len]; omega), List.getElem?_drop]
      have : k + 2 + (i - ((chn l N n).take k ++ [J]).length) = i + 1 := by simp [chn_len]; omega
      rw [this, chn_at (by omega)]
theorem less_len (hk : k + 1 < n) : (lessL l N n k J).length = n - 1 := by simp [lessL, chn_len]; omega
theorem less_ok (hl : ∀ v ∈ l, Byt v.b) (h1 : 1 ≤ N) (h2 : N ≤ 33554432) (hk : k + 1 < n) (hJ : J = ⟨((k + 2 : Nat) : Int), ((k : Nat) : Int), (N : Int), rruns (cells2 (mkI l N k) (mkI l N (k + 1)))⟩) : ChOk (lessL l N n k J) (lessL l N n k J).length := by
  rw [less_len hk]
  intro i a hi ha
  rw [less_at hk hi] at ha
  have hid : ∀ j, j < n - 1 → ∀ p, (lessL l N n k J)[j]? = some p → p.id = (if j < k then ((j + 1 : Nat) : Int) else ((j + 2 : Nat) : Int)) ∧ p.size = N := fun j hj p hp => by
    rw [less_at hk hj] at hp
    cases hp
    by_cases e1 : j < k
    · rw [if_pos e1, if_pos e1, mkI_eq hl h1 h2]; exact ⟨rfl, rfl⟩
    · rw [if_neg e1, if_neg e1]
      by_cases e2 : j = k
      · rw [if_pos e2, hJ]; subst e2; exact ⟨rfl, rfl⟩
      · rw [if_neg e2, mkI_eq hl h1 h2]; exact ⟨rfl, rfl⟩
  have hprev : ∀ p, 0 < i → (lessL l N n k J)[i - 1]? = some p → p.id = (if i ≤ k then ((i : Nat) : Int) else ((i + 1 : Nat) : Int)) ∧ p.size = N := fun p hi0 hp => by
    obtain ⟨q1, q2⟩ := hid (i - 1) (by omega) p hp
    refine ⟨?_, q2⟩
    rw [q1]
    by_cases e : i ≤ k
    · rw [if_pos (by omega), if_pos e]; omega
    · rw [if_neg (by omega), if_neg e]; omega
  cases ha
  by_cases e1 : i < k
  · rw [if_pos e1]
    refine ⟨mkI_may hl h1 h2, chn_link hl h1 h2 fun p h0 hp => ?_⟩
    have := hprev p h0 hp
    rw [if_pos (by omega)] at this
    exact this
  · rw [if_neg e1]
    by_cases e2 : i = k
    · subst e2
      rw [if_pos rfl, hJ]
      refine ⟨jn_may hl h1 h2, fun h0 => by simp only; omega, fun p h0 hp => ?_⟩
      rw [← hJ] at hp
      have := hprev p h0 hp
      rw [if_pos (by omega)] at this
      exact ⟨this.1.symm, this.2.symm⟩
    · rw [if_neg e2, mkI_eq hl h1 h2]
      refine ⟨by rw [← mkI_eq hl h1 h2]; exact mkI_may hl h1 h2, fun h0 => by omega, fun p h0 hp => ?_⟩
      have := hprev p h0 hp
      rw [if_neg (by omega)] at this
      exact ⟨this.1.symm, this.2.symm⟩
end
/-! What comes as an argument. -/
def cellsS (v : SV) : List Value := [.slice v.bo v.b.length v.bc, .slice v.ho v.h.length v.hc]
def StOk (v : SV) : Prop := Byt v.b ∧ v.b.length ≤ v.bc ∧ v.b.length ≤ 1048576 ∧ v.h.length ≤ 1048576
def RdSt (w0 : World) (L : List HP) (v : SV) : Prop := RdS w0 L 1 v.bo (ints .u8 v.b) ∧ RdS w0 L 1 v.ho (bools v.h)
section
open Go.ChangeShapes
theorem fs65 : fsB Tb.P 65 = some [(23, 0, 1), (63, 1, 1)] := by kernel_rfl
variable {H : Type} {enc : TypeId × Value → H} {w : World} {base : Nat} {spare : Nat → Bool} {held : Bool} {fuel : Nat}
theorem bulk_memS {d : DataW H} {l : List (DataW H)} (h : d ∈ l) : Rows.uptoBulk d ≤ Rows.uptoBulkAll l := by
  induction l with
  | nil => cases h
  | cons x r ih =>
    simp only [Rows.uptoBulkAll]
    rcases List.mem_cons.1 h with rfl | h
    · omega
    · have := ih h; omega
theorem read_bools {cs : List Value} {x : DataW H × List MemPlace} (h : DataW.trod enc Tb.P w base spare held fuel 63 cs = some x) :
    ∃ ao cp, ∃ l : List Bool, cs = [.slice ao l.length cp] ∧ RdS w [] 1 ao (bools l) ∧ l.length + 1 ≤ Rows.uptoBulk x.1 := by
  obtain ⟨ao, n, cp, l, ds, sp, h1, h2, h3, h4, h5, h6, h7, h8⟩ := trod_elems Tb.I63 (cells_of Tb.S4) (by omega) h
  obtain ⟨es, hes, hq⟩ := map_of (F := fun b : Bool => [Value.bool b]) (Q := fun _ => True) (l := l) fun c hc => by
    obtain ⟨i, hi⟩ := List.getElem?_of_mem hc
    obtain ⟨_, _, m, d, ps, q1, _⟩ := h7 i c hi
    obtain ⟨b, q2, _⟩ := DataW.trod_bool Tb.I4 q1
    exact ⟨b, q2, trivial⟩
  subst hes
  have hn : n = es.length := by simpa using h2
  subst hn
  refine ⟨ao, cp, es, h1, RdS.of_read (fun w' => sat_cell) (fun i c hi => ⟨⟨(h7 i c hi).1, ?_⟩, (h7 i c hi).2.1⟩) h8, ?_⟩
  · simp only [bools, List.getElem?_map] at hi
    obtain ⟨b, _, rfl⟩ := Option.map_eq_some_iff.1 hi
    simp [Value.oneCell']
  · have k1 := bulk_slice h6
    have k2 := bulk_len ds
    omega
theorem read_state {cs : List Value} {x : DataW H × List MemPlace} (h : DataW.trod enc Tb.P w base spare held fuel 65 cs = some x) :
    ∃ v : SV, cs = cellsS v ∧ RdSt w [] v ∧ Byt v.b ∧ v.b.length ≤ v.bc ∧ v.b.length + v.h.length ≤ Rows.uptoBulk x.1 := by
  obtain ⟨xs, n, hx, hl, hxl, hf⟩ := trod_fields fs65 h
  rw [cells_of Tb.S65] at hl
  obtain ⟨c0, c1, rfl⟩ := list2 hl
  obtain ⟨y0, y1, rfl⟩ := list2 hxl
  obtain ⟨ao, m, cp, bs, ds, sp, h0, k1, k2, k3, k4, k5, k6, k7⟩ := trod_nums Tb.I23 Tb.I5 (cells_of Tb.S5) (show DataW.trod enc Tb.P w base spare held n 23 [c0] = some y0 from hf 0 _ _ _ rfl)
  obtain ⟨ho, hc, l, h1, r1, r2⟩ := read_bools (show DataW.trod enc Tb.P w base spare held n 63 [c1] = some y1 from hf 1 _ _ _ rfl)
  cases h0; cases h1
  subst k1
  refine ⟨⟨ao, bs, cp, ho, l, hc⟩, rfl, ⟨k4, r1⟩, byt_of k5, k2, ?_⟩
  rw [hx]
  have := bulk_slice k7
  have := bulk_len ds
  simp only [List.map_cons, List.map_nil, Rows.uptoBulk, Rows.uptoBulkAll]
  omega
theorem read_states {cs : List Value} {x : DataW H × List MemPlace} (h : DataW.trod enc Tb.P w base spare held fuel 62 cs = some x) :
    ∃ ao n cp, ∃ l : List SV, cs = [.slice ao n cp] ∧ n = l.length ∧ RdS w [] 2 ao (l.map cellsS) ∧ (∀ v ∈ l, RdSt w [] v ∧ Byt v.b ∧ v.b.length ≤ v.bc ∧ v.b.length + v.h.length ≤ Rows.uptoBulk x.1) ∧ l.length + 1 ≤ Rows.uptoBulk x.1 := by
  obtain ⟨ao, n, cp, l, ds, sp, h1, h2, h3, h4, h5, h6, h7, h8⟩ := trod_elems Tb.I62 (cells_of Tb.S65) (by omega) h
  have k1 := bulk_slice h6
  obtain ⟨es, hes, hq⟩ := map_of (F := cellsS) (Q := fun v : SV => RdSt w [] v ∧ Byt v.b ∧ v.b.length ≤ v.bc ∧ v.b.length + v.h.length ≤ Rows.uptoBulk x.1) (l := l) fun c hc => by
    obtain ⟨i, hi⟩ := List.getElem?_of_mem hc
    obtain ⟨_, _, m, d, ps, q1, q2⟩ := h7 i c hi
    obtain ⟨v, q3, q4, q5, q6, q7⟩ := read_state q1
    exact ⟨v, q3, q4, q5, q6, by have := bulk_memS (List.mem_of_getElem? q2); dsimp only at q7; omega⟩
  subst hes
  refine ⟨ao, n, cp, es, h1, by simpa using h2, RdS.of_read (fun w' => sat_cell) (fun i c hi => ⟨⟨(h7 i c hi).1, ?_⟩, (h7 i c hi).2.1⟩) h8, hq, ?_⟩
  · simp only [List.getElem?_map] at hi
    obtain ⟨b, _, rfl⟩ := Option.map_eq_some_iff.1 hi
    simp [cellsS, Value.oneCell']
  · have k2 := bulk_len ds
    simp at h2; omega
end
end Go.Proofs.Ytllpfpdanonhkaa
