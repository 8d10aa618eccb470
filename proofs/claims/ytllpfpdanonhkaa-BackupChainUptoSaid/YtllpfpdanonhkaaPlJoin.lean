/- Plain: two archives joined by extents are joined cell by cell. No condition. -/
import Derived.Test.YtllpfpdanonhkaaRJoin
namespace Go.Proofs.Ytllpfpdanonhkaa
open Go.Sx Go.RowKit
set_option linter.unusedVariables false
set_option linter.unusedSimpArgs false

def runCell (r : Rn) (p : Int) : Cl := ⟨true, r.hole, if r.hole then 0 else r.data.getD (p - r.off).toNat 0⟩
def cellV (X Y : Ar) (V : Int → Int × Int) (p : Int) : Cl :=
  if (V p).1 < 0 then clZ else match (arK X Y (V p).1.toNat).runs[(V p).2.toNat]? with
    | some r => runCell r p
    | none => clZ
def cellsOf (X Y : Ar) (V : Int → Int × Int) (N : Nat) : List Cl := (List.range N).map fun p : Nat => cellV X Y V (p : Int)
theorem cellsOf_at {X Y : Ar} {V : Int → Int × Int} {N p : Nat} (h : p < N) : (cellsOf X Y V N)[p]? = some (cellV X Y V p) := by
  unfold cellsOf; rw [List.getElem?_map, List.getElem?_range h]; rfl
theorem cellV_of {X Y : Ar} {V : Int → Int × Int} {p : Int} {k n : Nat} {r : Rn} (h : V p = ((k : Int), (n : Int))) (hr : (arK X Y k).runs[n]? = some r) : cellV X Y V p = runCell r p := by
  unfold cellV
  rw [h]
  simp only [Int.toNat_natCast]
  rw [if_neg (by omega), hr]
theorem cellV_not {X Y : Ar} {V : Int → Int × Int} {p : Int} (h : (V p).1 < 0) : cellV X Y V p = clZ := if_pos h

theorem putC_at {N : Nat} {cs : List Cl} {r : Rn} (h : RunFit N r) (hc : cs.length = N) {p : Nat} (hp : p < N) : (putC cs r)[p]? = if r.off ≤ p ∧ (p : Int) < r.off + r.len then some (runCell r p) else cs[p]? := by
  obtain ⟨h0, h1, h2, h3⟩ := h
  have hl := runCells_len (N := N) (r := r) ⟨h0, h1, h2, h3⟩
  unfold putC
  by_cases c1 : p < r.off.toNat
  · rw [List.getElem?_append_left (by rw [List.length_take]; omega), List.getElem?_take, if_pos c1, if_neg (show ¬ (r.off ≤ (p : Int) ∧ (p : Int) < r.off + r.len) by omega)]
  · rw [List.getElem?_append_right (by rw [List.length_take]; omega), List.length_take, show min r.off.toNat cs.length = r.off.toNat by omega]
    by_cases c2 : p < r.off.toNat + r.len.toNat
    · rw [List.getElem?_append_left (by omega), runCells_at ⟨h0, h1, h2, h3⟩ (by omega), if_pos (show r.off ≤ (p : Int) ∧ (p : Int) < r.off + r.len by omega)]
      unfold runCell
      rw [show ((p : Int) - r.off).toNat = p - r.off.toNat by omega]
    · rw [List.getElem?_append_right (by omega), hl, List.getElem?_drop, if_neg (show ¬ (r.off ≤ (p : Int) ∧ (p : Int) < r.off + r.len) by omega)]
      congr 1; omega
theorem put_set {X Y : Ar} {V : Int → Int × Int} {N k n : Nat} {r : Rn} (hr : (arK X Y k).runs[n]? = some r) (hf : RunFit N r) : putC (cellsOf X Y V N) r = cellsOf X Y (setV V (exK k n r)) N := by
  have hlen : (cellsOf X Y V N).length = N := by simp [cellsOf]
  apply List.ext_getElem?
  intro p
  by_cases hp : p < N
  · rw [putC_at hf hlen hp, cellsOf_at hp, cellsOf_at hp]
    split
    · rename_i h
      have e : setV V (exK k n r) p = ((k : Int), (n : Int)) := by unfold setV; exact if_pos (by simpa [exK] using h)
      rw [cellV_of e hr]
    · rename_i h
      have e : setV V (exK k n r) p = V p := by unfold setV; exact if_neg (by simpa [exK] using h)
      unfold cellV
      rw [e]
  · rw [List.getElem?_eq_none (by rw [putC_len hf hlen]; omega), List.getElem?_eq_none (by simp [cellsOf]; omega)]
theorem puts_vP {X Y : Ar} {V : Int → Int × Int} {N k : Nat} (hf : ∀ r ∈ (arK X Y k).runs, RunFit N r) : ∀ n, n ≤ (arK X Y k).runs.length → putCs (cellsOf X Y V N) ((arK X Y k).runs.take n) = cellsOf X Y (vP k (arK X Y k).runs V n) N
  | 0, _ => rfl
  | n + 1, hn => by
    obtain ⟨r, hr⟩ : ∃ r, (arK X Y k).runs[n]? = some r := ⟨_, List.getElem?_eq_getElem (by omega)⟩
    rw [putCs_succ hr, puts_vP hf n (by omega), vP_succ hr, put_set hr (hf r (List.mem_of_getElem? hr))]
theorem cells2_eq {X Y : Ar} (hx : ∀ r ∈ X.runs, RunFit X.size.toNat r) (hy : ∀ r ∈ Y.runs, RunFit X.size.toNat r) : cells2 X Y = cellsOf X Y (vK X Y 2) X.size.toNat := by
  have h0 : List.replicate X.size.toNat clZ = cellsOf X Y (vK X Y 0) X.size.toNat := by
    apply List.ext_getElem?
    intro p
    by_cases hp : p < X.size.toNat
    · rw [cellsOf_at hp, cellV_not (by show (-1 : Int) < 0; decide), List.getElem?_replicate, if_pos hp]
    · rw [List.getElem?_eq_none (by simp; omega), List.getElem?_eq_none (by simp [cellsOf]; omega)]
  have h1 := puts_vP (X := X) (Y := Y) (k := 0) (V := vK X Y 0) (N := X.size.toNat) hx _ (Nat.le_refl _)
  have h2 := puts_vP (X := X) (Y := Y) (k := 1) (V := vK X Y 1) (N := X.size.toNat) hy _ (Nat.le_refl _)
  rw [List.take_length] at h1 h2
  unfold cells2
  rw [h0]
  exact (congrArg (fun c => putCs c Y.runs) h1).trans h2

/-- What an extent of the map in the end is. -/
def FinOk (X Y : Ar) (e : Xt) : Prop := e.a = -1 ∨ ∃ (k n : Nat) (r : Rn), (arK X Y k).runs[n]? = some r ∧ e.a = k ∧ e.r = n ∧ r.off ≤ e.lo ∧ e.hi ≤ r.off + r.len ∧ (¬ r.hole = true → (r.data.length : Int) = r.len)
def seg (X Y : Ar) (V : Int → Int × Int) (a n : Nat) : List Cl := (List.range' a n).map fun p : Nat => cellV X Y V (p : Int)
theorem seg_app {X Y : Ar} {V : Int → Int × Int} {a n m : Nat} : seg X Y V a (n + m) = seg X Y V a n ++ seg X Y V (a + n) m := by
  unfold seg
  rw [← List.map_append]
  congr 1
  simp
theorem seg_run {X Y : Ar} {V : Int → Int × Int} {e : Xt} {out : List Rn} (h0 : 0 ≤ e.lo) (hlt : e.lo < e.hi) (hs : ∀ p, e.lo ≤ p → p < e.hi → V p = (e.a, e.r)) (hf : FinOk X Y e) : rrunsFrom (seg X Y V e.lo.toNat (e.hi - e.lo).toNat) e.lo.toNat out = jstep X Y out e := by
  rcases hf with ha | ⟨k, n, r, hr, ha, hn, ho1, ho2, hd⟩
  · rw [jstep_skip (by omega)]
    refine rruns_not fun c hc => ?_
    obtain ⟨p, hp, rfl⟩ := List.mem_map.1 hc
    have hp := List.mem_range'_1.1 hp
    rw [cellV_not (by rw [hs p (by omega) (by omega)]; show e.a < 0; omega)]
    rfl
  · rw [jstep_lay ha hn hr]
    have e1 : seg X Y V e.lo.toNat (e.hi - e.lo).toNat = ((List.range' e.lo.toNat (e.hi - e.lo).toNat).map fun p : Nat => if r.hole then 0 else r.data.getD ((p : Int) - r.off).toNat 0).map fun v => (⟨true, r.hole, v⟩ : Cl) := by
      unfold seg
      rw [List.map_map]
      refine List.map_congr_left fun p hp => ?_
      have hp := List.mem_range'_1.1 hp
      rw [cellV_of (k := k) (n := n) (by rw [hs p (by omega) (by omega), ha, hn]) hr]
      rfl
    rw [e1, rruns_has (by intro h; have := congrArg List.length h; simp at this; omega)]
    congr 1
    unfold pieceJ
    have e2 : (((List.range' e.lo.toNat (e.hi - e.lo).toNat).map fun p : Nat => if r.hole then (0 : Int) else r.data.getD ((p : Int) - r.off).toNat 0).length : Int) = e.hi - e.lo := by simp; omega
    rw [e2, show ((e.lo.toNat : Nat) : Int) = e.lo by omega]
    congr 1
    cases hh : r.hole
    · have hd := hd (by simp [hh])
      simp only [Bool.false_eq_true, if_false]
      apply List.ext_getElem?
      intro i
      by_cases hi : i < (e.hi - e.lo).toNat
      · rw [List.getElem?_map, List.getElem?_range' hi, part_eq, List.getElem?_take, if_pos hi, List.getElem?_drop, Option.map_some]
        rw [List.getElem?_eq_getElem (by omega)]
        simp only [List.getD, Nat.one_mul]
        rw [List.getElem?_eq_getElem (by omega), Option.getD_some]
        congr 2
        omega
      · rw [List.getElem?_eq_none (by simp; omega), List.getElem?_eq_none (by rw [part_eq, List.length_take]; omega)]
    · simp
theorem seg_runs {X Y : Ar} {V : Int → Int × Int} : ∀ {l : List Xt} {a b : Int} {out : List Rn}, 0 ≤ a → Til a b l → Says V l → (∀ e ∈ l, FinOk X Y e) → rrunsFrom (seg X Y V a.toNat (b - a).toNat) a.toNat out = l.foldl (jstep X Y) out
  | [], a, b, out, h0, h, _, _ => by simp only [Til] at h; subst h; simp [seg, rrunsFrom]
  | e :: l, a, b, out, h0, ⟨h1, h2, h3⟩, hs, hf => by
    subst h1
    have hle := h3.le
    rw [show (b - e.lo).toNat = (e.hi - e.lo).toNat + (b - e.hi).toNat by omega, seg_app, rrunsFrom_app, seg_run h0 h2 (hs e List.mem_cons_self) (hf e List.mem_cons_self)]
    have e1 : e.lo.toNat + (seg X Y V e.lo.toNat (e.hi - e.lo).toNat).length = e.hi.toNat := by simp [seg]; omega
    rw [e1, show e.lo.toNat + (e.hi - e.lo).toNat = e.hi.toNat by omega]
    exact seg_runs (l := l) (by omega) h3 (fun x hx => hs x (List.mem_cons_of_mem _ hx)) fun x hx => hf x (List.mem_cons_of_mem _ hx)
theorem seg_all {X Y : Ar} {V : Int → Int × Int} {N : Nat} : cellsOf X Y V N = seg X Y V 0 N := by
  unfold cellsOf seg; rw [List.range_eq_range']

/-- Joined by extents, joined by cells: the same. -/
theorem join_eq {x y : AV} (hmx : May x.ar) (hmy : May y.ar) (hs : y.size = x.size) (hx : AvOk x) (hy : AvOk y) : joinRs x.ar y.ar = rruns (cells2 x.ar y.ar) := by
  have hfit := fits_of hmx hmy hs hx hy
  obtain ⟨h1, h2⟩ := fin_til hfit
  rw [cells2_eq (may_fit hmx hx rfl) (may_fit hmy hy (by show y.size.toNat = x.size.toNat; rw [hs])), seg_all]
  have h3 := seg_runs (X := x.ar) (Y := y.ar) (V := vK x.ar y.ar 2) (out := []) (Int.le_refl 0) h1 h2 fun e he => by
    rcases (fin_at hfit he).2 with h | ⟨k, n, r, hk, hr, ha, hn, ho1, ho2⟩
    · exact .inl h
    · refine .inr ⟨k, n, r, hr, ha, hn, ho1, ho2, ?_⟩
      have hr2 := hr
      rw [arK_av] at hr2
      obtain ⟨rv, hrv, rfl⟩ : ∃ rv, (avK x y k).rs[n]? = some rv ∧ rv.1 = r := by simpa [AV.ar, pures] using hr2
      have hok : AvOk (avK x y k) := by unfold avK; split; exact hx; exact hy
      have hmk : May (avK x y k).ar := by unfold avK; split; exact hmx; exact hmy
      exact (data_len hmk hok hrv).2
  unfold joinRs rruns
  rw [← h3]
  simp
end Go.Proofs.Ytllpfpdanonhkaa
