/- Plain: extents that lie side by side, and what they say of each place. No condition. -/
import Derived.Test.YtllpfpdanonhkaaSet
namespace Go.Proofs.Ytllpfpdanonhkaa
open Go.Sx Go.RowKit
set_option linter.unusedVariables false
set_option linter.unusedSimpArgs false

/-- Side by side from a to b. -/
def Til : Int → Int → List Xt → Prop
  | a, b, [] => a = b
  | a, b, e :: l => e.lo = a ∧ e.lo < e.hi ∧ Til e.hi b l
/-- They say of each place what V says. -/
def Says (V : Int → Int × Int) (l : List Xt) : Prop := ∀ e ∈ l, ∀ p, e.lo ≤ p → p < e.hi → V p = (e.a, e.r)

theorem Til.le : ∀ {l : List Xt} {a b : Int}, Til a b l → a ≤ b ∧ (l.length : Int) ≤ b - a
  | [], a, b, h => by simp only [Til] at h; simp; omega
  | e :: l, a, b, ⟨h1, h2, h3⟩ => by have := h3.le; simp only [List.length_cons]; omega
theorem Til.mem : ∀ {l : List Xt} {a b : Int}, Til a b l → ∀ e ∈ l, a ≤ e.lo ∧ e.lo < e.hi ∧ e.hi ≤ b
  | [], _, _, _, _, he => by cases he
  | x :: l, a, b, ⟨h1, h2, h3⟩, e, he => by
    rcases List.mem_cons.1 he with rfl | he
    · have := h3.le; omega
    · have := h3.mem e he; omega
theorem Til.pair : ∀ {l : List Xt} {a b : Int}, Til a b l → l.Pairwise fun x y => x.lo ≤ y.lo ∧ x.hi ≤ y.hi
  | [], _, _, _ => .nil
  | x :: l, a, b, ⟨h1, h2, h3⟩ => .cons (fun y hy => by have := h3.mem y hy; omega) h3.pair
theorem Til.srt {l : List Xt} {a b : Int} (h : Til a b l) : SrtE l := fun i j hij hj => by
  rcases Nat.lt_or_ge i j with hlt | hge
  · have h1 := List.pairwise_iff_getElem.1 h.pair i j (by omega) hj hlt
    have e1 : gE l i = l[i] := by simp [gE, List.getD, show i < l.length by omega]
    have e2 : gE l j = l[j] := by simp [gE, List.getD, hj]
    rw [e1, e2]; exact h1
  · have : i = j := by omega
    subst this
    exact ⟨Int.le_refl _, Int.le_refl _⟩
theorem Til.snoc : ∀ {l : List Xt} {a b c : Int} {e : Xt}, Til a b l → e.lo = b → e.lo < e.hi → e.hi = c → Til a c (l ++ [e])
  | [], a, b, c, e, h, h1, h2, h3 => ⟨by simp only [Til] at h; omega, h2, by simp only [Til]; exact h3⟩
  | x :: l, a, b, c, e, ⟨k1, k2, k3⟩, h1, h2, h3 => ⟨k1, k2, k3.snoc h1 h2 h3⟩
theorem Til.unsnoc : ∀ {l : List Xt} {a b : Int} {e : Xt}, Til a b (l ++ [e]) → Til a e.lo l ∧ e.lo < e.hi ∧ e.hi = b
  | [], a, b, e, ⟨h1, h2, h3⟩ => ⟨by simp only [Til]; exact h1.symm, h2, by simp only [Til] at h3; exact h3⟩
  | x :: l, a, b, e, ⟨k1, k2, k3⟩ => by
    obtain ⟨h1, h2, h3⟩ := Til.unsnoc k3
    exact ⟨⟨k1, k2, h1⟩, h2, h3⟩

theorem lay_til {V : Int → Int × Int} {l : List Xt} {r : Xt} {a : Int} (h : Til a r.lo l) (hs : Says V l) (hr : r.lo < r.hi) (hv : ∀ p, r.lo ≤ p → p < r.hi → V p = (r.a, r.r)) : Til a r.hi (layE l r) ∧ Says V (layE l r) := by
  rcases List.eq_nil_or_concat l with rfl | ⟨ini, x, rfl⟩
  · rw [layE_nil hr]
    simp only [Til] at h
    exact ⟨⟨h.symm, hr, rfl⟩, fun e he => by rw [List.mem_singleton.1 he]; exact hv⟩
  · rw [List.concat_eq_append] at h hs ⊢
    rw [layE_snoc hr]
    obtain ⟨h1, h2, h3⟩ := Til.unsnoc h
    split
    · rename_i hj
      refine ⟨h1.snoc rfl (by show x.lo < r.hi; omega) rfl, fun e he p hp hq => ?_⟩
      rcases List.mem_append.1 he with he | he
      · exact hs e (List.mem_append_left _ he) p hp hq
      · rw [List.mem_singleton.1 he] at hp hq ⊢
        dsimp only at hp hq ⊢
        by_cases hx : p < x.hi
        · exact hs x (by simp) p hp hx
        · rw [hj.1.1, hj.1.2]; exact hv p (by omega) hq
    · refine ⟨?_, fun e he p hp hq => ?_⟩
      · have := h.snoc (e := r) rfl hr rfl
        simpa using this
      · have he' : e ∈ ini ++ [x] ∨ e = r := by simpa [or_assoc] using he
        rcases he' with he | rfl
        · exact hs e he p hp hq
        · exact hv p hp hq
theorem fold_til {V : Int → Int × Int} : ∀ {xs l : List Xt} {a b c : Int}, Til a b l → Says V l → Til b c xs → Says V xs → Til a c (xs.foldl layE l) ∧ Says V (xs.foldl layE l)
  | [], l, a, b, c, h, hs, hx, _ => by simp only [Til] at hx; subst hx; exact ⟨h, hs⟩
  | x :: xs, l, a, b, c, h, hs, ⟨h1, h2, h3⟩, hv => by
    subst h1
    obtain ⟨k1, k2⟩ := lay_til h hs h2 (hv x List.mem_cons_self)
    exact fold_til (xs := xs) (l := layE l x) k1 k2 h3 fun e he => hv e (List.mem_cons_of_mem _ he)

theorem cut_til {lo hi : Int} : ∀ {l : List Xt} {a b : Int}, Til a b l → lo ≤ hi → a ≤ hi → lo ≤ b → hi ≤ b → Til (max a lo) hi (cutE lo hi l)
  | [], a, b, h, h1, h2, h3, h4 => by simp only [Til] at h; simp only [cutE, List.filterMap_nil, Til]; omega
  | e :: l, a, b, ⟨k1, k2, k3⟩, h1, h2, h3, h4 => by
    unfold cutE
    rw [List.filterMap_cons]
    by_cases hc : max e.lo lo < min e.hi hi
    · rw [cut_yes hc]
      refine ⟨by show max e.lo lo = _; omega, hc, ?_⟩
      show Til (min e.hi hi) hi (cutE lo hi l)
      by_cases hh : e.hi ≤ hi
      · have := cut_til k3 h1 hh h3 h4
        rwa [show max e.hi lo = min e.hi hi by omega] at this
      · rw [cut_none (fun x hx => by have := k3.mem x hx; omega)]
        simp only [Til]; omega
    · rw [cut_no hc]
      show Til (max a lo) hi (cutE lo hi l)
      by_cases hh : e.hi ≤ hi
      · have := cut_til k3 h1 hh h3 h4
        rwa [show max e.hi lo = max a lo by omega] at this
      · rw [cut_none (fun x hx => by have := k3.mem x hx; omega)]
        simp only [Til]; omega
theorem cut_says {V : Int → Int × Int} {lo hi : Int} {l : List Xt} (h : Says V l) : Says V (cutE lo hi l) ∧ ∀ e ∈ cutE lo hi l, lo ≤ e.lo ∧ e.hi ≤ hi := by
  refine ⟨fun e he p hp hq => ?_, fun e he => ?_⟩
  all_goals
    obtain ⟨x, hx, h1⟩ := List.mem_filterMap.1 he
    unfold cut1 at h1
    split at h1
    case isFalse => cases h1
    cases h1
  · simp only [clip] at hp hq ⊢
    exact h x hx p (by omega) (by omega)
  · simp only [clip]; omega

def setV (V : Int → Int × Int) (r : Xt) : Int → Int × Int := fun p => if r.lo ≤ p ∧ p < r.hi then (r.a, r.r) else V p
theorem set_til {V : Int → Int × Int} {size : Int} {l : List Xt} {r : Xt} (h : Til 0 size l) (hs : Says V l) (h0 : 0 ≤ r.lo ∧ r.lo ≤ r.hi ∧ r.hi ≤ size) : Til 0 size (setE size l r) ∧ Says (setV V r) (setE size l r) := by
  unfold setE
  split
  · exact ⟨h, fun e he p hp hq => by rw [← hs e he p hp hq]; unfold setV; rw [if_neg (by omega)]⟩
  · rw [show max (0 : Int) 0 = 0 by omega, show min r.lo size = r.lo by omega, show max r.hi 0 = r.hi by omega, show min size size = size by omega]
    have c1 := cut_til (lo := 0) (hi := r.lo) h (by omega) (by omega) (by omega) (by omega)
    have c2 := cut_til (lo := r.hi) (hi := size) h (by omega) (by omega) (by omega) (by omega)
    rw [show max (0 : Int) 0 = 0 by omega] at c1
    rw [show max (0 : Int) r.hi = r.hi by omega] at c2
    have s1 : Says (setV V r) (cutE 0 r.lo l) := fun e he p hp hq => by
      have h1 := (cut_says (lo := 0) (hi := r.lo) hs).1 e he p hp hq
      have h2 := (cut_says (lo := 0) (hi := r.lo) hs).2 e he
      rw [← h1]; unfold setV; rw [if_neg (by omega)]
    have s2 : Says (setV V r) (cutE r.hi size l) := fun e he p hp hq => by
      have h1 := (cut_says (lo := r.hi) (hi := size) hs).1 e he p hp hq
      have h2 := (cut_says (lo := r.hi) (hi := size) hs).2 e he
      rw [← h1]; unfold setV; rw [if_neg (by omega)]
    obtain ⟨f1, f2⟩ := fold_til (a := 0) (l := []) rfl (fun e he => by cases he) c1 s1
    obtain ⟨g1, g2⟩ := lay_til f1 f2 (by omega) (fun p hp hq => by unfold setV; rw [if_pos ⟨hp, hq⟩])
    exact fold_til g1 g2 c2 s2
theorem new_til {size a r : Int} (h : 0 ≤ size) : Til 0 size (newE size a r) ∧ Says (fun _ => (a, r)) (newE size a r) := by
  unfold newE
  split
  · exact ⟨⟨rfl, by assumption, rfl⟩, fun e he => by rw [List.mem_singleton.1 he]; exact fun _ _ _ => rfl⟩
  · exact ⟨by simp only [Til]; omega, fun e he => by cases he⟩
end Go.Proofs.Ytllpfpdanonhkaa
