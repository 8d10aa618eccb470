/- Plain: the normal list of ranges; the ranges that an archive's runs change. No condition. -/
import Derived.Test.YtllpfpdanonhkaaSxSort
import Derived.Test.YtllpfpdanonhkaaMay
namespace Go.Proofs.Ytllpfpdanonhkaa
open Go.Sx Go.RowKit
set_option linter.unusedVariables false
set_option linter.unusedSimpArgs false

def clipG (x : Int × Int) : Int × Int := (max x.1 0, min x.2 1099511627776)
def addG (c : List (Int × Int)) (x : Int × Int) : List (Int × Int) := if (clipG x).1 < (clipG x).2 then c ++ [clipG x] else c
def keepG (l : List (Int × Int)) : List (Int × Int) := l.foldl addG []
def mstepG (out : List (Int × Int)) (r : Int × Int) : List (Int × Int) := match out[out.length - 1]? with
  | none => out ++ [r]
  | some x => if r.1 ≤ x.2 then out.set (out.length - 1) (x.1, max x.2 r.2) else out ++ [r]
def nrmG (l : List (Int × Int)) : List (Int × Int) := l.foldl mstepG []
def jstepG (out : List (Int × Int)) (r : Int × Int) : List (Int × Int) := match out[out.length - 1]? with
  | none => out ++ [r]
  | some x => if x.2 = r.1 then out.set (out.length - 1) (x.1, r.2) else out ++ [r]
def chgG (l : List (Int × Int)) : List (Int × Int) := l.foldl jstepG []
def rgR (r : Rn) : Int × Int := (r.off, r.off + r.len)
theorem foldG_take {α β : Type} {f : β → α → β} {b : β} {l : List α} {k : Nat} {x : α} (h : l[k]? = some x) : (l.take (k + 1)).foldl f b = f ((l.take k).foldl f b) x := by
  rw [List.take_add_one, h]; simp
theorem mstepG_len {out : List (Int × Int)} {r : Int × Int} : (mstepG out r).length ≤ out.length + 1 := by
  unfold mstepG
  split
  · simp
  · split <;> simp
theorem jstepG_len {out : List (Int × Int)} {r : Int × Int} : (jstepG out r).length ≤ out.length + 1 := by
  unfold jstepG
  split
  · simp
  · split <;> simp
theorem foldG_len {f : List (Int × Int) → Int × Int → List (Int × Int)} (hf : ∀ o r, (f o r).length ≤ o.length + 1) : ∀ {l : List (Int × Int)} {o : List (Int × Int)}, (l.foldl f o).length ≤ o.length + l.length
  | [], o => by simp
  | x :: l, o => by
    have h1 := foldG_len hf (l := l) (o := f o x)
    have h2 := hf o x
    rw [List.foldl_cons, List.length_cons]; omega
theorem addG_len {o : List (Int × Int)} {r : Int × Int} : (addG o r).length ≤ o.length + 1 := by
  unfold addG
  split <;> simp
theorem keepG_len {l : List (Int × Int)} {k : Nat} : (keepG (l.take k)).length ≤ k := by
  have := foldG_len (f := addG) (fun _ _ => addG_len) (l := l.take k) (o := [])
  simp at this
  unfold keepG
  omega
theorem nrmG_len {l : List (Int × Int)} : (nrmG l).length ≤ l.length := by
  have := foldG_len (f := mstepG) (fun _ _ => mstepG_len) (l := l) (o := [])
  simpa [nrmG] using this
theorem chgG_len {l : List (Int × Int)} : (chgG l).length ≤ l.length := by
  have := foldG_len (f := jstepG) (fun _ _ => jstepG_len) (l := l) (o := [])
  simpa [chgG] using this
def Asc : Int → List (Int × Int) → Prop
  | _, [] => True
  | b, r :: l => b ≤ r.1 ∧ r.1 < r.2 ∧ r.2 ≤ 1099511627776 ∧ Asc r.2 l
theorem asc_may {par size : Int} (hs : size ≤ 33554432) : ∀ {rs : List Rn} {a : Int} {p : Option Bool}, 0 ≤ a → (∀ r ∈ rs, 0 ≤ r.len) → MayGo par size a p rs → Asc a (rs.map rgR)
  | [], _, _, _, _, _ => trivial
  | r :: rs, a, p, ha, hl, ⟨⟨o1, o2, o3, o4, _⟩, h⟩ => by
    have h0 := hl r List.mem_cons_self
    exact ⟨o2, by simp only [rgR]; omega, by simp only [rgR]; omega, asc_may hs (by show (0 : Int) ≤ r.off + r.len; omega) (fun x hx => hl x (List.mem_cons_of_mem _ hx)) h⟩
theorem asc_keep : ∀ {l : List (Int × Int)} {b : Int} {c : List (Int × Int)}, 0 ≤ b → Asc b l → l.foldl addG c = c ++ l
  | [], _, c, _, _ => by simp
  | r :: l, b, c, hb, ⟨h1, h2, h3, h4⟩ => by
    have e : clipG r = r := by
      unfold clipG
      rw [show max r.1 0 = r.1 by omega, show min r.2 1099511627776 = r.2 by omega]
    have e2 : addG c r = c ++ [r] := by unfold addG; rw [e, if_pos h2]
    rw [List.foldl_cons, e2, asc_keep (b := r.2) (by omega) h4]; simp
theorem asc_lt : ∀ {l : List (Int × Int)} {b : Int}, Asc b l → ∀ x ∈ l, b ≤ x.1 ∧ x.1 < x.2
  | r :: l, b, ⟨h1, h2, h3, h4⟩, x, hx => by
    rcases List.mem_cons.1 hx with rfl | hx
    · exact ⟨h1, h2⟩
    · have := asc_lt h4 x hx; exact ⟨by omega, this.2⟩
theorem asc_pw : ∀ {l : List (Int × Int)} {b : Int}, Asc b l → l.Pairwise fun x y => x.1 < y.1
  | [], _, _ => List.Pairwise.nil
  | r :: l, b, ⟨h1, h2, h3, h4⟩ => List.Pairwise.cons (fun y hy => by have := (asc_lt h4 y hy).1; omega) (asc_pw h4)
theorem pw_inj : ∀ {l : List (Int × Int)}, (l.Pairwise fun x y => x.1 < y.1) → ∀ x ∈ l, ∀ y ∈ l, x.1 = y.1 → x = y
  | r :: l, h, x, hx, y, hy, e => by
    obtain ⟨h1, h2⟩ := List.pairwise_cons.1 h
    rcases List.mem_cons.1 hx with hx | hx <;> rcases List.mem_cons.1 hy with hy | hy
    · rw [hx, hy]
    · have := h1 y hy; rw [hx] at e; omega
    · have := h1 x hx; rw [hy] at e; omega
    · exact pw_inj h2 x hx y hy e
theorem sort_asc {l l' : List (Int × Int)} {b : Int} (h : Asc b l) (hs : SortOf l l') : l' = l := by
  obtain ⟨h1, h2⟩ := hs
  have h3 := asc_pw h
  refine List.Perm.eq_of_pairwise (le := fun a b : Int × Int => ¬ b.1 < a.1) (fun x y hx hy e1 e2 => ?_) h2 (h3.imp fun e => by omega) h1
  exact pw_inj h3 x (h1.mem_iff.1 hx) y hy (by omega)
theorem asc_fold : ∀ {l out : List (Int × Int)} {b : Int}, (∀ x ∈ out, x.2 ≤ b) → Asc b l → l.foldl mstepG out = l.foldl jstepG out
  | [], _, _, _, _ => rfl
  | r :: l, out, b, ho, ⟨h1, h2, h3, h4⟩ => by
    have e : mstepG out r = jstepG out r := by
      unfold mstepG jstepG
      cases hx : out[out.length - 1]? with
      | none => rfl
      | some x =>
        have := ho x (List.mem_of_getElem? hx)
        dsimp only
        by_cases he : x.2 = r.1
        · rw [if_pos he, if_pos (by omega), show max x.2 r.2 = r.2 by omega]
        · rw [if_neg he, if_neg (by omega)]
    rw [List.foldl_cons, List.foldl_cons, e]
    refine asc_fold (b := r.2) (fun x hx => ?_) h4
    unfold jstepG at hx
    split at hx
    · rcases List.mem_append.1 hx with hx | hx
      · have := ho x hx; omega
      · rw [List.mem_singleton.1 hx]; exact Int.le_refl _
    · split at hx
      · rcases List.mem_or_eq_of_mem_set hx with hx | rfl
        · have := ho x hx; omega
        · exact Int.le_refl _
      · rcases List.mem_append.1 hx with hx | hx
        · have := ho x hx; omega
        · rw [List.mem_singleton.1 hx]; exact Int.le_refl _
/-- What an archive's runs change: the normal list is the reference's. -/
theorem may_norm {a : Ar} {l' : List (Int × Int)} (hm : May a) (hl : ∀ r ∈ a.runs, 0 ≤ r.len) (hs : SortOf (keepG (a.runs.map rgR)) l') : nrmG l' = chgG (a.runs.map rgR) := by
  have h := asc_may hm.2.2.2.1 (Int.le_refl 0) hl hm.2.2.2.2
  have hk : keepG (a.runs.map rgR) = a.runs.map rgR := by
    have := asc_keep (c := []) (Int.le_refl 0) h
    simpa [keepG] using this
  rw [hk] at hs
  rw [sort_asc h hs]
  exact asc_fold (fun x hx => by cases hx) h
theorem cellsG_at {l : List (Int × Int)} {k : Nat} {x : Int × Int} (h : l[k]? = some x) : (l.map cellsG)[k]? = some [.int .i64 x.1, .int .i64 x.2] := by simp [h, cellsG]
end Go.Proofs.Ytllpfpdanonhkaa
