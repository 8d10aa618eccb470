/- A small separation logic over the model's worlds: fragments of the heap, lists of chunks that lie apart, and what a step of memory does to them. No condition. -/
import Derived.OrdersIn
import Derived.WalkKit
namespace Go.Sx
open Go.RowKit

/-- A part of the heap. -/
abbrev Frag := Nat → Option Obj
def Frag.le (a b : Frag) : Prop := ∀ k o, a k = some o → b k = some o
def Frag.sub (h h1 : Frag) : Frag := fun k => if (h1 k).isSome then none else h k
/-- What is said of a part of the heap. -/
abbrev HP := Frag → Prop
/-- Chunks that lie apart, and whatever else. -/
def Star : List HP → Frag → Prop
  | [], _ => True
  | P :: L, h => ∃ h1 : Frag, h1.le h ∧ P h1 ∧ Star L (h.sub h1)

theorem Frag.le_refl (a : Frag) : a.le a := fun _ _ h => h
theorem Frag.le_trans {a b c : Frag} (h : a.le b) (k : b.le c) : a.le c := fun i o hi => k i o (h i o hi)
theorem Frag.sub_le (h h1 : Frag) : (h.sub h1).le h := fun k o hk => by
  unfold Frag.sub at hk
  split at hk
  · cases hk
  · exact hk
theorem Frag.sub_mono {a b : Frag} (h : a.le b) (c : Frag) : (a.sub c).le (b.sub c) := fun k o hk => by
  unfold Frag.sub at hk ⊢
  split at hk
  · cases hk
  · rename_i hn; rw [if_neg hn]; exact h k o hk

theorem Star.mono : ∀ {L : List HP} {a b : Frag}, a.le b → Star L a → Star L b
  | [], _, _, _, _ => trivial
  | _ :: _, _, _, h, ⟨h1, hl, hp, hs⟩ => ⟨h1, Frag.le_trans hl h, hp, Star.mono (Frag.sub_mono h h1) hs⟩

theorem Star.tail {c : HP} {L : List HP} {h : Frag} (hs : Star (c :: L) h) : Star L h :=
  let ⟨h1, _, _, hk⟩ := hs
  Star.mono (Frag.sub_le h h1) hk

theorem Star.swap {c d : HP} {L : List HP} {h : Frag} (hs : Star (c :: d :: L) h) : Star (d :: c :: L) h := by
  obtain ⟨h1, hl1, hp1, h2, hl2, hp2, hk⟩ := hs
  refine ⟨h2, Frag.le_trans hl2 (Frag.sub_le _ _), hp2, h1, fun k o hk1 => ?_, hp1, ?_⟩
  · unfold Frag.sub
    split
    · rename_i hsome
      obtain ⟨o2, ho2⟩ := Option.isSome_iff_exists.1 hsome
      have := hl2 k o2 ho2
      simp [Frag.sub, hk1] at this
    · exact hl1 k o hk1
  · refine Star.mono (fun k o hko => ?_) hk
    unfold Frag.sub at hko ⊢
    split at hko
    · cases hko
    · rename_i h2n
      split at hko
      · cases hko
      · rename_i h1n
        rw [if_neg h1n, if_neg h2n]; exact hko

theorem Star.cons_mono {c : HP} {L L' : List HP} (hL : ∀ h, Star L h → Star L' h) {h : Frag} (hs : Star (c :: L) h) : Star (c :: L') h :=
  let ⟨h1, a, b, k⟩ := hs
  ⟨h1, a, b, hL _ k⟩

theorem Star.head_mono {c d : HP} {L : List HP} (hc : ∀ h, c h → d h) {h : Frag} (hs : Star (c :: L) h) : Star (d :: L) h :=
  let ⟨h1, a, b, k⟩ := hs
  ⟨h1, a, hc _ b, k⟩

/-- `L` is `c` and `F`. -/
inductive Pick : List HP → HP → List HP → Prop
  | here {c : HP} {L : List HP} : Pick (c :: L) c L
  | there {c d : HP} {L F : List HP} (h : Pick L c F) : Pick (d :: L) c (d :: F)

theorem Pick.star {L F : List HP} {c : HP} (hp : Pick L c F) : ∀ {h : Frag}, Star L h → Star (c :: F) h := by
  induction hp with
  | here => exact fun h => h
  | there _ ih => exact fun hs => Star.swap (Star.cons_mono (fun _ => ih) hs)
theorem Pick.unstar {L F : List HP} {c : HP} (hp : Pick L c F) : ∀ {h : Frag}, Star (c :: F) h → Star L h := by
  induction hp with
  | here => exact fun h => h
  | there _ ih => exact fun hs => Star.cons_mono (fun _ => ih) (Star.swap hs)

/-- Several chunks as one. -/
def pack (L : List HP) : HP := Star L

theorem Star.unpack : ∀ {L1 L : List HP} {h : Frag}, Star (pack L1 :: L) h → Star (L1 ++ L) h
  | [], _, _, hs => hs.tail
  | c :: L1, L, h, ⟨h1, hl, ⟨h2, hl2, hp2, hk2⟩, hs⟩ => by
    refine ⟨h2, Frag.le_trans hl2 hl, hp2, Star.unpack (L1 := L1) ⟨h1.sub h2, Frag.sub_mono hl h2, hk2, Star.mono (fun k o hko => ?_) hs⟩⟩
    unfold Frag.sub at hko ⊢
    split at hko
    · cases hko
    · rename_i h1n
      have h1k : h1 k = none := by simpa using h1n
      have h2k : h2 k = none := by
        cases e : h2 k with
        | none => rfl
        | some o2 => rw [hl2 k o2 e] at h1k; cases h1k
      simp [h1k, h2k, hko]

theorem Star.repack : ∀ {L1 L : List HP} {h : Frag}, Star (L1 ++ L) h → Star (pack L1 :: L) h
  | [], L, h, hs => ⟨fun _ => none, fun _ _ hk => (by cases hk), trivial, Star.mono (fun k o hk => by simpa [Frag.sub] using hk) hs⟩
  | c :: L1, L, h, ⟨h2, hl2, hp2, hk⟩ => by
    obtain ⟨h3, hl3, hp3, hk3⟩ := Star.repack (L1 := L1) (L := L) hk
    refine ⟨fun k => (h2 k).or (h3 k), fun k o hko => ?_, ⟨h2, fun k o hko => by simp [hko], hp2, Star.mono (fun k o hko => ?_) hp3⟩, Star.mono (fun k o hko => ?_) hk3⟩
    · cases e : h2 k with
      | some o2 => simp [e] at hko; subst hko; exact hl2 k _ e
      | none => simp [e] at hko; exact Frag.sub_le _ _ k o (hl3 k o hko)
    · have := hl3 k o hko
      unfold Frag.sub at this ⊢
      split at this
      · cases this
      · rename_i hn
        have h2k : h2 k = none := by simpa using hn
        simp [h2k, hko]
    · unfold Frag.sub at hko ⊢
      split at hko
      · cases hko
      · rename_i h3n
        split at hko
        · cases hko
        · rename_i h2n
          have h3k : h3 k = none := by simpa using h3n
          have h2k : h2 k = none := by simpa using h2n
          simp [h3k, h2k, hko]

/-! ### Chunks -/
def blk (g : Nat) (o : Obj) : HP := fun h => h g = some o
def exi {α : Sort _} (F : α → List HP) : HP := fun h => ∃ x, Star (F x) h
def pur (p : Prop) : HP := fun _ => p

theorem Star.exi_elim {α : Sort _} {F : α → List HP} {L : List HP} {h : Frag} (hs : Star (exi F :: L) h) : ∃ x, Star (F x ++ L) h :=
  let ⟨h1, hl, ⟨x, hx⟩, hk⟩ := hs
  ⟨x, Star.unpack (L1 := F x) ⟨h1, hl, hx, hk⟩⟩
theorem Star.exi_intro {α : Sort _} {F : α → List HP} {L : List HP} {h : Frag} (x : α) (hs : Star (F x ++ L) h) : Star (exi F :: L) h :=
  Star.head_mono (fun _ hx => ⟨x, hx⟩) (Star.repack (L1 := F x) hs)
theorem Star.pur_elim {p : Prop} {L : List HP} {h : Frag} (hs : Star (pur p :: L) h) : p ∧ Star L h :=
  let ⟨_, _, hp, _⟩ := hs
  ⟨hp, hs.tail⟩
theorem Star.pur_intro {p : Prop} {L : List HP} {h : Frag} (hp : p) (hs : Star L h) : Star (pur p :: L) h :=
  ⟨fun _ => none, fun _ _ hk => (by cases hk), hp, Star.mono (fun k o hk => by simpa [Frag.sub] using hk) hs⟩

/-! ### A world in which they lie -/
def ownf (w0 w : World) : Frag := fun k => if k < w0.heap.size then none else w.heap[k]?
/-- What was there when all began is as it was; behind it lie these chunks. -/
structure Sat (w0 w : World) (L : List HP) : Prop where
  bel : Below w0.heap.size w0 w
  star : Star L (ownf w0 w)

theorem Sat.refl (w : World) : Sat w w [] := ⟨Below.refl _ _, trivial⟩
theorem Sat.mono {w0 w : World} {L L' : List HP} (hs : Sat w0 w L) (h : ∀ f, Star L f → Star L' f) : Sat w0 w L' := ⟨hs.bel, h _ hs.star⟩
theorem Sat.pick {w0 w : World} {L F : List HP} {c : HP} (hs : Sat w0 w L) (hp : Pick L c F) : Sat w0 w (c :: F) := hs.mono fun _ => hp.star
theorem Sat.unpick {w0 w : World} {L F : List HP} {c : HP} (hs : Sat w0 w (c :: F)) (hp : Pick L c F) : Sat w0 w L := hs.mono fun _ => hp.unstar
theorem Sat.tail {w0 w : World} {L : List HP} {c : HP} (hs : Sat w0 w (c :: L)) : Sat w0 w L := hs.mono fun _ => Star.tail

theorem Sat.blk_at {w0 w : World} {L : List HP} {g : Nat} {o : Obj} (hs : Sat w0 w (blk g o :: L)) : w.heap[g]? = some o ∧ w0.heap.size ≤ g := by
  obtain ⟨h1, hl, hp, _⟩ := hs.star
  have := hl g o hp
  unfold ownf at this
  split at this
  · cases this
  · exact ⟨this, by omega⟩

theorem Sat.blk_ne {w0 w : World} {L : List HP} {g g' : Nat} {o o' : Obj} (hs : Sat w0 w (blk g o :: blk g' o' :: L)) : g ≠ g' := by
  rintro rfl
  obtain ⟨h1, _, hp, h2, hl2, hp2, _⟩ := hs.star
  have := hl2 g o' hp2
  have hp' : h1 g = some o := hp
  simp [Frag.sub, hp'] at this

/-- Block g turns, all else stays. -/
theorem Sat.turn {w0 w w' : World} {L : List HP} {g : Nat} {o o' : Obj} (hs : Sat w0 w (blk g o :: L)) (hos : w'.os = w.os) (htape : w'.tape = w.tape) (hout : w'.output = w.output)
    (hsize : w'.heap.size = w.heap.size) (hg : w'.heap[g]? = some o') (hk : ∀ k, k ≠ g → w'.heap[k]? = w.heap[k]?) : Sat w0 w' (blk g o' :: L) := by
  have hge := hs.blk_at.2
  refine ⟨⟨hos.trans hs.bel.os, htape.trans hs.bel.tape, hout.trans hs.bel.output, by rw [hsize]; exact hs.bel.size, fun k hk' => (hk k (by omega)).trans (hs.bel.block k hk')⟩, ?_⟩
  obtain ⟨h1, hl, hp, hst⟩ := hs.star
  refine ⟨fun k => if k = g then some o' else none, fun k o2 hk2 => ?_, by simp [blk], Star.mono (fun k o2 hk2 => ?_) hst⟩
  · dsimp only at hk2
    split at hk2
    · rename_i e; subst e; cases hk2
      unfold ownf; rw [if_neg (by omega)]; exact hg
    · cases hk2
  · unfold Frag.sub at hk2
    split at hk2
    · cases hk2
    · rename_i hn
      have hne : k ≠ g := by
        rintro rfl
        have hp' : h1 k = some o := hp
        simp [hp'] at hn
      unfold Frag.sub
      simp only [hne, if_false, Option.isSome_none, Bool.false_eq_true]
      unfold ownf at hk2 ⊢
      split at hk2
      · cases hk2
      · rename_i hlt
        rw [if_neg hlt, hk k hne]; exact hk2

/-- A new block. -/
theorem Sat.push {w0 w : World} {L : List HP} (hs : Sat w0 w L) (o : Obj) : Sat w0 { w with heap := w.heap.push o } (blk w.heap.size o :: L) := by
  have hb := hs.bel
  have hsz := hb.size
  refine ⟨⟨hb.os, hb.tape, hb.output, by simp; omega, fun k hk => ?_⟩, ?_⟩
  · show (w.heap.push o)[k]? = _
    rw [Array.getElem?_push, if_neg (by omega)]; exact hb.block k hk
  · refine ⟨fun k => if k = w.heap.size then some o else none, fun k o2 hk2 => ?_, by simp [blk], Star.mono (fun k o2 hk2 => ?_) hs.star⟩
    · dsimp only at hk2
      split at hk2
      · rename_i e; subst e; cases hk2
        unfold ownf; rw [if_neg (by omega)]
        show (w.heap.push o)[w.heap.size]? = _
        simp
      · cases hk2
    · unfold ownf at hk2
      split at hk2
      · cases hk2
      · rename_i hlt
        have hkl : k < w.heap.size := by
          rcases Nat.lt_or_ge k w.heap.size with h | h
          · exact h
          · rw [Array.getElem?_eq_none h] at hk2; cases hk2
        unfold Frag.sub
        have hne : k ≠ w.heap.size := by omega
        simp only [hne, if_false, Option.isSome_none, Bool.false_eq_true]
        unfold ownf
        rw [if_neg hlt]
        show (w.heap.push o)[k]? = _
        rw [Array.getElem?_push, if_neg hne]; exact hk2

theorem Sat.drawn {w0 w : World} {L : List HP} (hs : Sat w0 w L) (n : Nat) : Sat w0 { w with drawn := n } L :=
  ⟨⟨hs.bel.os, hs.bel.tape, hs.bel.output, hs.bel.size, hs.bel.block⟩, hs.star⟩

/-- Nothing that was there has turned. -/
theorem Sat.below {w0 w w' : World} {L : List HP} (hs : Sat w0 w L) (hb : Below w.heap.size w w') : Sat w0 w' L := by
  refine ⟨hs.bel.trans (hb.mono hs.bel.size), Star.mono (fun k o hk => ?_) hs.star⟩
  unfold ownf at hk ⊢
  split at hk
  · cases hk
  · rename_i hlt
    rw [if_neg hlt, hb.block k (by
      rcases Nat.lt_or_ge k w.heap.size with h | h
      · exact h
      · rw [Array.getElem?_eq_none h] at hk; cases hk)]
    exact hk

end Go.Sx
