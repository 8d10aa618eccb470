/- Walk: an archive of a device by the reference. No condition. -/
import Derived.Test.YtllpfpdanonhkaaRuns
set_option maxRecDepth 8000
set_option maxHeartbeats 4000000
set_option linter.unusedVariables false
set_option linter.unusedSimpArgs false
namespace Go.Proofs.Ytllpfpdanonhkaa
open Go.Sx Go.RowKit

theorem lay_lay {out : List Rn} {r s : Rn} (h1 : r.off + r.len = s.off) (h2 : r.hole = s.hole) : layP (layP out r) s = layP out ⟨r.off, r.len + s.len, r.hole, r.data ++ s.data⟩ := by
  rcases List.eq_nil_or_concat out with rfl | ⟨ini, x, rfl⟩
  · show layP [r] s = _
    simp only [layP]
    rw [if_pos (show joins r s from ⟨h1, h2⟩)]
  · rw [List.concat_eq_append, layP_snoc, layP_snoc]
    by_cases hj : joins x r
    · have hj2 : joins x ⟨r.off, r.len + s.len, r.hole, r.data ++ s.data⟩ := hj
      rw [if_pos hj, if_pos hj2, layP_snoc, if_pos (show joins ⟨x.off, x.len + r.len, x.hole, x.data ++ r.data⟩ s from ⟨by have := hj.1; dsimp only; omega, hj.2.trans h2⟩)]
      simp only [List.append_assoc, Int.add_assoc]
    · have hj2 : ¬ joins x ⟨r.off, r.len + s.len, r.hole, r.data ++ s.data⟩ := hj
      rw [if_neg hj, if_neg hj2, show ini ++ [x, r] = (ini ++ [x]) ++ [r] by simp, layP_snoc, if_pos (show joins r s from ⟨h1, h2⟩)]
      simp
theorem rruns_has {h : Bool} : ∀ {vs : List Int} {i : Nat} {out : List Rn}, vs ≠ [] → rrunsFrom (vs.map fun v => ⟨true, h, v⟩) i out = layP out ⟨i, vs.length, h, if h then [] else vs⟩
  | [], _, _, hn => absurd rfl hn
  | [v], i, out, _ => rfl
  | v :: w :: vs, i, out, _ => by
    have ih := rruns_has (h := h) (vs := w :: vs) (i := i + 1) (out := layP out (oneR i ⟨true, h, v⟩)) (by simp)
    show rrunsFrom ((w :: vs).map _) (i + 1) (rstep i out ⟨true, h, v⟩) = _
    rw [show rstep i out ⟨true, h, v⟩ = layP out (oneR i ⟨true, h, v⟩) from rfl, ih]
    refine (lay_lay (r := oneR i ⟨true, h, v⟩) (s := ⟨((i + 1 : Nat) : Int), ((w :: vs).length : Nat), h, if h then [] else w :: vs⟩) (by simp [oneR]) rfl).trans ?_
    congr 1
    simp only [oneR, Rn.mk.injEq, List.length_cons, true_and]
    refine ⟨by omega, ?_⟩
    cases h <;> rfl
theorem rruns_not : ∀ {l : List Cl} {i : Nat} {out : List Rn}, (∀ c ∈ l, c.has = false) → rrunsFrom l i out = out
  | [], _, _, _ => rfl
  | c :: l, i, out, h => by
    show rrunsFrom l (i + 1) (rstep i out c) = out
    rw [rstep, if_neg (by rw [h c List.mem_cons_self]; simp)]
    exact rruns_not fun x hx => h x (List.mem_cons_of_mem _ hx)
def clZ : Cl := ⟨false, false, 0⟩
def exCell (par : Int) (x : Ex) (v : Int) : Cl := if par = 0 ∨ x.dirty = true then ⟨true, x.hole, v⟩ else clZ
def exCells (par : Int) (b : List Int) (x : Ex) : List Cl := (part b x.off.toNat x.len.toNat).map (exCell par x)
def mkCells (par : Int) (b : List Int) (l : List Ex) : List Cl := (l.map (exCells par b)).flatten
theorem mkCells_succ {par : Int} {b : List Int} {l : List Ex} {k : Nat} {x : Ex} (h : l[k]? = some x) : mkCells par b (l.take (k + 1)) = mkCells par b (l.take k) ++ exCells par b x := by
  unfold mkCells; rw [List.take_add_one, h]; simp
theorem exCells_len {par : Int} {b : List Int} {x : Ex} (h : x.off.toNat + x.len.toNat ≤ b.length) : (exCells par b x).length = x.len.toNat := by
  unfold exCells; rw [List.length_map, part_length h]
theorem exCells_at {par : Int} {b : List Int} {x : Ex} {j : Nat} (h : x.off.toNat + x.len.toNat ≤ b.length) (hj : j < x.len.toNat) : (exCells par b x)[j]? = some (exCell par x (b.getD (x.off.toNat + j) 0)) := by
  unfold exCells
  have hp : j < (part b x.off.toNat x.len.toNat).length := by rw [part_length h]; exact hj
  rw [List.getElem?_map, List.getElem?_eq_getElem hp]
  simp only [Option.map_some]
  congr 2
  simp [part, List.getD, show x.off.toNat + j < b.length by omega]
theorem mkCells_len {par : Int} {b : List Int} {l : List Ex} (h : DevGo b 0 l) (hok : ∀ x ∈ l, ExOk x) : ∀ k, k ≤ l.length → ((mkCells par b (l.take k)).length : Int) = endE l k
  | 0, _ => by simp [mkCells, endE]
  | k + 1, hk => by
    obtain ⟨x, hx⟩ : ∃ x, l[k]? = some x := ⟨l[k]'(by omega), List.getElem?_eq_getElem _⟩
    obtain ⟨h1, h2, h3⟩ := DevGo_at h hok k (by omega)
    rw [DevGo_drop hx] at h1
    obtain ⟨o1, o2, o3, o4⟩ := h1.1
    obtain ⟨q1, q2, q3, q4⟩ := hok x (List.mem_of_getElem? hx)
    rw [mkCells_succ hx, List.length_append, exCells_len (by omega), show endE l (k + 1) = endE l k + x.len by simp [endE, hx]]
    have := mkCells_len (par := par) h hok k (by omega)
    omega
theorem rruns_mk {par : Int} {b : List Int} {l : List Ex} (h : DevGo b 0 l) (hok : ∀ x ∈ l, ExOk x) : ∀ k, k ≤ l.length → rruns (mkCells par b (l.take k)) = mkRuns par b (l.take k)
  | 0, _ => rfl
  | k + 1, hk => by
    obtain ⟨x, hx⟩ : ∃ x, l[k]? = some x := ⟨l[k]'(by omega), List.getElem?_eq_getElem _⟩
    obtain ⟨h1, h2, h3⟩ := DevGo_at h hok k (by omega)
    rw [DevGo_drop hx] at h1
    obtain ⟨o1, o2, o3, o4⟩ := h1.1
    obtain ⟨q1, q2, q3, q4⟩ := hok x (List.mem_of_getElem? hx)
    have hlen := mkCells_len (par := par) h hok k (by omega)
    have hpl : (part b x.off.toNat x.len.toNat).length = x.len.toNat := part_length (by omega)
    rw [mkCells_succ hx, mk_succ hx, rruns, rrunsFrom_app, Nat.zero_add]
    have ih : rrunsFrom (mkCells par b (l.take k)) 0 [] = mkRuns par b (l.take k) := rruns_mk h hok k (by omega)
    rw [ih]
    unfold mkStep
    by_cases hd : par ≠ 0 ∧ ¬ x.dirty = true
    · rw [if_pos hd]
      refine rruns_not fun c hc => ?_
      obtain ⟨v, _, rfl⟩ := List.mem_map.1 hc
      unfold exCell
      rw [if_neg (fun h => h.elim hd.1 hd.2)]; rfl
    · rw [if_neg hd]
      have e : exCells par b x = (part b x.off.toNat x.len.toNat).map fun v => ⟨true, x.hole, v⟩ := List.map_congr_left fun v _ => by unfold exCell; rw [if_pos (by by_cases h0 : par = 0; exact .inl h0; exact .inr (Decidable.byContradiction fun h2 => hd ⟨h0, h2⟩))]
      rw [e, rruns_has (by intro e; rw [e] at hpl; simp at hpl; omega)]
      unfold exR
      congr 1
      simp only [Rn.mk.injEq, true_and]
      exact ⟨by omega, by omega, trivial⟩
theorem lmax_zero {l : List Int} (hy : Byt l) (hl : l ≠ []) : lmax l ≤ 0 ↔ ∀ i, i < l.length → l.getD i 0 = 0 := by
  have key : ∀ (l : List Int) (a : Int), Byt l → 0 ≤ a → (l.foldl max a ≤ 0 ↔ a = 0 ∧ ∀ i, i < l.length → l.getD i 0 = 0) := by
    intro l
    induction l with
    | nil => intro a _ h; simp; omega
    | cons b l ih =>
      intro a hb h
      have h1 := hb b List.mem_cons_self
      rw [List.foldl_cons, ih (max a b) (fun x hx => hb x (List.mem_cons_of_mem _ hx)) (by omega)]
      constructor
      · rintro ⟨h2, h3⟩
        refine ⟨by omega, fun i hi => ?_⟩
        cases i with
        | zero => simp [List.getD]; omega
        | succ i => simpa [List.getD] using h3 i (by simpa using hi)
      · rintro ⟨h2, h3⟩
        have h4 := h3 0 (by simp)
        simp [List.getD] at h4
        refine ⟨by omega, fun i hi => ?_⟩
        simpa [List.getD] using h3 (i + 1) (by simpa using hi)
  cases l with
  | nil => exact absurd rfl hl
  | cons a l =>
    have h1 := hy a List.mem_cons_self
    show l.foldl max a ≤ 0 ↔ _
    rw [key l a (fun x hx => hy x (List.mem_cons_of_mem _ hx)) h1.1]
    constructor
    · rintro ⟨h2, h3⟩ i hi
      cases i with
      | zero => simp [List.getD, h2]
      | succ i => simpa [List.getD] using h3 i (by simpa using hi)
    · intro h3
      have h4 := h3 0 (by simp)
      simp [List.getD] at h4
      refine ⟨h4, fun i hi => ?_⟩
      simpa [List.getD] using h3 (i + 1) (by simpa using hi)
theorem part_getD {b : List Int} {p n i : Nat} (h : p + n ≤ b.length) (hi : i < n) : (part b p n).getD i 0 = b.getD (p + i) 0 := by
  simp [part, List.getD, show p + i < b.length by omega, show p + i < p + n by omega]
/-- Cells in the making. -/
def zC {α : Type} (z : α) (A E : List α) (N j : Nat) : List α := A ++ (E.take j ++ List.replicate (N - A.length - j) z)
theorem zC_len {α : Type} {z : α} {A E : List α} {N j : Nat} (h1 : A.length + E.length ≤ N) (h2 : j ≤ E.length) : (zC z A E N j).length = N := by simp [zC]; omega
theorem zC_set {α : Type} {z e : α} {A E : List α} {N j : Nat} (h1 : A.length + E.length ≤ N) (h : E[j]? = some e) : (zC z A E N j).set (A.length + j) e = zC z A E N (j + 1) := by
  have hj := (List.getElem?_eq_some_iff.1 h).1
  unfold zC
  rw [List.set_append_right _ _ (by omega), show A.length + j - A.length = j by omega, List.set_append_right _ _ (by simp; omega), List.length_take, Nat.min_eq_left (by omega), Nat.sub_self]
  rw [show N - A.length - j = (N - A.length - (j + 1)) + 1 by omega, List.replicate_succ, List.set_cons_zero, List.take_add_one, h]
  simp
theorem zC_skip {α : Type} {z : α} {A E : List α} {N j : Nat} (h1 : A.length + E.length ≤ N) (h : E[j]? = some z) : zC z A E N j = zC z A E N (j + 1) := by
  have hj := (List.getElem?_eq_some_iff.1 h).1
  unfold zC
  rw [show N - A.length - j = (N - A.length - (j + 1)) + 1 by omega, List.replicate_succ, List.take_add_one, h]
  simp
theorem zC_end {α : Type} {z : α} {A E : List α} {N : Nat} : zC z A E N E.length = zC z (A ++ E) [] N 0 := by simp [zC, Nat.sub_sub]
theorem zC_new {α : Type} {z : α} {A E : List α} {N : Nat} : zC z A [] N 0 = zC z A E N 0 := by simp [zC]
theorem cell_ok {par : Int} {b : List Int} {l : List Ex} (hy : Byt b) : ∀ c ∈ mkCells par b l, ClOk c := fun c hc => by
  obtain ⟨m, hm, hcm⟩ := List.mem_flatten.1 hc
  obtain ⟨x, _, rfl⟩ := List.mem_map.1 hm
  obtain ⟨v, hv, rfl⟩ := List.mem_map.1 hcm
  unfold exCell
  split
  · exact part_byt hy v hv
  · exact ⟨by decide, by decide⟩

theorem rmake {w0 : World} {L : List HP} {id par : Int} {ao lo : Option Addr} {n cp m cl : Nat} {b : List Int} {l : List Ex} (hid : 0 ≤ id ∧ id < 18446744073709551616) (hpar : 0 ≤ par ∧ par < 18446744073709551616) (hb : RdS w0 L 1 ao (ints .u8 b)) (hn : n = b.length) (hcp : n ≤ cp) (hle : n ≤ 1099511627776) (hy : Byt b) (hl : RdS w0 L 5 lo (l.map cellsE)) (hm : m = l.length) (hml : m ≤ 1099511627776) (hok : ∀ x ∈ l, ExOk x) :
    CallOk Tb.P w0 L 13 [.int .u64 id, .int .u64 par, .slice ao n cp, .slice lo m cl] fun u L' => (badArg id par b ∧ u = .tuple #[.agg #[.int .u64 0, .int .u64 0, .int .u64 0, .slice none 0 0], .int .i64 2] ∧ L' = L) ∨ (¬ badArg id par b ∧ ¬ DevGo b 0 l ∧ u = .tuple #[.agg #[.int .u64 0, .int .u64 0, .int .u64 0, .slice none 0 0], .int .i64 254] ∧ L' = L) ∨ (¬ badArg id par b ∧ DevGo b 0 l ∧ ∃ ao' cp' rs, pures rs = mkRuns par b l ∧ (∀ r ∈ pures rs, RnB b.length r) ∧ rs.length ≤ n ∧ u = .tuple #[.agg #[.int .u64 id, .int .u64 par, .int .u64 n, .slice ao' rs.length cp'], .int .i64 0] ∧ L' = Rns ao' cp' rs :: L) := by
  refine enter Try.func13 rfl Try.ntmps13 (Nat.le_of_ble_eq_true rfl) ?_
  refine At.seq ?_
  refine At.reg rfl ?_
  refine Run.al Tb.Z28 (h := fun g8 => ?_)
  refine Run.as (h := ?_)
  refine Run.fin ?_
  refine At.seq ?_
  refine At.seq ?_
  refine At.reg rfl ?_
  refine Run.mv (h := ?_)
  refine Run.eq (h := ?_)
  refine Run.mv (h := ?_)
  refine Run.orB 3 2 (ht := fun hg25 => by
      refine Run.mv (h := ?_)
      refine Run.mv (h := ?_)
      refine Run.eq (h := ?_)
      exact Run.fin_sc ScEnd.here) (hrest := ?_)
  refine Run.mv (h := ?_)
  refine Run.orB 3 7 (ht := fun hg30 => by
      refine Run.mv (h := ?_)
      refine Run.len Tb.L23 (h := ?_)
      refine Run.eq (h := ?_)
      exact Run.fin_sc ScEnd.here) (hrest := ?_)
  refine Run.mv (h := ?_)
  refine Run.orB 3 12 (ht := fun hg35 => by
      refine Run.mv (h := ?_)
      refine Run.len Tb.L23 (h := ?_)
      refine Run.gt (h := ?_)
      exact Run.fin_sc ScEnd.here) (hrest := ?_)
  refine Run.fin ?_
  refine At.cnd' (ht := fun hc35 => ?_) (hf := fun hc35 => ?_)
  · skip
    refine At.seq ?_
    refine At.reg rfl ?_
    refine Run.bd Tb.B28 (h := ?_)
    refine Run.st Tb.S28 (h := ?_)
    refine Run.as (h := ?_)
    refine Run.fin ?_
    refine At.ret ?_
    refine At.then_ret ?_
    exact At.done (hΦ := by exact .inl ⟨by unfold badArg; omega, rfl, rfl⟩) (hres := ResR.block (ht := Tb.A28) (hn := Tb.S28) (k := ResR.tmp rfl ResR.nil))
  · skip
    refine At.skip ?_
    refine At.seq ?_
    refine At.reg rfl ?_
    refine Run.mv (h := ?_)
    refine Run.len Tb.L23 (h := ?_)
    refine Run.cvf Tb.I3 Tb.I22 (hw := by exact wu64 (by omega) (by omega)) (h := ?_)
    refine Run.as (h := ?_)
    refine Run.fin ?_
    refine At.seq ?_
    refine At.reg rfl ?_
    refine Run.as (h := ?_)
    refine Run.fin ?_
    refine At.seq ?_
    refine At.seq ?_
    refine At.reg rfl ?_
    refine Run.as (h := ?_)
    refine Run.fin ?_
    refine At.block ?_
    refine At.loop (α := Nat) (fun k => ⟨[(0, .int .u64 id), (1, .int .u64 par), (2, .slice ao n cp), (3, .slice lo m cl), (8, .pointer (some ⟨g8, 0, none⟩)), (10, .int .u64 n), (11, .int .u64 (endE l k)), (12, .int .i64 k)], cel g8 28 [.int .u64 0, .int .u64 0, .int .u64 0, .slice none 0 0] :: L, []⟩) (fun k => k ≤ m ∧ (DevGo b 0 l ↔ DevGo b (endE l k) (l.drop k)) ∧ 0 ≤ endE l k ∧ endE l k ≤ b.length) (fun k => m - k) (0) (⟨Nat.zero_le _, Iff.rfl, Int.le_refl _, by show (0 : Int) ≤ _; omega⟩) (Ent.of (by repeat (first | exact SubE.nil | refine SubE.cons (by first | rfl | (show some _ = some _; simp; done)) ?_)) (by repeat (first | exact SubL.refl | refine SubL.cons (by repeat (first | exact Pick.here | apply Pick.there)) ?_ | refine SubL.skip ?_ | exact SubL.nil))) (fun k hx => ?_)
    obtain ⟨hk, hiff, he0, he1⟩ := hx
    refine At.seq ?_
    refine At.seq ?_
    refine At.reg rfl ?_
    refine Run.mv (h := ?_)
    refine Run.mv (h := ?_)
    refine Run.len Tb.L24 (h := ?_)
    refine Run.lt (h := ?_)
    refine Run.fin ?_
    refine At.cnd' (ht := fun hc43 => ?_) (hf := fun hc43 => ?_)
    · skip
      obtain ⟨x, hxk⟩ : ∃ x, l[k]? = some x := ⟨l[k]'(by omega), List.getElem?_eq_getElem _⟩
      obtain ⟨q1, q2, q3, q4⟩ := hok x (List.mem_of_getElem? hxk)
      have hend : endE l (k + 1) = endE l k + x.len := by simp [endE, hxk]
      rw [DevGo_drop hxk] at hiff
      refine At.skip ?_
      refine At.seq ?_
      refine At.block ?_
      refine At.seq ?_
      refine At.reg rfl ?_
      refine Run.mv (h := ?_)
      refine Run.mv (h := ?_)
      refine Run.iaR (ht := Tb.L24) (hR := hl.sub) (hj := rfl) (h1 := by simp; omega) (hn := by omega) (h := ?_)
      refine Run.ldrA (ht := Tb.A37) (hn := Tb.S37) (hR := hl.sub) (hj := cellsE_at hxk) (h := ?_)
      refine Run.al Tb.Z37 (h := fun g13 => ?_)
      refine Run.st Tb.S37 (h := ?_)
      refine Run.fin ?_
      refine At.seq ?_
      refine At.seq ?_
      refine At.reg rfl ?_
      refine Run.fa Tb.F37_0 (h := ?_)
      refine Run.ld Tb.A22 (h := ?_)
      refine Run.mv (h := ?_)
      refine Run.ne (h := ?_)
      refine Run.mv (h := ?_)
      refine Run.orB 3 4 (ht := fun hg58 => by
          refine Run.fa Tb.F37_1 (h := ?_)
          refine Run.ld Tb.A22 (h := ?_)
          refine Run.lt (h := ?_)
          exact Run.fin_sc ScEnd.here) (hrest := ?_)
      refine Run.mv (h := ?_)
      refine Run.orB 6 9 (ht := fun hg66 => by
          refine Run.fa Tb.F37_1 (h := ?_)
          refine Run.ld Tb.A22 (h := ?_)
          refine Run.mv (h := ?_)
          refine Run.mv (h := ?_)
          refine Run.sub (h := ?_)
          refine Run.eqi (b := (n : Int) - endE l k) (wu64 (by omega) (by omega)) ?_
          refine Run.gt (h := ?_)
          exact Run.fin_sc ScEnd.here) (hrest := ?_)
      refine Run.fin ?_
      refine At.cnd' (ht := fun hc66 => ?_) (hf := fun hc66 => ?_)
      · skip
        refine At.seq ?_
        refine At.reg rfl ?_
        refine Run.bd Tb.B28 (h := ?_)
        refine Run.st Tb.S28 (h := ?_)
        refine Run.as (h := ?_)
        refine Run.fin ?_
        refine At.ret ?_
        refine At.then_ret ?_
        refine At.inb_ret ?_
        refine At.then_ret ?_
        refine At.then_ret ?_
        refine At.inb_ret ?_
        refine At.then_ret ?_
        exact At.done (hΦ := by exact .inr (.inl ⟨by unfold badArg; omega, fun h => by obtain ⟨⟨o1, o2, o3, o4⟩, _⟩ := hiff.1 h; omega, rfl, rfl⟩)) (hres := ResR.block (ht := Tb.A28) (hn := Tb.S28) (k := ResR.tmp rfl ResR.nil))
      · skip
        refine At.skip ?_
        refine At.seq ?_
        refine At.seq ?_
        refine At.reg rfl ?_
        refine Run.fa Tb.F37_0 (h := ?_)
        refine Run.ld Tb.A22 (h := ?_)
        refine Run.as (h := ?_)
        refine Run.fin ?_
        refine At.block ?_
        refine At.loop (α := Nat) (fun j => ⟨[(0, .int .u64 id), (1, .int .u64 par), (2, .slice ao n cp), (3, .slice lo m cl), (8, .pointer (some ⟨g8, 0, none⟩)), (10, .int .u64 n), (11, .int .u64 (endE l k)), (12, .int .i64 k), (13, .pointer (some ⟨g13, 0, none⟩)), (14, .int .u64 (x.off + j))], cel g13 37 [.int .u64 x.off, .int .u64 x.len, .bool x.hole, .bool x.unsaved, .bool x.dirty] :: cel g8 28 [.int .u64 0, .int .u64 0, .int .u64 0, .slice none 0 0] :: L, []⟩) (fun j => j ≤ x.len.toNat ∧ (x.hole = true → ∀ i, i < j → b.getD (x.off.toNat + i) 0 = 0)) (fun j => x.len.toNat - j) (0) (⟨Nat.zero_le _, fun _ i h => absurd h (Nat.not_lt_zero _)⟩) (Ent.of (by repeat (first | exact SubE.nil | refine SubE.cons (by first | rfl | (show some _ = some _; simp; done)) ?_)) (by repeat (first | exact SubL.refl | refine SubL.cons (by repeat (first | exact Pick.here | apply Pick.there)) ?_ | refine SubL.skip ?_ | exact SubL.nil))) (fun j hxj => ?_)
        obtain ⟨hj, hz⟩ := hxj
        refine At.seq ?_
        refine At.seq ?_
        refine At.reg rfl ?_
        refine Run.mv (h := ?_)
        refine Run.fa Tb.F37_0 (h := ?_)
        refine Run.ld Tb.A22 (h := ?_)
        refine Run.fa Tb.F37_1 (h := ?_)
        refine Run.ld Tb.A22 (h := ?_)
        refine Run.add (h := ?_)
        refine Run.eqi (b := x.off + x.len) (wu64 (by omega) (by omega)) ?_
        refine Run.lt (h := ?_)
        refine Run.fin ?_
        refine At.cnd' (ht := fun hc76 => ?_) (hf := fun hc76 => ?_)
        · skip
          refine At.skip ?_
          refine At.seq ?_
          refine At.block ?_
          refine At.seq ?_
          refine At.reg rfl ?_
          refine Run.fa Tb.F37_2 (h := ?_)
          refine Run.ld Tb.A4 (h := ?_)
          refine Run.mv (h := ?_)
          refine Run.andB 5 2 (bq := decide (b.getD (x.off.toNat + j) 0 ≠ 0)) (ht := fun hg87 => by
              refine Run.mv (h := ?_)
              refine Run.mv (h := ?_)
              refine Run.iaR (ht := Tb.L23) (hR := hb.sub) (j := x.off.toNat + j) (hj := by omega) (h1 := by simp; omega) (hn := by omega) (h := ?_)
              refine Run.ldr0 (ht := Tb.A5) (hR := hb.sub) (hj := Sx.ints_at (by omega)) (h := ?_)
              refine Run.ne (h := ?_)
              exact Run.fin_sc ScEnd.here) (hrest := ?_)
          refine Run.fin ?_
          refine At.cnd' (ht := fun hc87 => ?_) (hf := fun hc87 => ?_)
          · skip
            refine At.seq ?_
            refine At.reg rfl ?_
            refine Run.bd Tb.B28 (h := ?_)
            refine Run.st Tb.S28 (h := ?_)
            refine Run.as (h := ?_)
            refine Run.fin ?_
            refine At.ret ?_
            refine At.inb_ret ?_
            refine At.then_ret ?_
            refine At.then_ret ?_
            refine At.inb_ret ?_
            refine At.then_ret ?_
            refine At.inb_ret ?_
            refine At.then_ret ?_
            refine At.then_ret ?_
            refine At.inb_ret ?_
            refine At.then_ret ?_
            have hnd : ¬ DevGo b 0 l := fun h => by
              obtain ⟨⟨o1, o2, o3, o4⟩, _⟩ := hiff.1 h
              have h9 := (lmax_zero (part_byt hy) (fun e => by have := congrArg List.length e; rw [part_length (by omega)] at this; simp at this; omega)).1 (o4 hc87.1) j (by rw [part_length (by omega)]; omega)
              rw [part_getD (by omega) (by omega), show (endE l k).toNat = x.off.toNat by omega] at h9
              exact hc87.2 h9
            exact At.done (hΦ := by exact .inr (.inl ⟨by unfold badArg; omega, hnd, rfl, rfl⟩)) (hres := ResR.block (ht := Tb.A28) (hn := Tb.S28) (k := ResR.tmp rfl ResR.nil))
          · skip
            refine At.skip ?_
            refine At.inb_norm ?_
            refine At.reg rfl ?_
            refine Run.mv (h := ?_)
            refine Run.add (h := ?_)
            refine Run.eqi (b := x.off + ((j + 1 : Nat) : Int)) (by rw [wu64 (by omega) (by omega)]; omega) ?_
            refine Run.as (h := ?_)
            refine Run.fin ?_
            exact At.again (j + 1) (⟨by omega, fun hh i hi => by rcases Nat.lt_succ_iff_lt_or_eq.1 hi with h | h; exact hz hh i h; subst h; exact Decidable.byContradiction fun h2 => hc87 ⟨hh, h2⟩⟩) (by omega)
        · skip
          refine At.exit ?_
          refine At.then_exit ?_
          refine At.then_exit ?_
          refine At.inb_hit ?_
          refine At.reg rfl ?_
          refine Run.mv (h := ?_)
          refine Run.fa Tb.F37_1 (h := ?_)
          refine Run.ld Tb.A22 (h := ?_)
          refine Run.add (h := ?_)
          refine Run.eqi (b := endE l (k + 1)) (by rw [hend]; exact wu64 (by omega) (by omega)) ?_
          refine Run.as (h := ?_)
          refine Run.fin ?_
          refine At.inb_norm ?_
          have hall : okEx b (endE l k) x := ⟨by omega, by omega, by omega, fun h => (lmax_zero (part_byt hy) (fun e => by have := congrArg List.length e; rw [part_length (by omega)] at this; simp at this; omega)).2 fun i hi => by
            rw [part_length (by omega)] at hi
            rw [part_getD (by omega) hi, show (endE l k).toNat = x.off.toNat by omega]
            exact hz h i (by omega)⟩
          refine At.reg rfl ?_
          refine Run.mv (h := ?_)
          refine Run.add (h := ?_)
          refine Run.eqi (b := ((k + 1 : Nat) : Int)) (by rw [wi64 (by omega) (by omega)]; omega) ?_
          refine Run.as (h := ?_)
          refine Run.fin ?_
          exact At.again (k + 1) (⟨by omega, by rw [hend]; exact ⟨fun h => (hiff.1 h).2, fun h => hiff.2 ⟨hall, h⟩⟩, by rw [hend]; omega, by rw [hend]; omega⟩) (by omega)
    · skip
      refine At.exit ?_
      refine At.then_exit ?_
      refine At.then_exit ?_
      refine At.inb_hit ?_
      refine At.seq ?_
      refine At.seq ?_
      refine At.reg rfl ?_
      refine Run.mv (h := ?_)
      refine Run.mv (h := ?_)
      refine Run.ne (h := ?_)
      refine Run.fin ?_
      refine At.cnd' (ht := fun hc95 => ?_) (hf := fun hc95 => ?_)
      · skip
        refine At.seq ?_
        refine At.reg rfl ?_
        refine Run.bd Tb.B28 (h := ?_)
        refine Run.st Tb.S28 (h := ?_)
        refine Run.as (h := ?_)
        refine Run.fin ?_
        refine At.ret ?_
        refine At.then_ret ?_
        have hkm : k = m := by omega
        rw [hkm, List.drop_of_length_le (by omega)] at hiff
        exact At.done (hΦ := by exact .inr (.inl ⟨by unfold badArg; omega, fun h => by have h9 : endE l m = b.length := hiff.1 h; rw [hkm] at hc95; omega, rfl, rfl⟩)) (hres := ResR.block (ht := Tb.A28) (hn := Tb.S28) (k := ResR.tmp rfl ResR.nil))
      · skip
        refine At.skip ?_
        refine At.seq ?_
        have hkm : k = m := by omega
        rw [hkm, List.drop_of_length_le (by omega)] at hiff
        have hdev : DevGo b 0 l := hiff.2 (by show _ = _; rw [← hkm]; omega)
        clear hiff
        refine At.reg rfl ?_
        refine Run.mv (h := ?_)
        refine Run.mk (ht := Tb.G78) (hz1 := by simp [Value.oneCell']) (n := n) (ha := rfl) (hb := rfl) (hlen := by simp only [maxLen]; omega) (hby := by omega) (h := fun g98 => ?_)
        refine Run.as (h := ?_)
        refine Run.fin ?_
        refine At.seq ?_
        refine At.seq ?_
        refine At.reg rfl ?_
        refine Run.as (h := ?_)
        refine Run.fin ?_
        refine At.block ?_
        refine At.loop (α := Nat) (fun k => ⟨[(0, .int .u64 id), (1, .int .u64 par), (2, .slice ao n cp), (3, .slice lo m cl), (8, .pointer (some ⟨g8, 0, none⟩)), (10, .int .u64 n), (15, .slice (some ⟨g98, 0, none⟩) n n), (16, .int .i64 k)], row 80 3 (some ⟨g98, 0, none⟩) n ((zC clZ (mkCells par b (l.take k)) ([]) n (0)).map cellsC) :: cel g8 28 [.int .u64 0, .int .u64 0, .int .u64 0, .slice none 0 0] :: L, []⟩) (fun k => k ≤ m) (fun k => m - k) (0) (Nat.zero_le _) (Ent.of (by repeat (first | exact SubE.nil | refine SubE.cons (by first | rfl | (show some _ = some _; simp; done)) ?_)) (by rw [show (zC clZ (mkCells par b (l.take 0)) [] n 0).map cellsC = List.replicate n [.bool false, .bool false, .int .u8 0] by simp [zC, mkCells, cellsC, clZ]]; exact SubL.refl)) (fun k hx => ?_)
        refine At.seq ?_
        refine At.seq ?_
        refine At.reg rfl ?_
        refine Run.mv (h := ?_)
        refine Run.mv (h := ?_)
        refine Run.len Tb.L24 (h := ?_)
        refine Run.lt (h := ?_)
        refine Run.fin ?_
        refine At.cnd' (ht := fun hc102 => ?_) (hf := fun hc102 => ?_)
        · skip
          obtain ⟨x, hxk⟩ : ∃ x, l[k]? = some x := ⟨l[k]'(by omega), List.getElem?_eq_getElem _⟩
          obtain ⟨q1, q2, q3, q4⟩ := hok x (List.mem_of_getElem? hxk)
          have hend : endE l (k + 1) = endE l k + x.len := by simp [endE, hxk]
          obtain ⟨hg, hg1, hg2⟩ := DevGo_at hdev hok k (by omega)
          obtain ⟨_, _, hg3⟩ := DevGo_at hdev hok (k + 1) (by omega)
          rw [DevGo_drop hxk] at hg
          obtain ⟨⟨o1, o2, o3, o4⟩, _⟩ := hg
          have hAl := mkCells_len (par := par) hdev hok k (by omega)
          have hEl : (exCells par b x).length = x.len.toNat := exCells_len (by omega)
          have hAE : (mkCells par b (l.take k)).length + (exCells par b x).length ≤ n := by omega
          refine At.skip ?_
          refine At.seq ?_
          refine At.block ?_
          refine At.seq ?_
          refine At.reg rfl ?_
          refine Run.mv (h := ?_)
          refine Run.mv (h := ?_)
          refine Run.iaR (ht := Tb.L24) (hR := hl.sub) (hj := rfl) (h1 := by simp; omega) (hn := by omega) (h := ?_)
          refine Run.ldrA (ht := Tb.A37) (hn := Tb.S37) (hR := hl.sub) (hj := cellsE_at hxk) (h := ?_)
          refine Run.al Tb.Z37 (h := fun g17 => ?_)
          refine Run.st Tb.S37 (h := ?_)
          refine Run.fin ?_
          refine At.seq ?_
          refine At.reg rfl ?_
          refine Run.fa Tb.F37_0 (h := ?_)
          refine Run.ld Tb.A22 (h := ?_)
          refine Run.as (h := ?_)
          refine Run.fin ?_
          refine At.block ?_
          refine At.loop (α := Nat) (fun j => ⟨[(0, .int .u64 id), (1, .int .u64 par), (2, .slice ao n cp), (3, .slice lo m cl), (8, .pointer (some ⟨g8, 0, none⟩)), (10, .int .u64 n), (15, .slice (some ⟨g98, 0, none⟩) n n), (16, .int .i64 k), (17, .pointer (some ⟨g17, 0, none⟩)), (18, .int .u64 (x.off + j))], row 80 3 (some ⟨g98, 0, none⟩) n ((zC clZ (mkCells par b (l.take k)) (exCells par b x) n (j)).map cellsC) :: cel g17 37 [.int .u64 x.off, .int .u64 x.len, .bool x.hole, .bool x.unsaved, .bool x.dirty] :: cel g8 28 [.int .u64 0, .int .u64 0, .int .u64 0, .slice none 0 0] :: L, []⟩) (fun j => j ≤ x.len.toNat) (fun j => x.len.toNat - j) (0) (Nat.zero_le _) (Ent.of (by repeat (first | exact SubE.nil | refine SubE.cons (by first | rfl | (show some _ = some _; simp; done)) ?_)) (by rw [← zC_new]; repeat (first | exact SubL.refl | refine SubL.cons (by repeat (first | exact Pick.here | apply Pick.there)) ?_ | refine SubL.skip ?_ | exact SubL.nil))) (fun j hxj => ?_)
          refine At.seq ?_
          refine At.seq ?_
          refine At.reg rfl ?_
          refine Run.mv (h := ?_)
          refine Run.fa Tb.F37_0 (h := ?_)
          refine Run.ld Tb.A22 (h := ?_)
          refine Run.fa Tb.F37_1 (h := ?_)
          refine Run.ld Tb.A22 (h := ?_)
          refine Run.add (h := ?_)
          refine Run.eqi (b := x.off + x.len) (wu64 (by omega) (by omega)) ?_
          refine Run.lt (h := ?_)
          refine Run.fin ?_
          refine At.cnd' (ht := fun hc117 => ?_) (hf := fun hc117 => ?_)
          · skip
            have hcx := exCells_at (par := par) (b := b) (x := x) (j := j) (by omega) (by omega)
            refine At.skip ?_
            refine At.seq ?_
            refine At.block ?_
            refine At.seq ?_
            refine At.reg rfl ?_
            refine Run.mv (h := ?_)
            refine Run.eq (h := ?_)
            refine Run.mv (h := ?_)
            refine Run.orB 2 2 (bq := x.dirty) (ht := fun hg125 => by
                refine Run.fa Tb.F37_4 (h := ?_)
                refine Run.ld Tb.A4 (h := ?_)
                exact Run.fin_sc ScEnd.here) (hrest := ?_)
            refine Run.fin ?_
            refine At.cnd' (ht := fun hc125 => ?_) (hf := fun hc125 => ?_)
            · skip
              refine At.rowR (h := fun hRc _ _ _ => ?_)
              refine At.draw [(0, 0), (1, 0), (2, 0), (4, 0), (5, 0), (6, 0), (3, 1), (7, 1), (8, 0), (9, 0), (10, 3)] Tb.mixed (by kernel_rfl) ?_
              refine Run.mv (h := ?_)
              refine Run.mv (h := ?_)
              refine Run.fa Tb.F37_2 (h := ?_)
              refine Run.mv (h := ?_)
              refine Run.mv (h := ?_)
              refine Run.iaR (ht := Tb.L23) (hR := hb.sub) (j := x.off.toNat + j) (hj := by omega) (h1 := by simp; omega) (hn := by omega) (h := ?_)
              refine Run.ld Tb.A4 (h := ?_)
              refine Run.ldr0 (ht := Tb.A5) (hR := hb.sub) (hj := Sx.ints_at (by omega)) (h := ?_)
              refine Run.bd Tb.B80 (h := ?_)
              refine Run.iaR (ht := Tb.L78) (hR := hRc (by repeat (first | exact Pick.here | apply Pick.there))) (j := x.off.toNat + j) (hj := by omega) (h1 := by rw [List.length_map, zC_len hAE (by omega)]; omega) (hn := by omega) (h := ?_)
              refine Run.str0 (hsz := Tb.S80) (hj := by rw [List.getElem?_map, List.getElem?_eq_getElem (by rw [zC_len hAE (by omega)]; omega)]; rfl) (hk := noun (by kernel_rfl)) (h := ?_)
              refine Run.chunks (L' := row 80 3 (some ⟨g98, 0, none⟩) n ((zC clZ (mkCells par b (l.take k)) (exCells par b x) n (j + 1)).map cellsC) :: cel g17 37 [.int .u64 x.off, .int .u64 x.len, .bool x.hole, .bool x.unsaved, .bool x.dirty] :: cel g8 28 [.int .u64 0, .int .u64 0, .int .u64 0, .slice none 0 0] :: L) (fun _ hf => by
                  rw [← zC_set hAE hcx, List.map_set, exCell, if_pos (by simpa using hc125), show (mkCells par b (l.take k)).length = x.off.toNat by omega]
                  exact hf) ?_
              refine Run.fin ?_
              refine At.inb_norm ?_
              refine At.reg rfl ?_
              refine Run.mv (h := ?_)
              refine Run.add (h := ?_)
              refine Run.eqi (b := x.off + ((j + 1 : Nat) : Int)) (by rw [wu64 (by omega) (by omega)]; omega) ?_
              refine Run.as (h := ?_)
              refine Run.fin ?_
              exact At.again (j + 1) (by omega) (by omega)
            · skip
              rw [zC_skip hAE (by rw [hcx, exCell, if_neg (by simpa using hc125)])]
              refine At.skip ?_
              refine At.inb_norm ?_
              refine At.reg rfl ?_
              refine Run.mv (h := ?_)
              refine Run.add (h := ?_)
              refine Run.eqi (b := x.off + ((j + 1 : Nat) : Int)) (by rw [wu64 (by omega) (by omega)]; omega) ?_
              refine Run.as (h := ?_)
              refine Run.fin ?_
              exact At.again (j + 1) (by omega) (by omega)
          · skip
            refine At.exit ?_
            refine At.then_exit ?_
            refine At.then_exit ?_
            refine At.inb_hit ?_
            refine At.inb_norm ?_
            have hjl : j = x.len.toNat := by omega
            rw [hjl, ← hEl, zC_end, ← mkCells_succ hxk]
            refine At.reg rfl ?_
            refine Run.mv (h := ?_)
            refine Run.add (h := ?_)
            refine Run.eqi (b := ((k + 1 : Nat) : Int)) (by rw [wi64 (by omega) (by omega)]; omega) ?_
            refine Run.as (h := ?_)
            refine Run.fin ?_
            exact At.again (k + 1) (by omega) (by omega)
        · skip
          refine At.exit ?_
          refine At.then_exit ?_
          refine At.then_exit ?_
          refine At.inb_hit ?_
          refine At.seq ?_
          have hkm2 : k = m := by omega
          have hcl := mkCells_len (par := par) hdev hok l.length (Nat.le_refl _)
          rw [List.take_of_length_le (Nat.le_refl _)] at hcl
          have hfin := (DevGo_at hdev hok l.length (Nat.le_refl _)).1
          rw [List.drop_of_length_le (Nat.le_refl _)] at hfin
          have hfin2 : endE l l.length = b.length := hfin
          rw [show zC clZ (mkCells par b (l.take k)) [] n 0 = mkCells par b l by rw [List.take_of_length_le (by omega)]; simp [zC]; omega]
          have hEls : Els 3 ((mkCells par b l).map cellsC) := fun y hy => by
            obtain ⟨c, _, rfl⟩ := List.mem_map.1 hy
            simp [cellsC, Value.oneCell']
          refine At.reg rfl ?_
          refine Run.mv (h := ?_)
          refine Run.mv (h := ?_)
          refine Run.mv (h := ?_)
          refine Run.mv (h := ?_)
          refine Run.call Tb.N36 (hc := runs_ (cs := mkCells par b l) (RdS.one (he := hEls)) (by omega) (by omega) (cell_ok hy)) (h := ?_)
          rintro _ _ ⟨a9, c9, rs9, hp9, hB9, hl9, rfl, rfl⟩
          refine Run.bd Tb.B28 (h := ?_)
          refine Run.st Tb.S28 (h := ?_)
          refine Run.as (h := ?_)
          refine Run.fin ?_
          refine At.ret ?_
          exact At.done (hΦ := by exact .inr (.inr ⟨by unfold badArg; omega, hdev, a9, c9, rs9, by rw [hp9]; have := rruns_mk (par := par) hdev hok l.length (Nat.le_refl _); rw [List.take_of_length_le (Nat.le_refl _)] at this; exact this, by rw [← hn]; exact hB9, hl9, rfl, rfl⟩)) (hres := ResR.block (ht := Tb.A28) (hn := Tb.S28) (k := ResR.tmp rfl ResR.nil))
end Go.Proofs.Ytllpfpdanonhkaa
