/- Walks: a map of extents (extent.Map), its parts. No condition. -/
import Derived.Test.YtllpfpdanonhkaaSxRange
import Derived.Test.YtllpfpdanonhkaaSxEqS
import Derived.Test.YtllpfpdanonhkaaTab
set_option maxRecDepth 8000
set_option maxHeartbeats 4000000
set_option linter.unusedVariables false
set_option linter.unusedSimpArgs false
namespace Go.Proofs.Ytllpfpdanonhkaa
open Go.Sx Go.RowKit

theorem eqs112 : eqsB Tb.P 112 = some [(3, 0), (3, 1)] := by kernel_rfl
structure Xt where
  lo : Int
  hi : Int
  a : Int
  r : Int
deriving DecidableEq
def cellsX (e : Xt) : List Value := [.int .i64 e.lo, .int .i64 e.hi, .int .i64 e.a, .int .i64 e.r]
def argE (e : Xt) : List Value := [.agg (cellsX e).toArray]
theorem at_E {es : List Xt} {k : Nat} {e : Xt} (h : es[k]? = some e) : (es.map cellsX)[k]? = some [.int .i64 e.lo, .int .i64 e.hi, .int .i64 e.a, .int .i64 e.r] := by rw [List.getElem?_map, h]; rfl
def gE (es : List Xt) (i : Nat) : Xt := es.getD i ⟨0, 0, 0, 0⟩
theorem gE_at {es : List Xt} {i : Nat} (h : i < es.length) : es[i]? = some (gE es i) := by simp [gE, List.getD, h]
def joinsE (x r : Xt) : Prop := (x.a = r.a ∧ x.r = r.r) ∧ x.hi = r.lo
instance {x r : Xt} : Decidable (joinsE x r) := by unfold joinsE; infer_instance
/-- An extent behind others. -/
def layE (l : List Xt) (r : Xt) : List Xt :=
  if r.hi ≤ r.lo then l else match l.getLast? with
    | none => [r]
    | some x => if joinsE x r then l.dropLast ++ [⟨x.lo, r.hi, x.a, x.r⟩] else l ++ [r]
theorem layE_nil {r : Xt} (h : r.lo < r.hi) : layE [] r = [r] := by simp [layE, Int.not_le.2 h]
theorem layE_snoc {l : List Xt} {x r : Xt} (h : r.lo < r.hi) : layE (l ++ [x]) r = if joinsE x r then l ++ [⟨x.lo, r.hi, x.a, x.r⟩] else l ++ [x, r] := by simp [layE, Int.not_le.2 h]
theorem at_lastE {l : List Xt} {x : Xt} : ((l ++ [x]).map cellsX)[l.length]? = some [.int .i64 x.lo, .int .i64 x.hi, .int .i64 x.a, .int .i64 x.r] := at_E (by simp)
theorem set_lastE {l : List Xt} {x y : Xt} : ((l ++ [x]).map cellsX).set l.length (cellsX y) = (l ++ [y]).map cellsX := by
  rw [List.map_append, List.set_append_right _ _ (by simp)]; simp

theorem argL {l : List Xt} : l.length = (l.map argE).length := by simp
def clip (lo hi : Int) (e : Xt) : Xt := ⟨max e.lo lo, min e.hi hi, e.a, e.r⟩
/-- What of an extent lies in [lo, hi). -/
def cut1 (lo hi : Int) (e : Xt) : Option Xt := if max e.lo lo < min e.hi hi then some (clip lo hi e) else none
def cutE (lo hi : Int) (es : List Xt) : List Xt := es.filterMap (cut1 lo hi)
theorem cut_succ {lo hi : Int} {es : List Xt} {i : Nat} (h : i < es.length) : cutE lo hi (es.take (i + 1)) = cutE lo hi (es.take i) ++ (cut1 lo hi (gE es i)).toList := by
  unfold cutE
  rw [List.take_add_one, gE_at h, Option.toList_some, List.filterMap_append]
  congr 1
theorem cut_yes {lo hi : Int} {e : Xt} (h : max e.lo lo < min e.hi hi) : cut1 lo hi e = some (clip lo hi e) := if_pos h
theorem cut_no {lo hi : Int} {e : Xt} (h : ¬ max e.lo lo < min e.hi hi) : cut1 lo hi e = none := if_neg h
theorem cut_len1 {lo hi : Int} {es : List Xt} {i : Nat} (h : i < es.length) (h1 : max (gE es i).lo lo < min (gE es i).hi hi) : (cutE lo hi (es.take (i + 1))).length = (cutE lo hi (es.take i)).length + 1 := by
  rw [cut_succ h, cut_yes h1]; simp
theorem cut_len0 {lo hi : Int} {es : List Xt} {i : Nat} (h : i < es.length) (h1 : ¬ max (gE es i).lo lo < min (gE es i).hi hi) : (cutE lo hi (es.take (i + 1))).length = (cutE lo hi (es.take i)).length := by
  rw [cut_succ h, cut_no h1]; simp
theorem cut_at {lo hi : Int} {es : List Xt} {i : Nat} (h : i < es.length) (h1 : max (gE es i).lo lo < min (gE es i).hi hi) : ((cutE lo hi es).map argE)[(cutE lo hi (es.take i)).length]? = some (argE (clip lo hi (gE es i))) := by
  have e1 : cutE lo hi es = cutE lo hi (es.take (i + 1)) ++ cutE lo hi (es.drop (i + 1)) := by
    unfold cutE; rw [← List.filterMap_append, List.take_append_drop]
  rw [List.getElem?_map, e1, cut_succ h, cut_yes h1]
  simp
theorem cut_none {lo hi : Int} {l : List Xt} (h : ∀ e ∈ l, ¬ max e.lo lo < min e.hi hi) : cutE lo hi l = [] := List.filterMap_eq_nil_iff.2 fun e he => cut_no (h e he)
theorem cut_start {lo hi : Int} {es : List Xt} {s : Nat} (h : ∀ j, j < s → (gE es j).hi ≤ lo) : cutE lo hi (es.take s) = [] := cut_none fun e he => by
  obtain ⟨j, hj⟩ := List.getElem?_of_mem he
  rw [List.getElem?_take] at hj
  split at hj
  · rename_i hjs
    have h1 := (List.getElem?_eq_some_iff.1 hj).1
    have h2 := gE_at h1
    rw [hj] at h2; cases h2
    have := h j hjs
    omega
  · cases hj
theorem cut_stop {lo hi : Int} {es : List Xt} {i : Nat} (h : ∀ j, i ≤ j → j < es.length → hi ≤ (gE es j).lo) : (cutE lo hi es).length = (cutE lo hi (es.take i)).length := by
  have e1 : cutE lo hi es = cutE lo hi (es.take i) ++ cutE lo hi (es.drop i) := by
    unfold cutE; rw [← List.filterMap_append, List.take_append_drop]
  rw [e1, cut_none (l := es.drop i) fun e he => ?_, List.append_nil]
  obtain ⟨j, hj⟩ := List.getElem?_of_mem he
  rw [List.getElem?_drop] at hj
  have h1 := (List.getElem?_eq_some_iff.1 hj).1
  have h2 := gE_at h1
  rw [hj] at h2; cases h2
  have := h (i + j) (by omega) h1
  omega
/-- In order. -/
def SrtE (es : List Xt) : Prop := ∀ i j, i ≤ j → j < es.length → (gE es i).lo ≤ (gE es j).lo ∧ (gE es i).hi ≤ (gE es j).hi

theorem hits {w0 : World} {L : List HP} {g1 g2 k n cp : Nat} {ao : Option Addr} {es : List Xt} {x : Int} (hR : RdS w0 L 4 ao (es.map cellsX)) (h1 : Cel w0 L ⟨g1, 0, none⟩ (.slice ao n cp)) (h2 : Cel w0 L ⟨g2, 0, none⟩ (.int .i64 x)) (hk : k < es.length) (hn : k < n) :
    CallOk Tb.P w0 L 75 [.int .i64 k, .pointer (some ⟨g1, 0, none⟩), .pointer (some ⟨g2, 0, none⟩)] fun u L' => u = .bool (decide (x < (gE es k).hi)) ∧ L' = L := by
  refine enter Try.func75 rfl Try.ntmps75 (Nat.le_of_ble_eq_true rfl) ?_
  refine At.seq ?_
  refine At.reg rfl ?_
  refine Run.as (h := ?_)
  refine Run.fin ?_
  refine At.seq ?_
  refine At.draw [(1, 0), (0, 1), (2, 0), (3, 0), (4, 1), (5, 1), (6, 0), (7, 0)] Tb.mixed (by kernel_rfl) ?_
  refine Run.mv (h := ?_)
  refine Run.ldx Tb.A136 h1 (h := ?_)
  refine Run.iaR (ht := Tb.L136) (hR := hR) (j := k) (hj := rfl) (h1 := by simpa using hk) (hn := hn) (h := ?_)
  refine Run.fa Tb.F118_1 (h := ?_)
  refine Run.ldr (ht := Tb.A2) (hR := hR) (hj := at_E (gE_at hk)) (h := ?_)
  refine Run.ldx Tb.A2 h2 (h := ?_)
  refine Run.gt (h := ?_)
  refine Run.as (h := ?_)
  refine Run.fin ?_
  refine At.ret ?_
  exact At.done (hΦ := by exact ⟨rfl, rfl⟩)
theorem search {w0 : World} {L : List HP} {n : Nat} {pf : FuncId} {cb : List Value} {p : Nat → Prop} [DecidablePred p] (hF : fnB Tb.P pf = true) (hn : n ≤ 1099511627776) (hp : ∀ k : Nat, k < n → CallOk Tb.P w0 L pf (.int .i64 k :: cb) fun u L' => u = .bool (decide (p k)) ∧ L' = L) :
    CallOk Tb.P w0 L 74 [.int .i64 n, .func (.func pf) ([] : List Value).toArray cb.toArray] fun u L' => ∃ i : Nat, i ≤ n ∧ (∀ k, k + 1 = i → ¬ p k) ∧ (i < n → p i) ∧ u = .int .i64 i ∧ L' = L := by
  refine enter Try.func74 rfl Try.ntmps74 (Nat.le_of_ble_eq_true rfl) ?_
  refine At.seq ?_
  refine At.reg rfl ?_
  refine Run.as (h := ?_)
  refine Run.fin ?_
  refine At.seq ?_
  refine At.reg rfl ?_
  refine Run.mv (h := ?_)
  refine Run.as (h := ?_)
  refine Run.as (h := ?_)
  refine Run.fin ?_
  refine At.seq ?_
  refine At.block ?_
  refine At.loop (α := Nat × Nat) (fun x => ⟨[(1, .func (.func pf) ([] : List Value).toArray cb.toArray), (5, .int .i64 x.1), (6, .int .i64 x.2)], L, []⟩) (fun x => x.1 ≤ x.2 ∧ x.2 ≤ n ∧ (∀ k, k + 1 = x.1 → ¬ p k) ∧ (x.2 < n → p x.2)) (fun x => x.2 - x.1) ((0, n)) (⟨Nat.zero_le _, Nat.le_refl _, (fun k h => by cases h), (fun h => absurd h (Nat.lt_irrefl _))⟩) (Ent.of (by repeat (first | exact SubE.nil | refine SubE.cons (by first | rfl | (show some _ = some _; simp; done)) ?_)) (by repeat (first | exact SubL.refl | refine SubL.cons (by repeat (first | exact Pick.here | apply Pick.there)) ?_ | refine SubL.skip ?_ | exact SubL.nil))) (fun x hx => ?_)
  obtain ⟨i, j⟩ := x
  dsimp only at hx ⊢
  obtain ⟨hij, hjn, hi0, hj1⟩ := hx
  refine At.seq ?_
  refine At.seq ?_
  refine At.reg rfl ?_
  refine Run.mv (h := ?_)
  refine Run.mv (h := ?_)
  refine Run.lt (h := ?_)
  refine Run.fin ?_
  refine At.cnd' (ht := fun hc11 => ?_) (hf := fun hc11 => ?_)
  · skip
    refine At.skip ?_
    refine At.block ?_
    refine At.seq ?_
    refine At.reg rfl ?_
    refine Run.mv (h := ?_)
    refine Run.mv (h := ?_)
    refine Run.add (h := ?_)
    refine Run.eqi (b := ((i + j : Nat) : Int)) (by rw [wi64 (by omega) (by omega)]; omega) ?_
    refine Run.cvf Tb.I3 Tb.I127 (hw := by first | exact wi64 (by omega) (by omega) | exact wu64 (by omega) (by omega)) (h := ?_)
    refine Run.shr (hb := by omega) (h := ?_)
    refine Run.eqi (b := (((i + j) / 2 : Nat) : Int)) (by show Int.fdiv ((i + j : Nat) : Int) 2 = _; rw [Int.fdiv_eq_ediv_of_nonneg _ (by decide)]; omega) ?_
    refine Run.cvf Tb.I127 Tb.I3 (hw := by first | exact wi64 (by omega) (by omega) | exact wu64 (by omega) (by omega)) (h := ?_)
    refine Run.as (h := ?_)
    refine Run.fin ?_
    refine At.seq ?_
    refine At.reg rfl ?_
    refine Run.mv (h := ?_)
    refine Run.mv (h := ?_)
    refine Run.call hF (hc := hp ((i + j) / 2) (by omega)) (h := ?_)
    rintro _ _ ⟨rfl, rfl⟩
    refine Run.not (h := ?_)
    refine Run.fin ?_
    refine At.cnd' (ht := fun hc21 => ?_) (hf := fun hc21 => ?_)
    · skip
      have hk1 : ∀ k, k + 1 = (i + j) / 2 + 1 → ¬ p k := fun k hk => by
        have e : k = (i + j) / 2 := by omega
        rw [e]; exact hc21
      refine At.reg rfl ?_
      refine Run.mv (h := ?_)
      refine Run.add (h := ?_)
      refine Run.eqi (b := (((i + j) / 2 + 1 : Nat) : Int)) (by rw [wi64 (by omega) (by omega)]; omega) ?_
      refine Run.as (h := ?_)
      refine Run.fin ?_
      refine At.inb_norm ?_
      exact At.again (((i + j) / 2 + 1, j)) (⟨by omega, hjn, hk1, hj1⟩) (by dsimp only; omega)
    · skip
      refine At.reg rfl ?_
      refine Run.mv (h := ?_)
      refine Run.as (h := ?_)
      refine Run.fin ?_
      refine At.inb_norm ?_
      exact At.again ((i, (i + j) / 2)) (⟨by omega, by omega, hi0, (fun _ => Decidable.of_not_not hc21)⟩) (by dsimp only; omega)
  · skip
    refine At.exit ?_
    refine At.then_exit ?_
    refine At.then_exit ?_
    refine At.inb_hit ?_
    refine At.seq ?_
    refine At.reg rfl ?_
    refine Run.mv (h := ?_)
    refine Run.as (h := ?_)
    refine Run.fin ?_
    refine At.ret ?_
    have : i = j := by omega
    subst this
    exact At.done (hΦ := by exact ⟨i, by omega, hi0, hj1, rfl, rfl⟩)
theorem layx0 {w0 : World} {L : List HP} {ao : Option Addr} {cp : Nat} {F : List HP} {r : Xt} (hp : Pick L (row 118 4 ao cp ((([] : List Xt)).map cellsX)) F) (hr : r.lo < r.hi) :
    CallOk Tb.P w0 L 72 [.slice ao 0 cp, .agg #[.int .i64 r.lo, .int .i64 r.hi, .int .i64 r.a, .int .i64 r.r]] fun u L' => ∃ ao' cp', u = .slice ao' (layE ([]) r).length cp' ∧ L' = row 118 4 ao' cp' ((layE ([]) r).map cellsX) :: F := by
  refine enter Try.func72 rfl Try.ntmps72 (Nat.le_of_ble_eq_true rfl) ?_
  refine At.chunks (fun _ hf => hp.star hf) ?_
  refine At.seq ?_
  refine At.reg rfl ?_
  refine Run.bx (h := fun g3 => ?_)
  refine Run.as (h := ?_)
  refine Run.fin ?_
  refine At.seq ?_
  refine At.seq ?_
  refine At.reg rfl ?_
  refine Run.fa Tb.F118_0 (h := ?_)
  refine Run.ld Tb.A2 (h := ?_)
  refine Run.fa Tb.F118_1 (h := ?_)
  refine Run.ld Tb.A2 (h := ?_)
  refine Run.ge (h := ?_)
  refine Run.fin ?_
  refine At.cnd' (ht := fun hc10 => ?_) (hf := fun hc10 => ?_)
  · skip
    exact absurd hc10 (by omega)
  · skip
    refine At.skip ?_
    refine At.seq ?_
    refine At.seq ?_
    refine At.reg rfl ?_
    refine Run.mv (h := ?_)
    refine Run.len Tb.L136 (h := ?_)
    refine Run.as (h := ?_)
    refine Run.fin ?_
    refine At.seq ?_
    refine At.draw [(0, 0), (1, 0), (2, 0), (3, 0), (4, 0), (5, 0), (6, 0), (7, 0), (8, 1), (9, 0), (10, 1), (11, 0), (12, 0), (13, 0), (14, 0), (15, 0), (16, 0), (17, 0), (18, 0), (19, 1), (20, 0), (21, 1), (22, 0), (23, 0)] Tb.mixed (by kernel_rfl) ?_
    refine Run.mv (h := ?_)
    refine Run.gt (h := ?_)
    refine Run.mv (h := ?_)
    refine Run.andB 9 2 (bq := false) (ht := fun hg26 => by
        exact absurd hg26 (by omega)) (hrest := ?_)
    refine Run.mv (h := ?_)
    refine Run.andB 9 13 (bq := false) (ht := fun hg37 => by
        exact absurd hg37.1 (by omega)) (hrest := ?_)
    refine Run.fin ?_
    refine At.cnd' (ht := fun hc37 => ?_) (hf := fun hc37 => ?_)
    · skip
      exact absurd hc37 (by omega)
    · skip
      refine At.skip ?_
      refine At.seq ?_
      refine At.reg rfl ?_
      refine Run.mv (h := ?_)
      refine Run.ldA Tb.A118 Tb.S118 (h := ?_)
      refine Run.bs Tb.G136 (h := fun g48 => ?_)
      refine Run.ap (ht := Tb.G136) (hR := .one (he := Els.nil.cons ⟨rfl, by simp [Value.oneCell']⟩)) (hn := by simp) (n2 := (([] : List Xt) ++ [r]).length) (l2 := (([] : List Xt) ++ [r]).map cellsX) (hl2 := by simp [cellsX]) (hn2 := by simp) (hlen := by simp [maxLen] <;> omega) (hby := by simp <;> omega) (h := fun ao49 cp49 => ?_)
      refine Run.as (h := ?_)
      refine Run.fin ?_
      refine At.ret ?_
      exact At.done (hΦ := by rw [layE_nil hr]; exact ⟨_, _, rfl, rfl⟩)
theorem layx1 {w0 : World} {L : List HP} {ao : Option Addr} {cp : Nat} {F : List HP} {r : Xt} {ini : List Xt} {x : Xt} (hp : Pick L (row 118 4 ao cp ((ini ++ [x]).map cellsX)) F) (hr : r.lo < r.hi) (hle : ini.length ≤ 1099511627776) :
    CallOk Tb.P w0 L 72 [.slice ao (ini ++ [x]).length cp, .agg #[.int .i64 r.lo, .int .i64 r.hi, .int .i64 r.a, .int .i64 r.r]] fun u L' => ∃ ao' cp', u = .slice ao' (layE (ini ++ [x]) r).length cp' ∧ L' = row 118 4 ao' cp' ((layE (ini ++ [x]) r).map cellsX) :: F := by
  refine enter Try.func72 rfl Try.ntmps72 (Nat.le_of_ble_eq_true rfl) ?_
  refine At.chunks (fun _ hf => hp.star hf) ?_
  refine At.rowR (h := fun hR0 _ _ _ => ?_)
  refine At.seq ?_
  refine At.reg rfl ?_
  refine Run.bx (h := fun g3 => ?_)
  refine Run.as (h := ?_)
  refine Run.fin ?_
  refine At.seq ?_
  refine At.seq ?_
  refine At.reg rfl ?_
  refine Run.fa Tb.F118_0 (h := ?_)
  refine Run.ld Tb.A2 (h := ?_)
  refine Run.fa Tb.F118_1 (h := ?_)
  refine Run.ld Tb.A2 (h := ?_)
  refine Run.ge (h := ?_)
  refine Run.fin ?_
  refine At.cnd' (ht := fun hc10 => ?_) (hf := fun hc10 => ?_)
  · skip
    exact absurd hc10 (by omega)
  · skip
    refine At.skip ?_
    refine At.seq ?_
    refine At.seq ?_
    refine At.reg rfl ?_
    refine Run.mv (h := ?_)
    refine Run.len Tb.L136 (h := ?_)
    refine Run.as (h := ?_)
    refine Run.fin ?_
    refine At.seq ?_
    refine At.draw [(0, 0), (1, 0), (2, 0), (3, 0), (4, 0), (5, 0), (6, 0), (7, 0), (8, 1), (9, 0), (10, 1), (11, 0), (12, 0), (13, 0), (14, 0), (15, 0), (16, 0), (17, 0), (18, 0), (19, 1), (20, 0), (21, 1), (22, 0), (23, 0)] Tb.mixed (by kernel_rfl) ?_
    refine Run.mv (h := ?_)
    refine Run.gt (h := ?_)
    refine Run.mv (h := ?_)
    refine Run.andB 9 2 (ht := fun hg26 => by
        refine Run.mv (h := ?_)
        refine Run.mv (h := ?_)
        refine Run.sub (h := ?_)
        refine Run.eqi (b := (ini.length : Int)) (by rw [List.length_append]; simp only [List.length_singleton]; rw [wi64 (by omega) (by omega)]; omega) ?_
        refine Run.iaR (ht := Tb.L136) (hR := hR0 (by repeat (first | exact Pick.here | apply Pick.there))) (hj := rfl) (h1 := by simp) (hn := by simp) (h := ?_)
        refine Run.fa Tb.F118_2 (h := ?_)
        refine Run.ldrF (ht := Tb.A112) (hn := Tb.S112) (hR := hR0 (by repeat (first | exact Pick.here | apply Pick.there))) (hj := at_lastE) (h := ?_)
        refine Run.fa Tb.F118_2 (h := ?_)
        refine Run.ldA Tb.A112 Tb.S112 (h := ?_)
        refine Run.eqS eqs112 (hs := .int Tb.I3 rfl rfl (.int Tb.I3 rfl rfl (.nil))) (h := ?_)
        exact Run.fin_sc ScEnd.here) (hrest := ?_)
    refine Run.mv (h := ?_)
    refine Run.andB 9 13 (ht := fun hg37 => by
        refine Run.mv (h := ?_)
        refine Run.mv (h := ?_)
        refine Run.sub (h := ?_)
        refine Run.eqi (b := (ini.length : Int)) (by rw [List.length_append]; simp only [List.length_singleton]; rw [wi64 (by omega) (by omega)]; omega) ?_
        refine Run.iaR (ht := Tb.L136) (hR := hR0 (by repeat (first | exact Pick.here | apply Pick.there))) (hj := rfl) (h1 := by simp) (hn := by simp) (h := ?_)
        refine Run.fa Tb.F118_1 (h := ?_)
        refine Run.ldr (ht := Tb.A2) (hR := hR0 (by repeat (first | exact Pick.here | apply Pick.there))) (hj := at_lastE) (h := ?_)
        refine Run.fa Tb.F118_0 (h := ?_)
        refine Run.ld Tb.A2 (h := ?_)
        refine Run.eq (h := ?_)
        exact Run.fin_sc ScEnd.here) (hrest := ?_)
    refine Run.fin ?_
    refine At.cnd' (ht := fun hc37 => ?_) (hf := fun hc37 => ?_)
    · skip
      refine At.seq ?_
      refine At.reg rfl ?_
      refine Run.mv (h := ?_)
      refine Run.mv (h := ?_)
      refine Run.sub (h := ?_)
      refine Run.eqi (b := (ini.length : Int)) (by rw [List.length_append]; simp only [List.length_singleton]; rw [wi64 (by omega) (by omega)]; omega) ?_
      refine Run.fa Tb.F118_1 (h := ?_)
      refine Run.ld Tb.A2 (h := ?_)
      refine Run.iaR (ht := Tb.L136) (hR := hR0 (by repeat (first | exact Pick.here | apply Pick.there))) (hj := rfl) (h1 := by simp) (hn := by simp) (h := ?_)
      refine Run.fa Tb.F118_1 (h := ?_)
      refine Run.str (hsz := Tb.S2) (hj := at_lastE) (h := ?_)
      refine Run.chunks (L' := row 118 4 ao cp ((ini ++ [(⟨x.lo, r.hi, x.a, x.r⟩ : Xt)]).map cellsX) :: cel g3 118 [.int .i64 r.lo, .int .i64 r.hi, .int .i64 r.a, .int .i64 r.r] :: F) (fun _ hf => by rw [← set_lastE (x := x)]; exact hf) ?_
      refine Run.fin ?_
      refine At.seq ?_
      refine At.reg rfl ?_
      refine Run.mv (h := ?_)
      refine Run.as (h := ?_)
      refine Run.fin ?_
      refine At.ret ?_
      refine At.then_ret ?_
      rw [layE_snoc hr, if_pos ⟨⟨hc37.1.2.1, hc37.1.2.2.1⟩, hc37.2⟩]
      exact At.done (hΦ := by exact ⟨ao, cp, by simp [tupleOf], rfl⟩)
    · skip
      refine At.skip ?_
      refine At.seq ?_
      refine At.reg rfl ?_
      refine Run.mv (h := ?_)
      refine Run.ldA Tb.A118 Tb.S118 (h := ?_)
      refine Run.bs Tb.G136 (h := fun g48 => ?_)
      refine Run.ap (ht := Tb.G136) (hR := .one (he := Els.nil.cons ⟨rfl, by simp [Value.oneCell']⟩)) (hn := by simp) (n2 := ((ini ++ [x]) ++ [r]).length) (l2 := ((ini ++ [x]) ++ [r]).map cellsX) (hl2 := by simp [cellsX]) (hn2 := by simp) (hlen := by simp [maxLen] <;> omega) (hby := by simp <;> omega) (h := fun ao49 cp49 => ?_)
      refine Run.as (h := ?_)
      refine Run.fin ?_
      refine At.ret ?_
      rw [layE_snoc hr, if_neg (fun h => hc37 ⟨⟨by simp, h.1.1, h.1.2, rfl⟩, h.2⟩), show ini ++ [x, r] = ini ++ [x] ++ [r] by simp]
      exact At.done (hΦ := by exact ⟨ao49, cp49, rfl, rfl⟩)
theorem layx {w0 : World} {L F : List HP} {ao : Option Addr} {cp : Nat} {r : Xt} {l : List Xt} (hp : Pick L (row 118 4 ao cp ((l).map cellsX)) F) (hr : r.lo < r.hi) (hle : l.length ≤ 1099511627776) :
    CallOk Tb.P w0 L 72 [.slice ao l.length cp, .agg #[.int .i64 r.lo, .int .i64 r.hi, .int .i64 r.a, .int .i64 r.r]] fun u L' => ∃ ao' cp', u = .slice ao' (layE (l) r).length cp' ∧ L' = row 118 4 ao' cp' ((layE (l) r).map cellsX) :: F := by
  rcases List.eq_nil_or_concat l with rfl | ⟨ini, x, rfl⟩
  · exact layx0 hp hr
  · rw [List.concat_eq_append] at hp hle ⊢
    exact layx1 hp hr (by simp at hle; omega)
def newE (size a r : Int) : List Xt := if 0 < size then [⟨0, size, a, r⟩] else []
theorem newx {w0 : World} {L : List HP} {size a r : Int} (h0 : 0 ≤ size ∧ size ≤ 1099511627776) :
    CallOk Tb.P w0 L 55 [.int .i64 size, .agg #[.int .i64 a, .int .i64 r]] fun u L' => ∃ mb ao cp, u = .tuple #[.pointer (some ⟨mb, 0, none⟩), .int .i64 0] ∧ L' = cel mb 138 [.bool true, .int .i64 size, .slice ao (newE size a r).length cp] :: row 118 4 ao cp ((newE size a r).map cellsX) :: L := by
  refine enter Try.func55 rfl Try.ntmps55 (Nat.le_of_ble_eq_true rfl) ?_
  refine At.seq ?_
  refine At.reg rfl ?_
  refine Run.bx (h := fun g3 => ?_)
  refine Run.as (h := ?_)
  refine Run.as (h := ?_)
  refine Run.fin ?_
  refine At.seq ?_
  refine At.seq ?_
  refine At.reg rfl ?_
  refine Run.mv (h := ?_)
  refine Run.lt (h := ?_)
  refine Run.mv (h := ?_)
  refine Run.orB 2 2 (ht := fun hg12 => by
      refine Run.mv (h := ?_)
      refine Run.gt (h := ?_)
      exact Run.fin_sc ScEnd.here) (hrest := ?_)
  refine Run.fin ?_
  refine At.cnd' (ht := fun hc12 => ?_) (hf := fun hc12 => ?_)
  · skip
    exact absurd hc12 (by omega)
  · skip
    refine At.skip ?_
    refine At.seq ?_
    refine At.reg rfl ?_
    refine Run.mv (h := ?_)
    refine Run.bd Tb.B138 (h := ?_)
    refine Run.bx (h := fun g15 => ?_)
    refine Run.as (h := ?_)
    refine Run.fin ?_
    refine At.seq ?_
    refine At.seq ?_
    refine At.reg rfl ?_
    refine Run.mv (h := ?_)
    refine Run.gt (h := ?_)
    refine Run.fin ?_
    refine At.cnd' (ht := fun hc17 => ?_) (hf := fun hc17 => ?_)
    · skip
      refine At.reg rfl ?_
      refine Run.mv (h := ?_)
      refine Run.mv (h := ?_)
      refine Run.ldA Tb.A112 Tb.S112 (h := ?_)
      refine Run.bd Tb.B118 (h := ?_)
      refine Run.bs Tb.G136 (h := fun g22 => ?_)
      refine Run.ncp (h := ?_)
      refine Run.fa Tb.F138_2 (h := ?_)
      refine Run.st Tb.S136 (h := ?_)
      refine Run.fin ?_
      refine At.seq ?_
      refine At.reg rfl ?_
      refine Run.mv (h := ?_)
      refine Run.as (h := ?_)
      refine Run.as (h := ?_)
      refine Run.fin ?_
      refine At.ret ?_
      rw [newE, if_pos (by first | exact hc17 | omega)]
      exact At.done (hΦ := by exact ⟨g15, some ⟨g22, 0, none⟩, 1, rfl, rfl⟩)
    · skip
      refine At.chunks (L' := cel g15 138 [.bool true, .int .i64 size, .slice none (([] : List Xt)).length 0] :: row 118 4 none 0 ((([] : List Xt)).map cellsX) :: L) (fun _ hf => SubL.star (by repeat (first | exact SubL.refl | refine SubL.cons (by repeat (first | exact Pick.here | apply Pick.there)) ?_ | refine SubL.skip ?_ | exact SubL.nil)) (Star.nilRow (e := 118) (sz := 4) hf)) ?_
      refine At.skip ?_
      refine At.seq ?_
      refine At.reg rfl ?_
      refine Run.mv (h := ?_)
      refine Run.as (h := ?_)
      refine Run.as (h := ?_)
      refine Run.fin ?_
      refine At.ret ?_
      rw [newE, if_neg (by first | exact hc17 | omega)]
      exact At.done (hΦ := by exact ⟨g15, none, 0, rfl, rfl⟩)
theorem runsx {w0 : World} {L : List HP} {mb : Nat} {lo hi : Int} :
    CallOk Tb.P w0 L 57 [.pointer (some ⟨mb, 0, none⟩), .int .i64 lo, .int .i64 hi] fun u L' => ∃ g3 g4 g5 : Nat, u = .func (.func 73) ([] : List Value).toArray [.pointer (some ⟨g3, 0, none⟩), .pointer (some ⟨g4, 0, none⟩), .pointer (some ⟨g5, 0, none⟩)].toArray ∧ L' = cel g5 2 [.int .i64 hi] :: cel g4 2 [.int .i64 lo] :: cel g3 108 [.pointer (some ⟨mb, 0, none⟩)] :: L := by
  refine enter Try.func57 rfl Try.ntmps57 (Nat.le_of_ble_eq_true rfl) ?_
  refine At.seq ?_
  refine At.reg rfl ?_
  refine Run.bx (h := fun g3 => ?_)
  refine Run.bx (h := fun g4 => ?_)
  refine Run.bx (h := fun g5 => ?_)
  refine Run.as (h := ?_)
  refine Run.fin ?_
  refine At.seq ?_
  refine At.reg rfl ?_
  refine Run.mf (h := ?_)
  refine Run.as (h := ?_)
  refine Run.fin ?_
  refine At.ret ?_
  exact At.done (hΦ := by exact ⟨_, _, _, rfl, rfl⟩)
theorem seqx {w0 : World} {F : List HP} {p1 p2 p3 mb cp : Nat} {ao : Option Addr} {size lo hi : Int} {es : List Xt} (hle : es.length ≤ 1099511627776) (hs : SrtE es) :
    SeqOk Tb.P w0 (cel p3 2 [.int .i64 hi] :: cel p2 2 [.int .i64 lo] :: cel p1 108 [.pointer (some ⟨mb, 0, none⟩)] :: cel mb 138 [.bool true, .int .i64 size, .slice ao (es).length cp] :: row 118 4 ao cp ((es).map cellsX) :: F) 73 [.pointer (some ⟨p1, 0, none⟩), .pointer (some ⟨p2, 0, none⟩), .pointer (some ⟨p3, 0, none⟩)] ((cutE (max lo 0) (min hi size) es).map argE) := by
  intro l J Jx hY
  refine enter Try.func73 rfl Try.ntmps73 (Nat.le_of_ble_eq_true rfl) ?_
  refine At.rowR (h := fun hR0 _ _ _ => ?_)
  refine At.seq ?_
  refine At.seq ?_
  refine At.reg rfl ?_
  refine Run.ld Tb.A108 (h := ?_)
  refine Run.eqV (h0 := .ptrR Tb.I108) (h := ?_)
  refine Run.fin ?_
  refine At.condF (hx := by rfl) ?_
  refine At.skip ?_
  refine At.seq ?_
  refine At.draw [(0, 1), (1, 0), (2, 1), (3, 1), (4, 0), (5, 0), (6, 1), (7, 0), (8, 2), (9, 3), (10, 0)] Tb.mixed (by kernel_rfl) ?_
  refine Run.ld Tb.A2 (h := ?_)
  refine Run.max2 (h := ?_)
  refine Run.ld Tb.A2 (h := ?_)
  refine Run.ld Tb.A108 (h := ?_)
  refine Run.ncp (h := ?_)
  refine Run.fa Tb.F138_1 (h := ?_)
  refine Run.ld Tb.A2 (h := ?_)
  refine Run.min2 (h := ?_)
  refine Run.al Tb.Z2 (h := fun g5 => ?_)
  refine Run.st Tb.S2 (hk := hkUse (fun w hs => ldo_fact hs Tb.A2) (hkUse (fun w hs => ldo_fact hs Tb.A108) (hkUse (fun w hs => ldo_fact hs Tb.A2) (hkSkip (by kernel_rfl) (hkNil))))) (h := ?_)
  refine Run.as (h := ?_)
  refine Run.fin ?_
  refine At.seq ?_
  obtain ⟨lo1, hlo1⟩ : ∃ x, max lo 0 = x := ⟨_, rfl⟩
  obtain ⟨hi1, hhi1⟩ : ∃ x, min hi size = x := ⟨_, rfl⟩
  rw [hlo1, hhi1] at hY ⊢
  refine At.reg rfl ?_
  refine Run.ld Tb.A108 (h := ?_)
  refine Run.ncp (h := ?_)
  refine Run.fa Tb.F138_2 (h := ?_)
  refine Run.ld Tb.A136 (h := ?_)
  refine Run.al Tb.Z136 (h := fun g7 => ?_)
  refine Run.st Tb.S136 (h := ?_)
  refine Run.fin ?_
  refine At.seq ?_
  refine At.rowR (h := fun hR1 _ _ _ => ?_)
  refine At.reg rfl ?_
  refine Run.ld Tb.A136 (h := ?_)
  refine Run.len Tb.L136 (h := ?_)
  refine Run.mf (h := ?_)
  refine Run.call Tb.N74 (hc := search (p := fun k => lo1 < (gE es k).hi) (by kernel_rfl) hle (fun k hk => hits (hR1 (by repeat (first | exact Pick.here | apply Pick.there))) (Cel.own (by repeat (first | exact Pick.here | apply Pick.there)) rfl) (Cel.own (by repeat (first | exact Pick.here | apply Pick.there)) rfl) hk hk)) (h := ?_)
  rintro _ _ ⟨s, hsl, hs0, hs1, rfl, rfl⟩
  refine Run.as (h := ?_)
  refine Run.fin ?_
  refine At.block ?_
  have hst : ∀ j, j < s → (gE es j).hi ≤ lo1 := fun j hj => by
    have h1 := hs0 (s - 1) (by omega)
    have h2 := (hs j (s - 1) (by omega) (by omega)).2
    omega
  obtain ⟨gt7, hgt7⟩ : ∃ x, g7 = x := ⟨_, rfl⟩
  obtain ⟨gt5, hgt5⟩ : ∃ x, g5 = x := ⟨_, rfl⟩
  rw [hgt7, hgt5]
  refine At.chunks (L' := cel gt7 136 [.slice ao es.length cp] :: cel gt5 2 [.int .i64 lo1] :: J (cutE lo1 hi1 (es.take s)).length :: cel p3 2 [.int .i64 hi] :: cel p2 2 [.int .i64 lo] :: cel p1 108 [.pointer (some ⟨mb, 0, none⟩)] :: cel mb 138 [.bool true, .int .i64 size, .slice ao (es).length cp] :: row 118 4 ao cp ((es).map cellsX) :: F) (fun _ hf => by rw [cut_start hst]; exact SubL.star (by repeat (first | exact SubL.refl | refine SubL.cons (by repeat (first | exact Pick.here | apply Pick.there)) ?_ | refine SubL.skip ?_ | exact SubL.nil)) hf) ?_
  refine At.loop (α := Nat) (fun i => ⟨[(0, yieldV l), (5, .pointer (some ⟨gt5, 0, none⟩)), (6, .int .i64 hi1), (7, .pointer (some ⟨gt7, 0, none⟩)), (8, .int .i64 i)], cel gt7 136 [.slice ao es.length cp] :: cel gt5 2 [.int .i64 lo1] :: J (cutE lo1 hi1 (es.take i)).length :: cel p3 2 [.int .i64 hi] :: cel p2 2 [.int .i64 lo] :: cel p1 108 [.pointer (some ⟨mb, 0, none⟩)] :: cel mb 138 [.bool true, .int .i64 size, .slice ao (es).length cp] :: row 118 4 ao cp ((es).map cellsX) :: F, []⟩) (fun i => i ≤ es.length) (fun i => es.length - i) (s) (hsl) (Ent.of (by repeat (first | exact SubE.nil | refine SubE.cons (by first | rfl | (show some _ = some _; simp; done)) ?_)) (by repeat (first | exact SubL.refl | refine SubL.cons (by repeat (first | exact Pick.here | apply Pick.there)) ?_ | refine SubL.skip ?_ | exact SubL.nil))) (fun i hi0 => ?_)
  refine At.seq ?_
  refine At.seq ?_
  refine At.reg rfl ?_
  refine Run.mv (h := ?_)
  refine Run.ld Tb.A136 (h := ?_)
  refine Run.len Tb.L136 (h := ?_)
  refine Run.lt (h := ?_)
  refine Run.mv (h := ?_)
  refine Run.andB 7 4 (bq := decide ((gE es i).lo < hi1)) (ht := fun hg40 => by
      refine Run.ld Tb.A136 (h := ?_)
      refine Run.mv (h := ?_)
      refine Run.iaR (ht := Tb.L136) (hR := hR0 (by repeat (first | exact Pick.here | apply Pick.there))) (j := i) (hj := rfl) (h1 := by simp; omega) (hn := by omega) (h := ?_)
      refine Run.fa Tb.F118_0 (h := ?_)
      refine Run.ldr (ht := Tb.A2) (hR := hR0 (by repeat (first | exact Pick.here | apply Pick.there))) (hj := at_E (gE_at (by omega))) (h := ?_)
      refine Run.mv (h := ?_)
      refine Run.lt (h := ?_)
      exact Run.fin_sc ScEnd.here) (hrest := ?_)
  refine Run.fin ?_
  refine At.cnd' (ht := fun hc40 => ?_) (hf := fun hc40 => ?_)
  · skip
    refine At.skip ?_
    refine At.seq ?_
    refine At.block ?_
    refine At.seq ?_
    refine At.draw [(1, 0), (8, 0), (12, 0), (15, 0), (0, 1), (2, 0), (3, 0), (4, 1), (5, 1), (6, 0), (7, 1), (9, 0), (10, 0), (11, 1), (13, 0), (14, 1), (16, 0), (17, 0), (18, 1), (19, 0), (20, 2), (21, 3)] Tb.mixed (by kernel_rfl) ?_
    refine Run.mv (h := ?_)
    refine Run.mv (h := ?_)
    refine Run.mv (h := ?_)
    refine Run.mv (h := ?_)
    refine Run.ld Tb.A136 (h := ?_)
    refine Run.iaR (ht := Tb.L136) (hR := hR0 (by repeat (first | exact Pick.here | apply Pick.there))) (j := i) (hj := rfl) (h1 := by simp; omega) (hn := by omega) (h := ?_)
    refine Run.fa Tb.F118_0 (h := ?_)
    refine Run.ldr (ht := Tb.A2) (hR := hR0 (by repeat (first | exact Pick.here | apply Pick.there))) (hj := at_E (gE_at (by omega))) (h := ?_)
    refine Run.ld Tb.A2 (h := ?_)
    refine Run.max2 (h := ?_)
    refine Run.ld Tb.A136 (h := ?_)
    refine Run.iaR (ht := Tb.L136) (hR := hR0 (by repeat (first | exact Pick.here | apply Pick.there))) (j := i) (hj := rfl) (h1 := by simp; omega) (hn := by omega) (h := ?_)
    refine Run.fa Tb.F118_1 (h := ?_)
    refine Run.ldr (ht := Tb.A2) (hR := hR0 (by repeat (first | exact Pick.here | apply Pick.there))) (hj := at_E (gE_at (by omega))) (h := ?_)
    refine Run.min2 (h := ?_)
    refine Run.ld Tb.A136 (h := ?_)
    refine Run.iaR (ht := Tb.L136) (hR := hR0 (by repeat (first | exact Pick.here | apply Pick.there))) (j := i) (hj := rfl) (h1 := by simp; omega) (hn := by omega) (h := ?_)
    refine Run.fa Tb.F118_2 (h := ?_)
    refine Run.ldrF (ht := Tb.A112) (hn := Tb.S112) (hR := hR0 (by repeat (first | exact Pick.here | apply Pick.there))) (hj := at_E (gE_at (by omega))) (h := ?_)
    refine Run.bd Tb.B118 (h := ?_)
    refine Run.al Tb.Z118 (h := fun g9 => ?_)
    refine Run.st Tb.S118 (hk := noun (by kernel_rfl)) (h := ?_)
    refine Run.fin ?_
    refine At.seq ?_
    refine At.reg rfl ?_
    refine Run.fa Tb.F118_0 (h := ?_)
    refine Run.ld Tb.A2 (h := ?_)
    refine Run.fa Tb.F118_1 (h := ?_)
    refine Run.ld Tb.A2 (h := ?_)
    refine Run.lt (h := ?_)
    refine Run.mv (h := ?_)
    rcases Decidable.em (max (gE es i).lo lo1 < min (gE es i).hi hi1) with hs68 | hs68
    · skip
      refine Run.eqv (v' := .bool true) (congrArg Value.bool (decide_eq_true hs68)) ?_
      refine Run.mv (h := ?_)
      refine Run.ldA Tb.A118 Tb.S118 (h := ?_)
      refine Run.callY (hy := hY _ _ (cut_at (by omega) hs68)) (h1 := ?_) (h2 := ?_)
      · skip
        refine Run.not (h := ?_)
        refine Run.pk (h := ?_)
        refine Run.fin ?_
        refine At.condF (hx := by rfl) ?_
        refine At.skip ?_
        refine At.inb_norm ?_
        refine At.reg rfl ?_
        refine Run.mv (h := ?_)
        refine Run.add (h := ?_)
        refine Run.eqi (b := ((i + 1 : Nat) : Int)) (by rw [wi64 (by omega) (by omega)]; omega) ?_
        refine Run.as (h := ?_)
        refine Run.fin ?_
        refine At.chunks (L' := cel gt7 136 [.slice ao es.length cp] :: cel gt5 2 [.int .i64 lo1] :: J (cutE lo1 hi1 (es.take (i + 1))).length :: cel p3 2 [.int .i64 hi] :: cel p2 2 [.int .i64 lo] :: cel p1 108 [.pointer (some ⟨mb, 0, none⟩)] :: cel mb 138 [.bool true, .int .i64 size, .slice ao (es).length cp] :: row 118 4 ao cp ((es).map cellsX) :: F) (fun _ hf => by first | (rw [cut_len1 (by omega) hs68]; exact SubL.star (by repeat (first | exact SubL.refl | refine SubL.cons (by repeat (first | exact Pick.here | apply Pick.there)) ?_ | refine SubL.skip ?_ | exact SubL.nil)) hf) | (rw [cut_len0 (by omega) hs68]; exact SubL.star (by repeat (first | exact SubL.refl | refine SubL.cons (by repeat (first | exact Pick.here | apply Pick.there)) ?_ | refine SubL.skip ?_ | exact SubL.nil)) hf)) ?_
        exact At.again (i + 1) (by omega) (by omega)
      · skip
        refine Run.not (h := ?_)
        refine Run.pk (h := ?_)
        refine Run.fin ?_
        refine At.condT (hx := by rfl) ?_
        refine At.ret ?_
        refine At.inb_ret ?_
        refine At.then_ret ?_
        refine At.then_ret ?_
        refine At.inb_ret ?_
        exact At.done (hΦ := by exact .inr rfl)
    · skip
      refine Run.eqv (v' := .bool false) (congrArg Value.bool (decide_eq_false hs68)) ?_
      refine Run.skp (h := ?_)
      refine Run.skp (h := ?_)
      refine Run.skp (h := ?_)
      refine Run.skp (h := ?_)
      refine Run.pk (h := ?_)
      refine Run.fin ?_
      refine At.condF (hx := by rfl) ?_
      refine At.skip ?_
      refine At.inb_norm ?_
      refine At.reg rfl ?_
      refine Run.mv (h := ?_)
      refine Run.add (h := ?_)
      refine Run.eqi (b := ((i + 1 : Nat) : Int)) (by rw [wi64 (by omega) (by omega)]; omega) ?_
      refine Run.as (h := ?_)
      refine Run.fin ?_
      refine At.chunks (L' := cel gt7 136 [.slice ao es.length cp] :: cel gt5 2 [.int .i64 lo1] :: J (cutE lo1 hi1 (es.take (i + 1))).length :: cel p3 2 [.int .i64 hi] :: cel p2 2 [.int .i64 lo] :: cel p1 108 [.pointer (some ⟨mb, 0, none⟩)] :: cel mb 138 [.bool true, .int .i64 size, .slice ao (es).length cp] :: row 118 4 ao cp ((es).map cellsX) :: F) (fun _ hf => by first | (rw [cut_len1 (by omega) hs68]; exact SubL.star (by repeat (first | exact SubL.refl | refine SubL.cons (by repeat (first | exact Pick.here | apply Pick.there)) ?_ | refine SubL.skip ?_ | exact SubL.nil)) hf) | (rw [cut_len0 (by omega) hs68]; exact SubL.star (by repeat (first | exact SubL.refl | refine SubL.cons (by repeat (first | exact Pick.here | apply Pick.there)) ?_ | refine SubL.skip ?_ | exact SubL.nil)) hf)) ?_
      exact At.again (i + 1) (by omega) (by omega)
  · skip
    refine At.exit ?_
    refine At.then_exit ?_
    refine At.then_exit ?_
    refine At.inb_hit ?_
    have hstop : ∀ j, i ≤ j → j < es.length → hi1 ≤ (gE es j).lo := fun j hij hj => by
      have h1 := (hs i j hij hj).1
      by_cases h2 : i < es.length
      · have : ¬ (gE es i).lo < hi1 := fun h => hc40 ⟨by omega, h⟩
        omega
      · omega
    rw [← cut_stop hstop, argL (l := cutE lo1 hi1 es)]
    exact At.doneN (hΦ := by exact .inl rfl)
end Go.Proofs.Ytllpfpdanonhkaa
