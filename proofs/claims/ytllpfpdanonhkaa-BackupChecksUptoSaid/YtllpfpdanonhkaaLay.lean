/- Walks: a run is laid behind others. No condition. -/
import Derived.Test.YtllpfpdanonhkaaDcd
set_option maxRecDepth 8000
set_option maxHeartbeats 4000000
set_option linter.unusedVariables false
set_option linter.unusedSimpArgs false
namespace Go.Proofs.Ytllpfpdanonhkaa
open Go.Sx Go.RowKit

def joins (x r : Rn) : Prop := x.off + x.len = r.off ∧ x.hole = r.hole
instance {x r : Rn} : Decidable (joins x r) := by unfold joins; infer_instance
/-- A run behind others; one that touches the last and is alike is joined to it. -/
def layP : List Rn → Rn → List Rn
  | [], r => [r]
  | [x], r => if joins x r then [⟨x.off, x.len + r.len, x.hole, x.data ++ r.data⟩] else [x, r]
  | x :: y :: l, r => x :: layP (y :: l) r
theorem layP_snoc {l : List Rn} {x r : Rn} : layP (l ++ [x]) r = l ++ (if joins x r then [⟨x.off, x.len + r.len, x.hole, x.data ++ r.data⟩] else [x, r]) := by
  induction l with
  | nil => rfl
  | cons a l ih =>
    cases l with
    | nil => simp only [List.cons_append, List.nil_append, layP]
    | cons b l => simp only [List.cons_append, layP] at ih ⊢; rw [ih]
theorem set_last {l : List RV} {x y : RV} : ((l ++ [x]).map cellsV).set l.length (cellsV y) = (l ++ [y]).map cellsV := by
  rw [List.map_append, List.set_append_right _ _ (by simp)]; simp
theorem at_last {l : List RV} {x : RV} : ((l ++ [x]).map cellsV)[l.length]? = some [.int .u64 x.1.off, .int .u64 x.1.len, .bool x.1.hole, .slice x.2.1 x.1.data.length x.2.2] := by
  rw [List.map_append, List.getElem?_append_right (by simp)]; simp [cellsV]

theorem lay0 {w0 : World} {L : List HP} {ao da : Option Addr} {cp dc : Nat} {F : List HP} {r : Rn} (hp : Pick L (Rns ao cp []) F) (hd : RdS w0 F 1 da (ints .u8 r.data)) (hr : RnOk r) :
    CallOk Tb.P w0 L 35 [.slice ao 0 cp, .agg #[.int .u64 r.off, .int .u64 r.len, .bool r.hole, .slice da r.data.length dc]] fun u L' => ∃ ao' cp' rs', pures rs' = layP (pures ([])) r ∧ u = .slice ao' rs'.length cp' ∧ L' = Rns ao' cp' rs' :: F := by
  refine enter Try.func35 rfl Try.ntmps35 (Nat.le_of_ble_eq_true rfl) ?_
  refine At.chunks (fun _ hf => Rns_open.1 (hp.star hf)) ?_
  refine At.seq ?_
  refine At.reg rfl ?_
  refine Run.bx (h := fun g3 => ?_)
  refine Run.as (h := ?_)
  refine Run.fin ?_
  refine At.seq ?_
  refine At.seq ?_
  refine At.reg rfl ?_
  refine Run.mv (h := ?_)
  refine Run.len Tb.L26 (h := ?_)
  refine Run.sub (h := ?_)
  refine Run.eqi (b := -1) (by rfl) ?_
  refine Run.as (h := ?_)
  refine Run.fin ?_
  refine At.seq ?_
  refine At.draw [(0, 0), (1, 0), (2, 0), (3, 0), (4, 0), (5, 0), (6, 0), (7, 1), (8, 0), (9, 0), (10, 0), (11, 0), (12, 1), (13, 0), (14, 0), (15, 1), (16, 0), (17, 0), (18, 0), (19, 0), (20, 0), (21, 0), (22, 0), (23, 1), (24, 0), (25, 1), (26, 0), (27, 0)] Tb.mixed (by kernel_rfl) ?_
  refine Run.mv (h := ?_)
  refine Run.ge (h := ?_)
  refine Run.mv (h := ?_)
  refine Run.andB 14 2 (bq := false) (ht := fun hg26 => by
      exact absurd hg26 (by omega)) (hrest := ?_)
  refine Run.mv (h := ?_)
  refine Run.andB 8 18 (bq := false) (ht := fun hg36 => by
      exact absurd hg36.1 (by omega)) (hrest := ?_)
  refine Run.fin ?_
  refine At.cnd' (ht := fun hc36 => ?_) (hf := fun hc36 => ?_)
  · skip
    exact absurd hc36 (by omega)
  · skip
    refine At.skip ?_
    refine At.seq ?_
    refine At.reg rfl ?_
    refine Run.fa Tb.F76_3 (h := ?_)
    refine Run.ld Tb.A23 (h := ?_)
    refine Run.call Tb.N60 (hc := clone hd.sub rfl (by have := hr.2.2.2.2.1; omega)) (h := ?_)
    rintro _ _ ⟨ao62, cp62, rfl, rfl⟩
    refine Run.fa Tb.F76_3 (h := ?_)
    refine Run.st Tb.S23 (h := ?_)
    refine Run.fin ?_
    refine At.seq ?_
    refine At.reg rfl ?_
    refine Run.mv (h := ?_)
    refine Run.ldA Tb.A76 Tb.S76 (h := ?_)
    refine Run.bs Tb.G26 (h := fun g66 => ?_)
    refine Run.ap (ht := Tb.G26) (hR := .one (he := Els.nil.cons ⟨rfl, by simp [cellsV, Value.oneCell']⟩)) (hn := by simp) (n2 := (([] : List RV) ++ [(r, (ao62, cp62))]).length) (l2 := (([] : List RV)).map cellsV ++ [cellsV (r, (ao62, cp62))]) (hl2 := rfl) (hn2 := by simp) (hlen := by simp [maxLen] <;> omega) (hby := by simp <;> omega) (h := fun ao67 cp67 => ?_)
    refine Run.as (h := ?_)
    refine Run.fin ?_
    refine At.ret ?_
    refine At.chunks (L' := Rns ao67 cp67 (([] : List RV) ++ [(r, (ao62, cp62))]) :: F) (fun _ hf => Rns_snoc (rs := []) (r := (r, (ao62, cp62))) (SubL.star (by repeat (first | exact SubL.refl | refine SubL.cons (by repeat (first | exact Pick.here | apply Pick.there)) ?_ | refine SubL.skip ?_ | exact SubL.nil)) hf)) ?_
    exact At.done (hΦ := by exact ⟨_, _, _, rfl, rfl, rfl⟩)
theorem lay1 {w0 : World} {L : List HP} {ao da : Option Addr} {cp dc : Nat} {F : List HP} {r : Rn} {ini : List RV} {x : RV} (hp : Pick L (Rns ao cp (ini ++ [x])) F) (hd : RdS w0 F 1 da (ints .u8 r.data)) (hr : RnOk r) (hx : RnOk x.1) (hxl : x.1.off + x.1.len < 18446744073709551616) (hll : x.1.len + r.len < 18446744073709551616) (hdl : x.1.data.length + r.data.length ≤ 1099511627776) (hnn : ini.length ≤ 1099511627776) :
    CallOk Tb.P w0 L 35 [.slice ao (ini ++ [x]).length cp, .agg #[.int .u64 r.off, .int .u64 r.len, .bool r.hole, .slice da r.data.length dc]] fun u L' => ∃ ao' cp' rs', pures rs' = layP (pures (ini ++ [x])) r ∧ u = .slice ao' rs'.length cp' ∧ L' = Rns ao' cp' rs' :: F := by
  refine enter Try.func35 rfl Try.ntmps35 (Nat.le_of_ble_eq_true rfl) ?_
  refine At.chunks (L' := row 76 4 ao cp ((ini ++ [x]).map cellsV) :: dat x :: pack (ini.map dat) :: F) (fun _ hf => Star.cons_mono (fun _ h => pack_snoc.1 (by rw [← List.map_singleton (f := dat), ← List.map_append]; exact h)) (Rns_open.1 (hp.star hf))) ?_
  refine At.rowR (h := fun hR0 _ _ _ => ?_)
  refine At.seq ?_
  refine At.reg rfl ?_
  refine Run.bx (h := fun g3 => ?_)
  refine Run.as (h := ?_)
  refine Run.fin ?_
  refine At.seq ?_
  refine At.seq ?_
  refine At.reg rfl ?_
  refine Run.mv (h := ?_)
  refine Run.len Tb.L26 (h := ?_)
  refine Run.sub (h := ?_)
  refine Run.eqi (b := (ini.length : Int)) (by rw [List.length_append]; simp only [List.length_singleton]; rw [wi64 (by omega) (by omega)]; omega) ?_
  refine Run.as (h := ?_)
  refine Run.fin ?_
  refine At.seq ?_
  refine At.draw [(0, 0), (1, 0), (2, 0), (3, 0), (4, 0), (5, 0), (6, 0), (7, 1), (8, 0), (9, 0), (10, 0), (11, 0), (12, 1), (13, 0), (14, 0), (15, 1), (16, 0), (17, 0), (18, 0), (19, 0), (20, 0), (21, 0), (22, 0), (23, 1), (24, 0), (25, 1), (26, 0), (27, 0)] Tb.mixed (by kernel_rfl) ?_
  refine Run.mv (h := ?_)
  refine Run.ge (h := ?_)
  refine Run.mv (h := ?_)
  refine Run.andB 14 2 (ht := fun hg26 => by
      refine Run.mv (h := ?_)
      refine Run.mv (h := ?_)
      refine Run.iaR (ht := Tb.L26) (hR := hR0 (by repeat (first | exact Pick.here | apply Pick.there))) (hj := rfl) (h1 := by simp) (hn := by simp) (h := ?_)
      refine Run.fa Tb.F76_0 (h := ?_)
      refine Run.ldr (ht := Tb.A22) (hR := hR0 (by repeat (first | exact Pick.here | apply Pick.there))) (hj := at_last) (h := ?_)
      refine Run.mv (h := ?_)
      refine Run.mv (h := ?_)
      refine Run.iaR (ht := Tb.L26) (hR := hR0 (by repeat (first | exact Pick.here | apply Pick.there))) (hj := rfl) (h1 := by simp) (hn := by simp) (h := ?_)
      refine Run.fa Tb.F76_1 (h := ?_)
      refine Run.ldr (ht := Tb.A22) (hR := hR0 (by repeat (first | exact Pick.here | apply Pick.there))) (hj := at_last) (h := ?_)
      refine Run.add (h := ?_)
      refine Run.eqi (b := x.1.off + x.1.len) (wu64 (by have := hx.1; have := hx.2.2.1; omega) hxl) ?_
      refine Run.fa Tb.F76_0 (h := ?_)
      refine Run.ld Tb.A22 (h := ?_)
      refine Run.eq (h := ?_)
      exact Run.fin_sc ScEnd.here) (hrest := ?_)
  refine Run.mv (h := ?_)
  refine Run.andB 8 18 (ht := fun hg36 => by
      refine Run.mv (h := ?_)
      refine Run.mv (h := ?_)
      refine Run.iaR (ht := Tb.L26) (hR := hR0 (by repeat (first | exact Pick.here | apply Pick.there))) (hj := rfl) (h1 := by simp) (hn := by simp) (h := ?_)
      refine Run.fa Tb.F76_2 (h := ?_)
      refine Run.ldr (ht := Tb.A4) (hR := hR0 (by repeat (first | exact Pick.here | apply Pick.there))) (hj := at_last) (h := ?_)
      refine Run.fa Tb.F76_2 (h := ?_)
      refine Run.ld Tb.A4 (h := ?_)
      refine Run.eqV (h0 := .bool Tb.I4) (h := ?_)
      exact Run.fin_sc ScEnd.here) (hrest := ?_)
  refine Run.fin ?_
  refine At.cnd' (ht := fun hc36 => ?_) (hf := fun hc36 => ?_)
  · skip
    refine At.seq ?_
    refine At.draw [(0, 0), (1, 0), (2, 0), (3, 0), (5, 0), (4, 1), (6, 1), (7, 0), (8, 0), (9, 0), (10, 3)] Tb.mixed (by kernel_rfl) ?_
    refine Run.mv (h := ?_)
    refine Run.mv (h := ?_)
    refine Run.iaR (ht := Tb.L26) (hR := hR0 (by repeat (first | exact Pick.here | apply Pick.there))) (hj := rfl) (h1 := by simp) (hn := by simp) (h := ?_)
    refine Run.fa Tb.F76_1 (h := ?_)
    refine Run.fa Tb.F76_1 (h := ?_)
    refine Run.ldr (ht := Tb.A22) (hR := hR0 (by repeat (first | exact Pick.here | apply Pick.there))) (hj := at_last) (h := ?_)
    refine Run.ld Tb.A22 (h := ?_)
    refine Run.add (h := ?_)
    refine Run.eqi (b := x.1.len + r.len) (wu64 (by have := hr.2.2.1; have := hx.2.2.1; omega) hll) ?_
    refine Run.iaR (ht := Tb.L26) (hR := hR0 (by repeat (first | exact Pick.here | apply Pick.there))) (hj := rfl) (h1 := by simp) (hn := by simp) (h := ?_)
    refine Run.fa Tb.F76_1 (h := ?_)
    refine Run.str (hsz := Tb.S22) (hj := at_last) (hk := noun (by kernel_rfl)) (h := ?_)
    refine Run.chunks (L' := row 76 4 ao cp ((ini ++ [((⟨x.1.off, x.1.len + r.len, x.1.hole, x.1.data⟩ : Rn), x.2)]).map cellsV) :: cel g3 76 [.int .u64 r.off, .int .u64 r.len, .bool r.hole, .slice da r.data.length dc] :: dat x :: pack (ini.map dat) :: F) (fun _ hf => by rw [← set_last (x := x)]; exact hf) ?_
    refine Run.fin ?_
    refine At.seq ?_
    refine At.rowR (h := fun hR1 _ _ _ => ?_)
    refine At.draw [(0, 0), (1, 0), (2, 0), (3, 0), (4, 0), (5, 0), (7, 0), (6, 1), (8, 1), (9, 3), (10, 0), (11, 0), (12, 3)] Tb.mixed (by kernel_rfl) ?_
    refine Run.mv (h := ?_)
    refine Run.mv (h := ?_)
    refine Run.mv (h := ?_)
    refine Run.mv (h := ?_)
    refine Run.iaR (ht := Tb.L26) (hR := hR1 (by repeat (first | exact Pick.here | apply Pick.there))) (hj := rfl) (h1 := by simp) (hn := by simp) (h := ?_)
    refine Run.fa Tb.F76_3 (h := ?_)
    refine Run.fa Tb.F76_3 (h := ?_)
    refine Run.ldr (ht := Tb.A23) (hR := hR1 (by repeat (first | exact Pick.here | apply Pick.there))) (hj := at_last) (h := ?_)
    refine Run.ld Tb.A23 (h := ?_)
    refine Run.ap (ht := Tb.G23) (hR := hd.sub) (n2 := (x.1.data ++ r.data).length) (l2 := ints .u8 (x.1.data ++ r.data)) (hl2 := ints_app) (hn2 := by simp) (hlen := by simp [maxLen]; omega) (hby := by simp; omega) (hk := noun (by kernel_rfl)) (h := fun ao56 cp56 => ?_)
    refine Run.iaR (ht := Tb.L26) (hR := hR1 (by repeat (first | exact Pick.here | apply Pick.there))) (hj := rfl) (h1 := by simp) (hn := by simp) (h := ?_)
    refine Run.fa Tb.F76_3 (h := ?_)
    refine Run.str (hsz := Tb.S23) (hj := at_last) (hk := noun (by kernel_rfl)) (h := ?_)
    refine Run.fin ?_
    refine At.seq ?_
    refine At.reg rfl ?_
    refine Run.mv (h := ?_)
    refine Run.as (h := ?_)
    refine Run.fin ?_
    refine At.ret ?_
    refine At.then_ret ?_
    refine At.chunks (L' := Rns ao cp (ini ++ [((⟨x.1.off, x.1.len + r.len, x.1.hole, x.1.data ++ r.data⟩ : Rn), (ao56, cp56))]) :: F) (fun _ hf => Rns_snoc (rs := ini) (r := ((⟨x.1.off, x.1.len + r.len, x.1.hole, x.1.data ++ r.data⟩ : Rn), (ao56, cp56))) (SubL.star (by repeat (first | exact SubL.refl | refine SubL.cons (by repeat (first | exact Pick.here | apply Pick.there)) ?_ | refine SubL.skip ?_ | exact SubL.nil)) (show Star (row 76 4 ao cp (ini.map cellsV ++ [cellsV ((⟨x.1.off, x.1.len + r.len, x.1.hole, x.1.data ++ r.data⟩ : Rn), (ao56, cp56))]) :: row 5 1 ao56 cp56 (ints .u8 (x.1.data ++ r.data)) :: cel g3 76 [.int .u64 r.off, .int .u64 r.len, .bool r.hole, .slice da r.data.length dc] :: pack (ini.map dat) :: F) _ from by rw [← List.map_singleton (f := cellsV), ← List.map_append, ← set_last (x := ((⟨x.1.off, x.1.len + r.len, x.1.hole, x.1.data⟩ : Rn), x.2))]; exact hf))) ?_
    exact At.done (hΦ := by exact ⟨ao, cp, ini ++ [((⟨x.1.off, x.1.len + r.len, x.1.hole, x.1.data ++ r.data⟩ : Rn), (ao56, cp56))], by simp only [pures, List.map_append, List.map_cons, List.map_nil]; rw [layP_snoc, if_pos (by first | exact ⟨hc36.1.2, eq_of_beq hc36.2⟩ | exact hc36)], by simp [tupleOf], rfl⟩)
  · skip
    refine At.skip ?_
    refine At.seq ?_
    refine At.reg rfl ?_
    refine Run.fa Tb.F76_3 (h := ?_)
    refine Run.ld Tb.A23 (h := ?_)
    refine Run.call Tb.N60 (hc := clone hd.sub rfl (by have := hr.2.2.2.2.1; omega)) (h := ?_)
    rintro _ _ ⟨ao62, cp62, rfl, rfl⟩
    refine Run.fa Tb.F76_3 (h := ?_)
    refine Run.st Tb.S23 (h := ?_)
    refine Run.fin ?_
    refine At.seq ?_
    refine At.reg rfl ?_
    refine Run.mv (h := ?_)
    refine Run.ldA Tb.A76 Tb.S76 (h := ?_)
    refine Run.bs Tb.G26 (h := fun g66 => ?_)
    refine Run.ap (ht := Tb.G26) (hR := .one (he := Els.nil.cons ⟨rfl, by simp [cellsV, Value.oneCell']⟩)) (hn := by simp) (n2 := ((ini ++ [x]) ++ [(r, (ao62, cp62))]).length) (l2 := ((ini ++ [x])).map cellsV ++ [cellsV (r, (ao62, cp62))]) (hl2 := rfl) (hn2 := by simp) (hlen := by simp [maxLen] <;> omega) (hby := by simp <;> omega) (h := fun ao67 cp67 => ?_)
    refine Run.as (h := ?_)
    refine Run.fin ?_
    refine At.ret ?_
    refine At.chunks (L' := Rns ao67 cp67 (ini ++ [x] ++ [(r, (ao62, cp62))]) :: F) (fun _ hf => Rns_snoc (rs := ini ++ [x]) (r := (r, (ao62, cp62))) (Star.cons_mono (fun _ => Star.cons_mono (fun _ h => by rw [List.map_append]; exact pack_snoc.2 h)) (SubL.star (L' := row 76 4 ao67 cp67 ((ini ++ [x]).map cellsV ++ [cellsV (r, (ao62, cp62))]) :: dat (r, (ao62, cp62)) :: dat x :: pack (ini.map dat) :: F) (by repeat (first | exact SubL.refl | refine SubL.cons (by repeat (first | exact Pick.here | apply Pick.there)) ?_ | refine SubL.skip ?_ | exact SubL.nil)) hf))) ?_
    exact At.done (hΦ := by exact ⟨ao67, cp67, ini ++ [x] ++ [(r, (ao62, cp62))], by simp only [pures, List.map_append, List.map_cons, List.map_nil]; rw [layP_snoc, if_neg (fun h => hc36 (by first | exact ⟨⟨by omega, h.1⟩, beq_iff_eq.2 h.2⟩ | exact h))]; simp, rfl, rfl⟩)
end Go.Proofs.Ytllpfpdanonhkaa
