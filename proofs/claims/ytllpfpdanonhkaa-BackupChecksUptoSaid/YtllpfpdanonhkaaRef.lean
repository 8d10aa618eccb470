/- Walks: archives compared and copied by the reference. No condition. -/
import Derived.Test.YtllpfpdanonhkaaFlip
import Derived.Test.YtllpfpdanonhkaaSxLift
set_option maxRecDepth 8000
set_option maxHeartbeats 4000000
set_option linter.unusedVariables false
set_option linter.unusedSimpArgs false
namespace Go.Proofs.Ytllpfpdanonhkaa
open Go.Sx Go.RowKit

theorem pures_take {l m : List RV} {k : Nat} {x y : RV} (h : (pures l).take k = (pures m).take k) (hx : l[k]? = some x) (hy : m[k]? = some y) (e : x.1 = y.1) : (pures l).take (k + 1) = (pures m).take (k + 1) := by
  rw [List.take_add_one, List.take_add_one, h, pures_at hx, pures_at hy, e]
theorem rn_ext {x y : Rn} (h1 : x.off = y.off) (h2 : x.len = y.len) (h3 : x.hole = y.hole) (h4 : x.data = y.data) : x = y := by
  cases x; cases y; simp_all

theorem rv_snoc {l : List RV} {k : Nat} {x : RV} {m : List RV} (h : pures m = (pures l).take k) (hx : l[k]? = some x) (d : Option Addr × Nat) : pures (m ++ [(x.1, d)]) = (pures l).take (k + 1) := by
  rw [List.take_add_one, pures_at hx, ← h]; simp [pures]

def sealedP (bs : List Int) (p n : Nat) : Bool := decide (bval (part bs (p + n) 4) = crcv (part bs p n))
theorem ints_part {k : IntKind} {bs : List Int} {p n : Nat} : ((ints k bs).take (p + n)).drop p = ints k (part bs p n) := by rw [ints_take, ints_drop]; rfl

/-- What the reference reads, run by run. -/
def rbytesE (bs : List Int) (p : Nat) (n : Int) : Option Int := if short bs p n then some 252 else if sealedP bs p n.toNat then none else some 253
theorem rbytesE_eq {bs : List Int} {p : Nat} {n : Int} : rbytesE bs p n = bytesE bs p n := by
  unfold rbytesE bytesE sealedP
  split
  · rfl
  · simp
theorem bval1 {bs : List Int} {p : Nat} (h : p < bs.length) : bval (part bs p 1) = bs.getD p 0 := by
  rw [part_eq, List.drop_eq_getElem_cons h, List.take_succ_cons, List.take_zero]
  simp [bval, List.getD, h]

theorem rsameA {w0 : World} {L : List HP} {i1 p1 s1 i2 p2 s2 : Int} {a1 a2 : Option Addr} {c1 c2 : Nat} {r1 r2 : List RV} (h1 : RdS w0 L 4 a1 (r1.map cellsV)) (h2 : RdS w0 L 4 a2 (r2.map cellsV)) (d1 : ∀ r ∈ r1, RdS w0 L 1 r.2.1 (ints .u8 r.1.data)) (d2 : ∀ r ∈ r2, RdS w0 L 1 r.2.1 (ints .u8 r.1.data)) (l1 : r1.length ≤ 1099511627776) (k1 : ∀ r ∈ r1, r.1.data.length ≤ 1099511627776) :
    CallOk Tb.P w0 L 14 [.agg #[.int .u64 i1, .int .u64 p1, .int .u64 s1, .slice a1 r1.length c1], .agg #[.int .u64 i2, .int .u64 p2, .int .u64 s2, .slice a2 r2.length c2]] fun u L' => ∃ b : Bool, u = .bool b ∧ (b = true ↔ (⟨i1, p1, s1, pures r1⟩ : Ar) = (⟨i2, p2, s2, pures r2⟩ : Ar)) ∧ L' = L := by
  refine enter Try.func14 rfl Try.ntmps14 (Nat.le_of_ble_eq_true rfl) ?_
  refine At.seq ?_
  refine At.reg rfl ?_
  refine Run.bx (h := fun g2 => ?_)
  refine Run.bx (h := fun g3 => ?_)
  refine Run.as (h := ?_)
  refine Run.fin ?_
  refine At.seq ?_
  refine At.seq ?_
  refine At.reg rfl ?_
  refine Run.fa Tb.F28_0 (h := ?_)
  refine Run.ld Tb.A22 (h := ?_)
  refine Run.fa Tb.F28_0 (h := ?_)
  refine Run.ld Tb.A22 (h := ?_)
  refine Run.ne (h := ?_)
  refine Run.mv (h := ?_)
  refine Run.orB 5 5 (ht := fun hg20 => by
      refine Run.fa Tb.F28_1 (h := ?_)
      refine Run.ld Tb.A22 (h := ?_)
      refine Run.fa Tb.F28_1 (h := ?_)
      refine Run.ld Tb.A22 (h := ?_)
      refine Run.ne (h := ?_)
      exact Run.fin_sc ScEnd.here) (hrest := ?_)
  refine Run.mv (h := ?_)
  refine Run.orB 5 12 (ht := fun hg27 => by
      refine Run.fa Tb.F28_2 (h := ?_)
      refine Run.ld Tb.A22 (h := ?_)
      refine Run.fa Tb.F28_2 (h := ?_)
      refine Run.ld Tb.A22 (h := ?_)
      refine Run.ne (h := ?_)
      exact Run.fin_sc ScEnd.here) (hrest := ?_)
  refine Run.mv (h := ?_)
  refine Run.orB 7 19 (ht := fun hg36 => by
      refine Run.fa Tb.F28_3 (h := ?_)
      refine Run.ld Tb.A26 (h := ?_)
      refine Run.len Tb.L26 (h := ?_)
      refine Run.fa Tb.F28_3 (h := ?_)
      refine Run.ld Tb.A26 (h := ?_)
      refine Run.len Tb.L26 (h := ?_)
      refine Run.ne (h := ?_)
      exact Run.fin_sc ScEnd.here) (hrest := ?_)
  refine Run.fin ?_
  refine At.cnd' (ht := fun hc36 => ?_) (hf := fun hc36 => ?_)
  · skip
    refine At.seq ?_
    refine At.reg rfl ?_
    refine Run.as (h := ?_)
    refine Run.fin ?_
    refine At.ret ?_
    refine At.then_ret ?_
    exact At.done (hΦ := by exact ⟨false, rfl, ⟨(fun h => by cases h), fun h => by simp only [Ar.mk.injEq] at h; obtain ⟨e1, e2, e3, e4⟩ := h; have := congrArg List.length e4; simp [pures] at this; omega⟩, rfl⟩)
  · skip
    refine At.skip ?_
    refine At.seq ?_
    refine At.seq ?_
    refine At.reg rfl ?_
    refine Run.as (h := ?_)
    refine Run.fin ?_
    refine At.block ?_
    refine At.loop (α := Nat) (fun k => ⟨[(2, .pointer (some ⟨g2, 0, none⟩)), (3, .pointer (some ⟨g3, 0, none⟩)), (5, .int .i64 k)], cel g3 28 [.int .u64 i2, .int .u64 p2, .int .u64 s2, .slice a2 r2.length c2] :: cel g2 28 [.int .u64 i1, .int .u64 p1, .int .u64 s1, .slice a1 r1.length c1] :: L, []⟩) (fun k => k ≤ r1.length ∧ (pures r1).take k = (pures r2).take k) (fun k => r1.length - k) (0) (⟨Nat.zero_le _, rfl⟩) (Ent.of (by repeat (first | exact SubE.nil | refine SubE.cons (by first | rfl | (show some _ = some _; simp; done)) ?_)) (by repeat (first | exact SubL.refl | refine SubL.cons (by repeat (first | exact Pick.here | apply Pick.there)) ?_ | refine SubL.skip ?_ | exact SubL.nil))) (fun k hx => ?_)
    obtain ⟨hk, heq⟩ := hx
    refine At.seq ?_
    refine At.seq ?_
    refine At.reg rfl ?_
    refine Run.mv (h := ?_)
    refine Run.fa Tb.F28_3 (h := ?_)
    refine Run.ld Tb.A26 (h := ?_)
    refine Run.len Tb.L26 (h := ?_)
    refine Run.lt (h := ?_)
    refine Run.fin ?_
    refine At.cnd' (ht := fun hc41 => ?_) (hf := fun hc41 => ?_)
    · skip
      have hlen : r1.length = r2.length := by omega
      obtain ⟨x1, hx1⟩ : ∃ r, r1[k]? = some r := ⟨r1[k]'(by omega), List.getElem?_eq_getElem _⟩
      have hd1 := d1 x1 (List.mem_of_getElem? hx1)
      obtain ⟨x2, hx2⟩ : ∃ r, r2[k]? = some r := ⟨r2[k]'(by omega), List.getElem?_eq_getElem _⟩
      have hd2 := d2 x2 (List.mem_of_getElem? hx2)
      refine At.skip ?_
      refine At.seq ?_
      refine At.block ?_
      refine At.seq ?_
      refine At.draw [(0, 0), (2, 0), (5, 0), (7, 0), (1, 1), (3, 0), (4, 1), (6, 1), (8, 0), (9, 1), (10, 2), (11, 2), (12, 3), (13, 3)] Tb.mixed (by kernel_rfl) ?_
      refine Run.fa Tb.F28_3 (h := ?_)
      refine Run.mv (h := ?_)
      refine Run.fa Tb.F28_3 (h := ?_)
      refine Run.mv (h := ?_)
      refine Run.ld Tb.A26 (h := ?_)
      refine Run.iaR (ht := Tb.L26) (hR := h1.sub) (hj := rfl) (h1 := by simp; omega) (hn := by omega) (h := ?_)
      refine Run.ldrA (ht := Tb.A76) (hn := Tb.S76) (hR := h1.sub) (hj := cells_at hx1) (h := ?_)
      refine Run.ld Tb.A26 (h := ?_)
      refine Run.iaR (ht := Tb.L26) (hR := h2.sub) (hj := rfl) (h1 := by simp; omega) (hn := by omega) (h := ?_)
      refine Run.ldrA (ht := Tb.A76) (hn := Tb.S76) (hR := h2.sub) (hj := cells_at hx2) (h := ?_)
      refine Run.al Tb.Z76 (h := fun g6 => ?_)
      refine Run.al Tb.Z76 (h := fun g7 => ?_)
      refine Run.st Tb.S76 (hk := hkUse (fun w hs => ldrA_fact hs Tb.A76 Tb.S76 (hR := h2.sub) (hj := cells_at hx2)) (hkUse (fun w hs => ldo_fact hs Tb.A26) (hkSkip (by kernel_rfl) (hkSkip (by kernel_rfl) (hkNil))))) (h := ?_)
      refine Run.st Tb.S76 (hk := noun (by kernel_rfl)) (h := ?_)
      refine Run.fin ?_
      refine At.seq ?_
      refine At.reg rfl ?_
      refine Run.fa Tb.F76_3 (h := ?_)
      refine Run.ld Tb.A23 (h := ?_)
      refine Run.fa Tb.F76_3 (h := ?_)
      refine Run.ld Tb.A23 (h := ?_)
      refine Run.call Tb.N15 (hc := rsame hd1.sub hd2.sub (k1 x1 (List.mem_of_getElem? hx1))) (h := ?_)
      rintro _ _ ⟨rfl, rfl⟩
      refine Run.as (h := ?_)
      refine Run.fin ?_
      refine At.seq ?_
      refine At.reg rfl ?_
      refine Run.fa Tb.F76_0 (h := ?_)
      refine Run.ld Tb.A22 (h := ?_)
      refine Run.fa Tb.F76_0 (h := ?_)
      refine Run.ld Tb.A22 (h := ?_)
      refine Run.ne (h := ?_)
      refine Run.mv (h := ?_)
      refine Run.orB 5 5 (ht := fun hg70 => by
          refine Run.fa Tb.F76_1 (h := ?_)
          refine Run.ld Tb.A22 (h := ?_)
          refine Run.fa Tb.F76_1 (h := ?_)
          refine Run.ld Tb.A22 (h := ?_)
          refine Run.ne (h := ?_)
          exact Run.fin_sc ScEnd.here) (hrest := ?_)
      refine Run.mv (h := ?_)
      refine Run.orB 5 12 (ht := fun hg77 => by
          refine Run.fa Tb.F76_2 (h := ?_)
          refine Run.ld Tb.A4 (h := ?_)
          refine Run.fa Tb.F76_2 (h := ?_)
          refine Run.ld Tb.A4 (h := ?_)
          refine Run.neV (h0 := .bool Tb.I4) (h := ?_)
          exact Run.fin_sc ScEnd.here) (hrest := ?_)
      refine Run.mv (h := ?_)
      refine Run.orB 2 19 (ht := fun hg81 => by
          refine Run.mv (h := ?_)
          refine Run.not (h := ?_)
          exact Run.fin_sc ScEnd.here) (hrest := ?_)
      refine Run.fin ?_
      refine At.cnd' (ht := fun hc81 => ?_) (hf := fun hc81 => ?_)
      · skip
        refine At.seq ?_
        refine At.reg rfl ?_
        refine Run.as (h := ?_)
        refine Run.fin ?_
        refine At.ret ?_
        refine At.inb_ret ?_
        refine At.then_ret ?_
        refine At.then_ret ?_
        refine At.inb_ret ?_
        refine At.then_ret ?_
        exact At.done (hΦ := by exact ⟨false, rfl, ⟨(fun h => by cases h), fun h => by simp only [Ar.mk.injEq] at h; obtain ⟨_, _, _, e4⟩ := h; have h3 := pures_at hx1; rw [e4, pures_at hx2] at h3; have h5 := Option.some.inj h3; rw [h5] at hc81; simp at hc81⟩, rfl⟩)
      · skip
        have e1 : x1.1.off = x2.1.off := by omega
        have e2 : x1.1.len = x2.1.len := by omega
        have e3 : x1.1.hole = x2.1.hole := Decidable.byContradiction fun h => hc81 (.inl (.inr h))
        have e4 : x1.1.data = x2.1.data := Decidable.byContradiction fun h => hc81 (.inr h)
        refine At.skip ?_
        refine At.inb_norm ?_
        refine At.reg rfl ?_
        refine Run.mv (h := ?_)
        refine Run.add (h := ?_)
        refine Run.eqi (b := ((k + 1 : Nat) : Int)) (by rw [wi64 (by omega) (by omega)]; omega) ?_
        refine Run.as (h := ?_)
        refine Run.fin ?_
        exact At.again (k + 1) (⟨by omega, pures_take heq hx1 hx2 (rn_ext e1 e2 e3 e4)⟩) (by omega)
    · skip
      refine At.exit ?_
      refine At.then_exit ?_
      refine At.then_exit ?_
      refine At.inb_hit ?_
      refine At.seq ?_
      refine At.reg rfl ?_
      refine Run.as (h := ?_)
      refine Run.fin ?_
      refine At.ret ?_
      exact At.done (hΦ := by exact ⟨true, rfl, ⟨fun _ => by simp only [Ar.mk.injEq]; refine ⟨by omega, by omega, by omega, ?_⟩; rwa [List.take_of_length_le (by simp [pures]; omega), List.take_of_length_le (by simp [pures]; omega)] at heq, fun _ => rfl⟩, rfl⟩)
theorem rcopyA {w0 : World} {L : List HP} {id par size : Int} {ao : Option Addr} {cp : Nat} {rs : List RV} (hr : RdS w0 L 4 ao (rs.map cellsV)) (hdt : ∀ r ∈ rs, RdS w0 L 1 r.2.1 (ints .u8 r.1.data)) (hle : rs.length ≤ 1099511627776) (hdl : ∀ r ∈ rs, r.1.data.length ≤ 1099511627776) :
    CallOk Tb.P w0 L 19 [.agg #[.int .u64 id, .int .u64 par, .int .u64 size, .slice ao rs.length cp]] fun u L' => ∃ ao' cp' rs', pures rs' = pures rs ∧ u = .agg #[.int .u64 id, .int .u64 par, .int .u64 size, .slice ao' rs'.length cp'] ∧ L' = Rns ao' cp' rs' :: L := by
  refine enter Try.func19 rfl Try.ntmps19 (Nat.le_of_ble_eq_true rfl) ?_
  refine At.seq ?_
  refine At.reg rfl ?_
  refine Run.bx (h := fun g1 => ?_)
  refine Run.al Tb.Z28 (h := fun g2 => ?_)
  refine Run.fin ?_
  refine At.seq ?_
  refine At.reg rfl ?_
  refine Run.as (h := ?_)
  refine Run.fin ?_
  refine At.seq ?_
  refine At.seq ?_
  refine At.reg rfl ?_
  refine Run.as (h := ?_)
  refine Run.fin ?_
  refine At.block ?_
  refine At.chunks (fun _ hf => Rns_nil hf) ?_
  refine At.loop (α := Nat × List RV × Option Addr × Nat) (fun x => ⟨[(1, .pointer (some ⟨g1, 0, none⟩)), (2, .pointer (some ⟨g2, 0, none⟩)), (3, .slice x.2.2.1 x.2.1.length x.2.2.2), (4, .int .i64 x.1)], Rns x.2.2.1 x.2.2.2 x.2.1 :: cel g2 28 [.int .u64 0, .int .u64 0, .int .u64 0, .slice none 0 0] :: cel g1 28 [.int .u64 id, .int .u64 par, .int .u64 size, .slice ao rs.length cp] :: L, []⟩) (fun x => x.1 ≤ rs.length ∧ pures x.2.1 = (pures rs).take x.1) (fun x => rs.length - x.1) ((0, [], none, 0)) (⟨Nat.zero_le _, rfl⟩) (Ent.of (by repeat (first | exact SubE.nil | refine SubE.cons (by first | rfl | (show some _ = some _; simp; done)) ?_)) (by repeat (first | exact SubL.refl | refine SubL.cons (by repeat (first | exact Pick.here | apply Pick.there)) ?_ | refine SubL.skip ?_ | exact SubL.nil))) (fun x hx => ?_)
  obtain ⟨k, m, a1, c1⟩ := x
  dsimp only at hx ⊢
  obtain ⟨hk, hpm⟩ := hx
  refine At.seq ?_
  refine At.seq ?_
  refine At.reg rfl ?_
  refine Run.mv (h := ?_)
  refine Run.fa Tb.F28_3 (h := ?_)
  refine Run.ld Tb.A26 (h := ?_)
  refine Run.len Tb.L26 (h := ?_)
  refine Run.lt (h := ?_)
  refine Run.fin ?_
  refine At.cnd' (ht := fun hc10 => ?_) (hf := fun hc10 => ?_)
  · skip
    obtain ⟨x, hx⟩ : ∃ r, rs[k]? = some r := ⟨rs[k]'(by omega), List.getElem?_eq_getElem _⟩
    have hd := hdt x (List.mem_of_getElem? hx)
    have hml : m.length = k := by have := congrArg List.length hpm; simp [pures] at this; omega
    refine At.chunks (L' := row 76 4 a1 c1 (m.map cellsV) :: pack (m.map dat) :: cel g2 28 [.int .u64 0, .int .u64 0, .int .u64 0, .slice none 0 0] :: cel g1 28 [.int .u64 id, .int .u64 par, .int .u64 size, .slice ao rs.length cp] :: L) (fun _ hf => Rns_open.1 hf) ?_
    refine At.skip ?_
    refine At.seq ?_
    refine At.block ?_
    refine At.seq ?_
    refine At.reg rfl ?_
    refine Run.fa Tb.F28_3 (h := ?_)
    refine Run.ld Tb.A26 (h := ?_)
    refine Run.mv (h := ?_)
    refine Run.iaR (ht := Tb.L26) (hR := hr.sub) (hj := rfl) (h1 := by simp; omega) (hn := by omega) (h := ?_)
    refine Run.ldrA (ht := Tb.A76) (hn := Tb.S76) (hR := hr.sub) (hj := cells_at hx) (h := ?_)
    refine Run.al Tb.Z76 (h := fun g5 => ?_)
    refine Run.st Tb.S76 (h := ?_)
    refine Run.fin ?_
    refine At.seq ?_
    refine At.reg rfl ?_
    refine Run.fa Tb.F28_3 (h := ?_)
    refine Run.ld Tb.A26 (h := ?_)
    refine Run.mv (h := ?_)
    refine Run.iaR (ht := Tb.L26) (hR := hr.sub) (hj := rfl) (h1 := by simp; omega) (hn := by omega) (h := ?_)
    refine Run.fa Tb.F76_3 (h := ?_)
    refine Run.ldr (ht := Tb.A23) (hR := hr.sub) (hj := cells_at hx) (h := ?_)
    refine Run.call Tb.N11 (hc := rcopy (bs := x.1.data) hd.sub rfl (hdl x (List.mem_of_getElem? hx))) (h := ?_)
    rintro _ _ ⟨ao24, cp24, rfl, rfl⟩
    refine Run.fa Tb.F76_3 (h := ?_)
    refine Run.st Tb.S23 (h := ?_)
    refine Run.fin ?_
    refine At.reg rfl ?_
    refine Run.mv (h := ?_)
    refine Run.ldA Tb.A76 Tb.S76 (h := ?_)
    refine Run.bs Tb.G26 (h := fun g28 => ?_)
    refine Run.ap (ht := Tb.G26) (hR := .one (he := Els.nil.cons ⟨rfl, by simp [cellsV, Value.oneCell']⟩)) (hn := by simp) (n2 := (m ++ [(x.1, (ao24, cp24))]).length) (l2 := m.map cellsV ++ [cellsV (x.1, (ao24, cp24))]) (hl2 := rfl) (hn2 := by simp) (hlen := by simp [maxLen]; omega) (hby := by simp; omega) (h := fun ao29 cp29 => ?_)
    refine Run.as (h := ?_)
    refine Run.fin ?_
    refine At.inb_norm ?_
    refine At.reg rfl ?_
    refine Run.mv (h := ?_)
    refine Run.add (h := ?_)
    refine Run.eqi (b := ((k + 1 : Nat) : Int)) (by rw [wi64 (by omega) (by omega)]; omega) ?_
    refine Run.as (h := ?_)
    refine Run.fin ?_
    refine At.chunks (L' := Rns ao29 cp29 (m ++ [(x.1, (ao24, cp24))]) :: cel g2 28 [.int .u64 0, .int .u64 0, .int .u64 0, .slice none 0 0] :: cel g1 28 [.int .u64 id, .int .u64 par, .int .u64 size, .slice ao rs.length cp] :: L) (fun _ hf => Rns_snoc (SubL.star (by repeat (first | exact SubL.refl | refine SubL.cons (by repeat (first | exact Pick.here | apply Pick.there)) ?_ | refine SubL.skip ?_ | exact SubL.nil)) hf)) ?_
    exact At.again ((k + 1, m ++ [(x.1, (ao24, cp24))], ao29, cp29)) (⟨by dsimp only; omega, rv_snoc hpm hx _⟩) (by dsimp only; omega)
  · skip
    refine At.exit ?_
    refine At.then_exit ?_
    refine At.then_exit ?_
    refine At.inb_hit ?_
    refine At.seq ?_
    refine At.reg rfl ?_
    refine Run.mv (h := ?_)
    refine Run.fa Tb.F28_3 (h := ?_)
    refine Run.st Tb.S26 (h := ?_)
    refine Run.fin ?_
    refine At.seq ?_
    refine At.reg rfl ?_
    refine Run.ldA Tb.A28 Tb.S28 (h := ?_)
    refine Run.st Tb.S28 (h := ?_)
    refine Run.fin ?_
    refine At.ret ?_
    
    exact At.done (hΦ := by exact ⟨a1, c1, m, by rw [hpm, List.take_of_length_le (by simp [pures]; omega)], rfl, rfl⟩) (hres := ResR.block (ht := Tb.A28) (hn := Tb.S28) (k := ResR.nil))
theorem rsealed {w0 : World} {L : List HP} {bs : List Int} {ao : Option Addr} {n cp : Nat} {p m : Nat} (hb : RdS w0 L 1 ao (ints .u8 bs)) (hn : n = bs.length) (hcp : n ≤ cp) (hle : bs.length ≤ 549755813888) (hy : Byt bs) (hp : p + m + 4 ≤ bs.length) :
    CallOk Tb.P w0 L 52 [.slice ao n cp, .int .i64 p, .int .i64 m] fun u L' => ∃ b : Bool, u = .bool b ∧ (b = true ↔ bval (part bs (p + m) 4) = crcv (part bs p m)) ∧ L' = L := by
  refine enter Try.func52 rfl Try.ntmps52 (Nat.le_of_ble_eq_true rfl) ?_
  refine At.seq ?_
  refine At.reg rfl ?_
  refine Run.as (h := ?_)
  refine Run.fin ?_
  refine At.seq ?_
  refine At.reg rfl ?_
  refine Run.mv (h := ?_)
  refine Run.mv (h := ?_)
  refine Run.mv (h := ?_)
  refine Run.mv (h := ?_)
  refine Run.add (h := ?_)
  refine Run.eqi (b := ((p + m : Nat) : Int)) (by rw [wi64 (by omega) (by omega)]; omega) ?_
  refine Run.sl Tb.L23 (h0 := by omega) (h1 := by omega) (h2 := by omega) (hs := hb.plain (by simp; omega)) (hr := ?_)
  refine Run.call Tb.N44 (hc := rcrc (bs := part bs p m) (by rw [show ints .u8 (part bs (p) (m)) = ((ints .u8 bs).take (p + m)).drop (p) from ints_part.symm]; exact (hb.cut (a := p) (b := p + m) (by simp; omega) (by simp; omega)).sub) (by rw [part_length (by omega)]; omega) (by omega) (part_byt hy)) (h := ?_)
  rintro _ _ ⟨rfl, rfl⟩
  refine Run.as (h := ?_)
  refine Run.fin ?_
  refine At.seq ?_
  refine At.reg rfl ?_
  refine Run.mv (h := ?_)
  refine Run.mv (h := ?_)
  refine Run.mv (h := ?_)
  refine Run.add (h := ?_)
  refine Run.eqi (b := ((p + m : Nat) : Int)) (by rw [wi64 (by omega) (by omega)]; omega) ?_
  refine Run.mv (h := ?_)
  refine Run.mv (h := ?_)
  refine Run.add (h := ?_)
  refine Run.eqi (b := ((p + m : Nat) : Int)) (by rw [wi64 (by omega) (by omega)]; omega) ?_
  refine Run.add (h := ?_)
  refine Run.eqi (b := ((p + m + 4 : Nat) : Int)) (by rw [wi64 (by omega) (by omega)]; omega) ?_
  refine Run.sl Tb.L23 (h0 := by omega) (h1 := by omega) (h2 := by omega) (hs := hb.plain (by simp; omega)) (hr := ?_)
  refine Run.call Tb.N53 (hc := rvalue (bs := part bs (p + m) 4) (by rw [show ints .u8 (part bs (p + m) (4)) = ((ints .u8 bs).take (p + m + 4)).drop (p + m) from ints_part.symm]; exact (hb.cut (a := p + m) (b := p + m + 4) (by simp; omega) (by simp; omega)).sub) (by rw [part_length (by omega)]; omega) (part_byt hy) (by omega)) (h := ?_)
  rintro _ _ ⟨rfl, rfl⟩
  refine Run.mv (h := ?_)
  refine Run.cvf Tb.I90 Tb.I22 (hw := by have h := crcv_range (part bs p m); exact wu64 h.1 (by omega)) (h := ?_)
  refine Run.eq (h := ?_)
  refine Run.as (h := ?_)
  refine Run.fin ?_
  refine At.ret ?_
  exact At.done (hΦ := by exact ⟨_, rfl, by simp, rfl⟩)
theorem rdecode {w0 : World} {L : List HP} {bs : List Int} {ao : Option Addr} {n cp : Nat} (hb : RdS w0 L 1 ao (ints .u8 bs)) (hn : n = bs.length) (hcp : n ≤ cp) (hle : bs.length ≤ 549755813888) (hy : Byt bs) :
    CallOk Tb.P w0 L 23 [.slice ao n cp] fun u L' => decPost w0 bs L u L' := by
  refine enter Try.func23 rfl Try.ntmps23 (Nat.le_of_ble_eq_true rfl) ?_
  refine At.seq ?_
  refine At.reg rfl ?_
  refine Run.al Tb.Z28 (h := fun g2 => ?_)
  refine Run.as (h := ?_)
  refine Run.fin ?_
  refine At.seq ?_
  refine At.seq ?_
  refine At.reg rfl ?_
  refine Run.mv (h := ?_)
  refine Run.len Tb.L23 (h := ?_)
  refine Run.lt (h := ?_)
  refine Run.fin ?_
  refine At.cnd' (ht := fun hc12 => ?_) (hf := fun hc12 => ?_)
  · skip
    refine At.seq ?_
    refine At.reg rfl ?_
    refine Run.bd Tb.B28 (h := ?_)
    refine Run.st Tb.S28 (h := ?_)
    refine Run.as (h := ?_)
    refine Run.fin ?_
    refine At.ret ?_
    refine At.then_ret ?_
    exact At.done (hΦ := by exact .inl ⟨252, by rw [dec, if_pos (by unfold short; omega)], rfl, rfl⟩) (hres := ResR.block (ht := Tb.A28) (hn := Tb.S28) (k := ResR.tmp rfl ResR.nil))
  · skip
    refine At.skip ?_
    refine At.seq ?_
    refine At.reg rfl ?_
    refine Run.mv (h := ?_)
    refine Run.call Tb.N52 (hc := rsealed (p := 0) (m := 40) hb.sub hn hcp hle hy (by omega)) (h := ?_)
    rintro _ _ ⟨b1, rfl, hb1, rfl⟩
    refine Run.as (h := ?_)
    refine Run.fin ?_
    refine At.seq ?_
    refine At.seq ?_
    refine At.reg rfl ?_
    refine Run.mv (h := ?_)
    refine Run.slH Tb.L23 (h1 := by omega) (h2 := by omega) (hs := hb.plain (by simp; omega)) (hr := ?_)
    refine Run.call Tb.N53 (hc := rvalue (bs := part bs (0) 8) (by rw [show ints .u8 (part bs (0) (8)) = ((ints .u8 bs).take (0 + 8)).drop (0) from ints_part.symm]; exact (hb.cut (a := 0) (b := 0 + 8) (by simp; omega) (by simp; omega)).sub) (by rw [part_length (by omega)]; omega) (part_byt hy) (by omega)) (hin := fun _ => ⟨_, _, rfl, rfl⟩) (h := ?_)
    rintro _ _ ⟨rfl, rfl⟩
    refine Run.ne (h := ?_)
    refine Run.mv (h := ?_)
    refine Run.orB 2 4 (ht := fun hg23 => by
        refine Run.mv (h := ?_)
        refine Run.not (h := ?_)
        exact Run.fin_sc ScEnd.here) (hrest := ?_)
    refine Run.fin ?_
    refine At.cnd' (ht := fun hc23 => ?_) (hf := fun hc23 => ?_)
    · skip
      refine At.seq ?_
      refine At.reg rfl ?_
      refine Run.bd Tb.B28 (h := ?_)
      refine Run.st Tb.S28 (h := ?_)
      refine Run.as (h := ?_)
      refine Run.fin ?_
      refine At.ret ?_
      refine At.then_ret ?_
      have hsh : ¬ short bs 0 40 := by unfold short; omega
      have he : dec bs = .inl 253 := by
        rw [dec, if_neg hsh]
        by_cases hm : bval (part bs 0 8) ≠ 6003378903737058097
        · rw [if_pos hm]
        · rw [if_neg hm]
          have h2 : bytesE bs 0 40 = some 253 := by rw [bytesE, if_neg hsh]; exact if_neg (fun h => hc23.elim hm (fun h1 => h1 (hb1.2 h)))
          rw [h2]
      exact At.done (hΦ := by exact .inl ⟨253, he, rfl, rfl⟩) (hres := ResR.block (ht := Tb.A28) (hn := Tb.S28) (k := ResR.tmp rfl ResR.nil))
    · skip
      refine At.skip ?_
      refine At.seq ?_
      have hsh : ¬ short bs 0 40 := by unfold short; omega
      have hmg : ¬ bval (part bs 0 8) ≠ 6003378903737058097 := fun h => hc23 (.inl h)
      have hb40 : bytesE bs 0 40 = none := by rw [bytesE, if_neg hsh]; exact if_pos (hb1.1 (Decidable.byContradiction fun h => hc23 (.inr h)))
      have hl40 : (part bs 0 40).length = 40 := part_length (by omega)
      have hy40 : Byt (part bs 0 40) := part_byt hy
      have hp8 : ∀ k, k + 8 ≤ 40 → bval (part bs k 8) = hdP bs k := fun k hk => by rw [hdP, part_sub hk, Nat.zero_add]
      have hNb : ∀ k, k + 8 ≤ 40 → 0 ≤ hdP bs k ∧ hdP bs k < 18446744073709551616 := fun k hk => bval_u64 (part_byt hy40) (by rw [part_length (by omega)]; omega)
      refine At.draw [(0, 0), (1, 0), (3, 0), (4, 0), (6, 0), (7, 0), (2, 4), (5, 4), (8, 4), (9, 0), (10, 2), (11, 3)] Tb.mixed (by kernel_rfl) ?_
      refine Run.mv (h := ?_)
      refine Run.sl Tb.L23 (h0 := by omega) (h1 := by omega) (h2 := by omega) (hs := hb.plain (by simp; omega)) (hr := ?_)
      refine Run.mv (h := ?_)
      refine Run.sl Tb.L23 (h0 := by omega) (h1 := by omega) (h2 := by omega) (hs := hb.plain (by simp; omega)) (hr := ?_)
      refine Run.mv (h := ?_)
      refine Run.sl Tb.L23 (h0 := by omega) (h1 := by omega) (h2 := by omega) (hs := hb.plain (by simp; omega)) (hr := ?_)
      refine Run.call4 Tb.N53 (hc := CallOk.frame0 (fun L2 hL => rvalue (bs := part bs (8) 8) (RdS.ent (by rw [show ints .u8 (part bs (8) (8)) = ((ints .u8 bs).take (8 + 8)).drop (8) from ints_part.symm]; exact (hb.cut (a := 8) (b := 8 + 8) (by simp; omega) (by simp; omega)).sub) hL) (by rw [part_length (by omega)]; omega) (part_byt hy) (by omega))) (hin := fun _ => ⟨_, _, rfl, rfl⟩) (hk := noun (by kernel_rfl)) (h := ?_)
      rintro _ _ ⟨rfl, rfl⟩
      refine Run.eqi (b := hdP bs 8) (hp8 _ (by omega)) ?_
      refine Run.call4 Tb.N53 (hc := CallOk.frame0 (fun L2 hL => rvalue (bs := part bs (16) 8) (RdS.ent (by rw [show ints .u8 (part bs (16) (8)) = ((ints .u8 bs).take (16 + 8)).drop (16) from ints_part.symm]; exact (hb.cut (a := 16) (b := 16 + 8) (by simp; omega) (by simp; omega)).sub) hL) (by rw [part_length (by omega)]; omega) (part_byt hy) (by omega))) (hin := fun _ => ⟨_, _, rfl, rfl⟩) (hk := noun (by kernel_rfl)) (h := ?_)
      rintro _ _ ⟨rfl, rfl⟩
      refine Run.eqi (b := hdP bs 16) (hp8 _ (by omega)) ?_
      refine Run.call4 Tb.N53 (hc := CallOk.frame0 (fun L2 hL => rvalue (bs := part bs (24) 8) (RdS.ent (by rw [show ints .u8 (part bs (24) (8)) = ((ints .u8 bs).take (24 + 8)).drop (24) from ints_part.symm]; exact (hb.cut (a := 24) (b := 24 + 8) (by simp; omega) (by simp; omega)).sub) hL) (by rw [part_length (by omega)]; omega) (part_byt hy) (by omega))) (hin := fun _ => ⟨_, _, rfl, rfl⟩) (hk := noun (by kernel_rfl)) (h := ?_)
      rintro _ _ ⟨rfl, rfl⟩
      refine Run.eqi (b := hdP bs 24) (hp8 _ (by omega)) ?_
      refine Run.bd Tb.B28 (h := ?_)
      refine Run.al Tb.Z28 (h := fun g5 => ?_)
      refine Run.st Tb.S28 (hk := noun (by kernel_rfl)) (h := ?_)
      refine Run.fin ?_
      refine At.seq ?_
      refine At.reg rfl ?_
      refine Run.mv (h := ?_)
      refine Run.sl Tb.L23 (h0 := by omega) (h1 := by omega) (h2 := by omega) (hs := hb.plain (by simp; omega)) (hr := ?_)
      refine Run.call Tb.N53 (hc := rvalue (bs := part bs (32) 8) (by rw [show ints .u8 (part bs (32) (8)) = ((ints .u8 bs).take (32 + 8)).drop (32) from ints_part.symm]; exact (hb.cut (a := 32) (b := 32 + 8) (by simp; omega) (by simp; omega)).sub) (by rw [part_length (by omega)]; omega) (part_byt hy) (by omega)) (hin := fun _ => ⟨_, _, rfl, rfl⟩) (h := ?_)
      rintro _ _ ⟨rfl, rfl⟩
      refine Run.eqi (b := hdP bs 32) (hp8 _ (by omega)) ?_
      refine Run.as (h := ?_)
      refine Run.fin ?_
      refine At.seq ?_
      refine At.reg rfl ?_
      refine Run.as (h := ?_)
      refine Run.fin ?_
      refine At.seq ?_
      refine At.seq ?_
      refine At.reg rfl ?_
      refine Run.as (h := ?_)
      refine Run.fin ?_
      refine At.block ?_
      have hN32 := hNb 32 (by omega)
      refine At.say 6 (.int .u64 (hdP bs 32).toNat) (e := by rw [Int.toNat_of_nonneg hN32.1]) (h := ?_)
      refine At.chunks (fun _ hf => Rns_nil hf) ?_
      refine At.loop (α := Nat × Nat × List RV × Option Addr × Nat) (fun x => ⟨[(0, .slice ao n cp), (2, .pointer (some ⟨g2, 0, none⟩)), (5, .pointer (some ⟨g5, 0, none⟩)), (6, .int .u64 (hdP bs 32).toNat), (7, .int .i64 x.2.1), (8, .int .u64 (x.1 : Nat))], cel g5 28 [.int .u64 (hdP bs 8), .int .u64 (hdP bs 16), .int .u64 (hdP bs 24), .slice x.2.2.2.1 x.2.2.1.length x.2.2.2.2] :: cel g2 28 [.int .u64 0, .int .u64 0, .int .u64 0, .slice none 0 0] :: Rns x.2.2.2.1 x.2.2.2.2 x.2.2.1 :: L, []⟩) (fun x => x.1 ≤ (hdP bs 32).toNat ∧ x.2.1 ≤ bs.length ∧ 44 + 21 * x.2.2.1.length ≤ x.2.1 ∧ (∀ r ∈ x.2.2.1, RnOk r.1) ∧ decRuns bs (hdP bs 32).toNat 44 = goOn (pures x.2.2.1) (decRuns bs ((hdP bs 32).toNat - x.1) x.2.1)) (fun x => (hdP bs 32).toNat - x.1) ((0, 44, [], none, 0)) (⟨Nat.zero_le _, by dsimp only; omega, by simp, by simp, (goOn_nil _).symm⟩) (Ent.of (by repeat (first | exact SubE.nil | refine SubE.cons (by first | rfl | (show some _ = some _; simp; done)) ?_)) (by repeat (first | exact SubL.refl | refine SubL.cons (by repeat (first | exact Pick.here | apply Pick.there)) ?_ | refine SubL.skip ?_ | exact SubL.nil))) (fun x hx => ?_)
      obtain ⟨i, p, rs, a1, c1⟩ := x
      dsimp only at hx ⊢
      obtain ⟨hi, hp1, hp2, hok, hgo⟩ := hx
      refine At.seq ?_
      refine At.seq ?_
      refine At.reg rfl ?_
      refine Run.mv (h := ?_)
      refine Run.mv (h := ?_)
      refine Run.lt (h := ?_)
      refine Run.fin ?_
      refine At.cnd' (ht := fun hc40 => ?_) (hf := fun hc40 => ?_)
      · skip
        refine At.skip ?_
        refine At.seq ?_
        refine At.block ?_
        refine At.seq ?_
        refine At.seq ?_
        have hki : (hdP bs 32).toNat - i = ((hdP bs 32).toNat - (i + 1)) + 1 := by omega
        refine At.chunks (L' := row 76 4 a1 c1 (rs.map cellsV) :: pack (rs.map dat) :: cel g5 28 [.int .u64 (hdP bs 8), .int .u64 (hdP bs 16), .int .u64 (hdP bs 24), .slice a1 rs.length c1] :: cel g2 28 [.int .u64 0, .int .u64 0, .int .u64 0, .slice none 0 0] :: L) (fun _ hf => Rns_open.1 ((Pick.there (.there .here)).star hf)) ?_
        refine At.reg rfl ?_
        refine Run.mv (h := ?_)
        refine Run.len Tb.L23 (h := ?_)
        refine Run.mv (h := ?_)
        refine Run.sub (h := ?_)
        refine Run.eqi (b := ((bs.length - p : Nat) : Int)) (by rw [wi64 (by omega) (by omega)]; omega) ?_
        refine Run.lt (h := ?_)
        refine Run.fin ?_
        refine At.cnd' (ht := fun hc47 => ?_) (hf := fun hc47 => ?_)
        · skip
          refine At.seq ?_
          refine At.reg rfl ?_
          refine Run.bd Tb.B28 (h := ?_)
          refine Run.st Tb.S28 (h := ?_)
          refine Run.as (h := ?_)
          refine Run.fin ?_
          refine At.ret ?_
          refine At.then_ret ?_
          refine At.inb_ret ?_
          refine At.then_ret ?_
          refine At.then_ret ?_
          refine At.inb_ret ?_
          refine At.then_ret ?_
          exact At.done (hΦ := by exact .inl ⟨252, by rw [dec, if_neg hsh, if_neg hmg, hb40]; dsimp only; rw [hgo, hki, goOn_err (e := 252) (by rw [decRun, bytesE, if_pos (by unfold short; omega)])], rfl, rfl⟩) (hres := ResR.block (ht := Tb.A28) (hn := Tb.S28) (k := ResR.tmp rfl ResR.nil))
        · skip
          refine At.skip ?_
          refine At.seq ?_
          have hs17 : ¬ short bs p 17 := by unfold short; omega
          refine At.reg rfl ?_
          refine Run.mv (h := ?_)
          refine Run.mv (h := ?_)
          refine Run.call Tb.N52 (hc := rsealed (p := p) (m := 17) hb.sub hn hcp hle hy (by omega)) (h := ?_)
          rintro _ _ ⟨b2, rfl, hb2, rfl⟩
          refine Run.as (h := ?_)
          refine Run.fin ?_
          refine At.seq ?_
          refine At.seq ?_
          refine At.reg rfl ?_
          refine Run.mv (h := ?_)
          refine Run.not (h := ?_)
          refine Run.fin ?_
          refine At.cnd' (ht := fun hc53 => ?_) (hf := fun hc53 => ?_)
          · skip
            refine At.seq ?_
            refine At.reg rfl ?_
            refine Run.bd Tb.B28 (h := ?_)
            refine Run.st Tb.S28 (h := ?_)
            refine Run.as (h := ?_)
            refine Run.fin ?_
            refine At.ret ?_
            refine At.then_ret ?_
            refine At.inb_ret ?_
            refine At.then_ret ?_
            refine At.then_ret ?_
            refine At.inb_ret ?_
            refine At.then_ret ?_
            exact At.done (hΦ := by exact .inl ⟨253, by rw [dec, if_neg hsh, if_neg hmg, hb40]; dsimp only; rw [hgo, hki, goOn_err (e := 253) (by rw [decRun, show bytesE bs p 17 = some 253 by rw [bytesE, if_neg hs17]; exact if_neg (fun h => hc53 (hb2.2 h))])], rfl, rfl⟩) (hres := ResR.block (ht := Tb.A28) (hn := Tb.S28) (k := ResR.tmp rfl ResR.nil))
          · skip
            refine At.skip ?_
            refine At.seq ?_
            have hb17 : bytesE bs p 17 = none := by rw [bytesE, if_neg hs17]; exact if_pos (hb2.1 (Decidable.byContradiction fun h => hc53 h))
            have hl17 : (part bs p 17).length = 17 := part_length (by omega)
            have hy17 : Byt (part bs p 17) := part_byt hy
            obtain ⟨hO, hOe⟩ : ∃ v, v = bval (part (part bs p 17) 0 8) := ⟨_, rfl⟩
            obtain ⟨hN, hNe⟩ : ∃ v, v = bval (part (part bs p 17) 8 8) := ⟨_, rfl⟩
            obtain ⟨hK, hKe⟩ : ∃ v, v = bval (part (part bs p 17) 16 1) := ⟨_, rfl⟩
            have hO1 : 0 ≤ hO ∧ hO < 18446744073709551616 := by rw [hOe]; exact bval_u64 (part_byt hy17) (by rw [part_length (by omega)]; omega)
            have hN1 : 0 ≤ hN ∧ hN < 18446744073709551616 := by rw [hNe]; exact bval_u64 (part_byt hy17) (by rw [part_length (by omega)]; omega)
            have hdr : decRun bs p = if 1 < hK then .inl 250 else if hK = 0 then .inr (⟨hO, hN, true, []⟩, p + 21) else match bytesE bs (p + 21) hN with
                | some e => .inl e
                | none => .inr (⟨hO, hN, false, part bs (p + 21) hN.toNat⟩, p + 21 + hN.toNat + 4) := by rw [decRun, hb17, ← hOe, ← hNe, ← hKe]; rfl
            refine At.draw [(0, 0), (1, 0), (2, 0), (3, 0), (4, 0), (6, 0), (7, 0), (8, 0), (9, 0), (10, 0), (11, 0), (13, 0), (14, 0), (15, 0), (16, 0), (17, 1), (18, 0), (5, 4), (12, 4), (19, 0), (20, 2), (21, 3)] Tb.mixed (by kernel_rfl) ?_
            refine Run.mv (h := ?_)
            refine Run.mv (h := ?_)
            refine Run.mv (h := ?_)
            refine Run.add (h := ?_)
            refine Run.eqi (b := ((p + 8 : Nat) : Int)) (by rw [wi64 (by omega) (by omega)]; omega) ?_
            refine Run.sl Tb.L23 (h0 := by omega) (h1 := by omega) (h2 := by omega) (hs := hb.plain (by simp; omega)) (hr := ?_)
            refine Run.mv (h := ?_)
            refine Run.mv (h := ?_)
            refine Run.add (h := ?_)
            refine Run.eqi (b := ((p + 8 : Nat) : Int)) (by rw [wi64 (by omega) (by omega)]; omega) ?_
            refine Run.mv (h := ?_)
            refine Run.add (h := ?_)
            refine Run.eqi (b := ((p + 16 : Nat) : Int)) (by rw [wi64 (by omega) (by omega)]; omega) ?_
            refine Run.sl Tb.L23 (h0 := by omega) (h1 := by omega) (h2 := by omega) (hs := hb.plain (by simp; omega)) (hr := ?_)
            refine Run.mv (h := ?_)
            refine Run.mv (h := ?_)
            refine Run.add (h := ?_)
            refine Run.eqi (b := ((p + 16 : Nat) : Int)) (by rw [wi64 (by omega) (by omega)]; omega) ?_
            refine Run.iaR (ht := Tb.L23) (hR := hb.sub) (hj := rfl) (h1 := by simp; omega) (hn := by omega) (h := ?_)
            refine Run.ldr0 (ht := Tb.A5) (hR := hb.sub) (hj := Sx.ints_at (by omega)) (h := ?_)
            refine Run.eqi (b := hK) (by rw [hKe, part_sub (by omega), bval1 (by omega)]) ?_
            refine Run.eq (h := ?_)
            refine Run.call4 Tb.N53 (hc := CallOk.frame0 (fun L2 hL => rvalue (bs := part bs (p) 8) (RdS.ent (by rw [show ints .u8 (part bs (p) (8)) = ((ints .u8 bs).take (p + 8)).drop (p) from ints_part.symm]; exact (hb.cut (a := p) (b := p + 8) (by simp; omega) (by simp; omega)).sub) hL) (by rw [part_length (by omega)]; omega) (part_byt hy) (by omega))) (hin := fun _ => ⟨_, _, rfl, rfl⟩) (hk := hkUse (fun _ _ hPhi w hs => by obtain ⟨rfl, rfl⟩ := hPhi; dsimp only; exact ldr0_fact hs Tb.A5 (hR := hb.sub) (hj := Sx.ints_at (by omega))) (hkNil)) (h := ?_)
            rintro _ _ ⟨rfl, rfl⟩
            refine Run.eqi (b := hO) (by rw [hOe, part_sub (by omega), Nat.add_zero]) ?_
            refine Run.call4 Tb.N53 (hc := CallOk.frame0 (fun L2 hL => rvalue (bs := part bs (p + 8) 8) (RdS.ent (by rw [show ints .u8 (part bs (p + 8) (8)) = ((ints .u8 bs).take (p + 8 + 8)).drop (p + 8) from ints_part.symm]; exact (hb.cut (a := p + 8) (b := p + 8 + 8) (by simp; omega) (by simp; omega)).sub) hL) (by rw [part_length (by omega)]; omega) (part_byt hy) (by omega))) (hin := fun _ => ⟨_, _, rfl, rfl⟩) (hk := hkUse (fun _ _ hPhi w hs => by obtain ⟨rfl, rfl⟩ := hPhi; dsimp only; exact ldr0_fact hs Tb.A5 (hR := hb.sub) (hj := Sx.ints_at (by omega))) (hkNil)) (h := ?_)
            rintro _ _ ⟨rfl, rfl⟩
            refine Run.eqi (b := hN) (by rw [hNe, part_sub (by omega)]) ?_
            refine Run.bd Tb.B76 (h := ?_)
            refine Run.al Tb.Z76 (h := fun g9 => ?_)
            refine Run.st Tb.S76 (hk := noun (by kernel_rfl)) (h := ?_)
            refine Run.fin ?_
            refine At.seq ?_
            refine At.seq ?_
            refine At.reg rfl ?_
            refine Run.mv (h := ?_)
            refine Run.mv (h := ?_)
            refine Run.add (h := ?_)
            refine Run.eqi (b := ((p + 16 : Nat) : Int)) (by rw [wi64 (by omega) (by omega)]; omega) ?_
            refine Run.iaR (ht := Tb.L23) (hR := hb.sub) (hj := rfl) (h1 := by simp; omega) (hn := by omega) (h := ?_)
            refine Run.ldr0 (ht := Tb.A5) (hR := hb.sub) (hj := Sx.ints_at (by omega)) (h := ?_)
            refine Run.eqi (b := hK) (by rw [hKe, part_sub (by omega), bval1 (by omega)]) ?_
            refine Run.gt (h := ?_)
            refine Run.fin ?_
            refine At.cnd' (ht := fun hc80 => ?_) (hf := fun hc80 => ?_)
            · skip
              refine At.seq ?_
              refine At.reg rfl ?_
              refine Run.bd Tb.B28 (h := ?_)
              refine Run.st Tb.S28 (h := ?_)
              refine Run.as (h := ?_)
              refine Run.fin ?_
              refine At.ret ?_
              refine At.then_ret ?_
              refine At.inb_ret ?_
              refine At.then_ret ?_
              refine At.then_ret ?_
              refine At.inb_ret ?_
              refine At.then_ret ?_
              exact At.done (hΦ := by exact .inl ⟨250, by rw [dec, if_neg hsh, if_neg hmg, hb40]; dsimp only; rw [hgo, hki, goOn_err (e := 250) (by rw [hdr, if_pos hc80])], rfl, rfl⟩) (hres := ResR.block (ht := Tb.A28) (hn := Tb.S28) (k := ResR.tmp rfl ResR.nil))
            · skip
              have hk1 : ¬ 1 < hK := hc80
              refine At.skip ?_
              refine At.seq ?_
              refine At.reg rfl ?_
              refine Run.mv (h := ?_)
              refine Run.add (h := ?_)
              refine Run.eqi (b := ((p + 21 : Nat) : Int)) (by rw [wi64 (by omega) (by omega)]; omega) ?_
              refine Run.as (h := ?_)
              refine Run.fin ?_
              refine At.seq ?_
              refine At.cut (α := Rn × Nat × Option Addr × Nat) (fun x => ⟨[(0, .slice ao n cp), (2, .pointer (some ⟨g2, 0, none⟩)), (5, .pointer (some ⟨g5, 0, none⟩)), (6, .int .u64 (hdP bs 32).toNat), (7, .int .i64 x.2.1), (8, .int .u64 (i : Nat)), (9, .pointer (some ⟨g9, 0, none⟩))], row 76 4 a1 c1 (rs.map cellsV) :: pack (rs.map dat) :: cel g9 76 [.int .u64 x.1.off, .int .u64 x.1.len, .bool x.1.hole, .slice x.2.2.1 x.1.data.length x.2.2.2] :: row 5 1 x.2.2.1 x.2.2.2 (ints .u8 x.1.data) :: cel g5 28 [.int .u64 (hdP bs 8), .int .u64 (hdP bs 16), .int .u64 (hdP bs 24), .slice a1 rs.length c1] :: cel g2 28 [.int .u64 0, .int .u64 0, .int .u64 0, .slice none 0 0] :: L, []⟩) (fun x => decRun bs p = .inr (x.1, x.2.1) ∧ p + 21 ≤ x.2.1 ∧ x.2.1 ≤ bs.length ∧ RnOk x.1) ?_ (fun x hx => ?_)
              · skip
                refine At.seq ?_
                refine At.reg rfl ?_
                refine Run.fa Tb.F76_2 (h := ?_)
                refine Run.ld Tb.A4 (h := ?_)
                refine Run.not (h := ?_)
                refine Run.fin ?_
                refine At.cnd' (ht := fun hc86 => ?_) (hf := fun hc86 => ?_)
                · skip
                  have hk0 : ¬ hK = 0 := hc86
                  refine At.seq ?_
                  refine At.seq ?_
                  refine At.reg rfl ?_
                  refine Run.mv (h := ?_)
                  refine Run.len Tb.L23 (h := ?_)
                  refine Run.mv (h := ?_)
                  refine Run.sub (h := ?_)
                  refine Run.eqi (b := ((bs.length - (p + 21) : Nat) : Int)) (by rw [wi64 (by omega) (by omega)]; omega) ?_
                  refine Run.lt (h := ?_)
                  refine Run.mv (h := ?_)
                  refine Run.orB 9 5 (ht := fun hg102 => by
                      refine Run.fa Tb.F76_1 (h := ?_)
                      refine Run.ld Tb.A22 (h := ?_)
                      refine Run.mv (h := ?_)
                      refine Run.len Tb.L23 (h := ?_)
                      refine Run.mv (h := ?_)
                      refine Run.sub (h := ?_)
                      refine Run.eqi (b := ((bs.length - (p + 21) : Nat) : Int)) (by rw [wi64 (by omega) (by omega)]; omega) ?_
                      refine Run.sub (h := ?_)
                      refine Run.eqi (b := ((bs.length - (p + 21) - 4 : Nat) : Int)) (by rw [wi64 (by omega) (by omega)]; omega) ?_
                      refine Run.cvf Tb.I3 Tb.I22 (hw := by exact wu64 (by omega) (by omega)) (h := ?_)
                      refine Run.gt (h := ?_)
                      exact Run.fin_sc ScEnd.here) (hrest := ?_)
                  refine Run.fin ?_
                  refine At.cnd' (ht := fun hc102 => ?_) (hf := fun hc102 => ?_)
                  · skip
                    refine At.seq ?_
                    refine At.reg rfl ?_
                    refine Run.bd Tb.B28 (h := ?_)
                    refine Run.st Tb.S28 (h := ?_)
                    refine Run.as (h := ?_)
                    refine Run.fin ?_
                    refine At.ret ?_
                    refine At.then_ret ?_
                    refine At.then_ret ?_
                    exact At.done (hΦ := by exact .inl ⟨252, by rw [dec, if_neg hsh, if_neg hmg, hb40]; dsimp only; rw [hgo, hki, goOn_err (e := 252) (by rw [hdr, if_neg hk1, if_neg hk0, bytesE, if_pos (by unfold short; omega)])], rfl, rfl⟩) (hres := ResR.block (ht := Tb.A28) (hn := Tb.S28) (k := ResR.tmp rfl ResR.nil))
                  · skip
                    have hs3 : ¬ short bs (p + 21) hN := by unfold short; omega
                    refine At.skip ?_
                    refine At.seq ?_
                    refine At.reg rfl ?_
                    refine Run.mv (h := ?_)
                    refine Run.mv (h := ?_)
                    refine Run.fa Tb.F76_1 (h := ?_)
                    refine Run.ld Tb.A22 (h := ?_)
                    refine Run.cv Tb.I22 Tb.I3 (h := ?_)
                    refine Run.eqi (b := ((hN.toNat : Nat) : Int)) (by rw [wi64 (by omega) (by omega)]; omega) ?_
                    refine Run.call Tb.N52 (hc := rsealed (p := p + 21) (m := hN.toNat) hb.sub hn hcp hle hy (by omega)) (h := ?_)
                    rintro _ _ ⟨b3, rfl, hb3, rfl⟩
                    refine Run.as (h := ?_)
                    refine Run.fin ?_
                    refine At.seq ?_
                    refine At.seq ?_
                    refine At.reg rfl ?_
                    refine Run.mv (h := ?_)
                    refine Run.not (h := ?_)
                    refine Run.fin ?_
                    refine At.cnd' (ht := fun hc111 => ?_) (hf := fun hc111 => ?_)
                    · skip
                      refine At.seq ?_
                      refine At.reg rfl ?_
                      refine Run.bd Tb.B28 (h := ?_)
                      refine Run.st Tb.S28 (h := ?_)
                      refine Run.as (h := ?_)
                      refine Run.fin ?_
                      refine At.ret ?_
                      refine At.then_ret ?_
                      refine At.then_ret ?_
                      exact At.done (hΦ := by exact .inl ⟨253, by rw [dec, if_neg hsh, if_neg hmg, hb40]; dsimp only; rw [hgo, hki, goOn_err (e := 253) (by rw [hdr, if_neg hk1, if_neg hk0, show bytesE bs (p + 21) hN = some 253 by rw [bytesE, if_neg hs3]; exact if_neg (fun h => hc111 (hb3.2 h))])], rfl, rfl⟩) (hres := ResR.block (ht := Tb.A28) (hn := Tb.S28) (k := ResR.tmp rfl ResR.nil))
                    · skip
                      have hbd : bytesE bs (p + 21) hN = none := by rw [bytesE, if_neg hs3]; exact if_pos (hb3.1 (Decidable.byContradiction fun h => hc111 h))
                      refine At.skip ?_
                      refine At.seq ?_
                      refine At.reg rfl ?_
                      refine Run.mv (h := ?_)
                      refine Run.mv (h := ?_)
                      refine Run.mv (h := ?_)
                      refine Run.fa Tb.F76_1 (h := ?_)
                      refine Run.ld Tb.A22 (h := ?_)
                      refine Run.cv Tb.I22 Tb.I3 (h := ?_)
                      refine Run.eqi (b := ((hN.toNat : Nat) : Int)) (by rw [wi64 (by omega) (by omega)]; omega) ?_
                      refine Run.add (h := ?_)
                      refine Run.eqi (b := ((p + 21 + hN.toNat : Nat) : Int)) (by rw [wi64 (by omega) (by omega)]; omega) ?_
                      refine Run.sl Tb.L23 (h0 := by omega) (h1 := by omega) (h2 := by omega) (hs := hb.plain (by simp; omega)) (hr := ?_)
                      refine Run.call Tb.N11 (hc := rcopy (bs := part bs (p + 21) hN.toNat) (n := p + 21 + hN.toNat - (p + 21)) (by rw [show ints .u8 (part bs (p + 21) (hN.toNat)) = ((ints .u8 bs).take (p + 21 + hN.toNat)).drop (p + 21) from ints_part.symm]; exact (hb.cut (a := p + 21) (b := p + 21 + hN.toNat) (by simp; omega) (by simp; omega)).sub) (by rw [part_length (by omega)]; omega) (by omega)) (h := ?_)
                      rintro _ _ ⟨ao121, cp121, rfl, rfl⟩
                      rw [show p + 21 + hN.toNat - (p + 21) = (part bs (p + 21) hN.toNat).length by rw [part_length (by omega)]; omega]
                      refine Run.fa Tb.F76_3 (h := ?_)
                      refine Run.st Tb.S23 (h := ?_)
                      refine Run.fin ?_
                      refine At.reg rfl ?_
                      refine Run.mv (h := ?_)
                      refine Run.fa Tb.F76_1 (h := ?_)
                      refine Run.ld Tb.A22 (h := ?_)
                      refine Run.cv Tb.I22 Tb.I3 (h := ?_)
                      refine Run.eqi (b := ((hN.toNat : Nat) : Int)) (by rw [wi64 (by omega) (by omega)]; omega) ?_
                      refine Run.add (h := ?_)
                      refine Run.eqi (b := ((p + 21 + hN.toNat : Nat) : Int)) (by rw [wi64 (by omega) (by omega)]; omega) ?_
                      refine Run.add (h := ?_)
                      refine Run.eqi (b := ((p + 21 + hN.toNat + 4 : Nat) : Int)) (by rw [wi64 (by omega) (by omega)]; omega) ?_
                      refine Run.as (h := ?_)
                      refine Run.fin ?_
                      exact At.join ((⟨hO, hN, decide (hK = 0), part bs (p + 21) hN.toNat⟩, p + 21 + hN.toNat + 4, ao121, cp121)) (⟨by rw [decide_eq_false hk0, hdr, if_neg hk1, if_neg hk0, hbd], by dsimp only; omega, by dsimp only; omega, hO1.1, hO1.2, hN1.1, hN1.2, by dsimp only; rw [part_length (by omega)]; omega, part_byt hy⟩)
                · skip
                  have hk0 : hK = 0 := Decidable.not_not.1 hc86
                  refine At.chunks (fun _ hf => Star.nilRow (e := 5) (sz := 1) hf) ?_
                  refine At.skip ?_
                  exact At.join ((⟨hO, hN, decide (hK = 0), []⟩, p + 21, none, 0)) (⟨by rw [decide_eq_true hk0, hdr, if_neg hk1, if_pos hk0], by dsimp only; omega, by dsimp only; omega, hO1.1, hO1.2, hN1.1, hN1.2, by simp, fun _ h => by cases h⟩)
              · skip
                obtain ⟨r, p', d⟩ := x
                dsimp only at hx ⊢
                obtain ⟨hr1, hr2, hr3, hr4⟩ := hx
                refine At.reg rfl ?_
                refine Run.fa Tb.F28_3 (h := ?_)
                refine Run.ld Tb.A26 (h := ?_)
                refine Run.ldA Tb.A76 Tb.S76 (h := ?_)
                refine Run.bs Tb.G26 (h := fun g132 => ?_)
                refine Run.ap (ht := Tb.G26) (hR := .one (he := Els.nil.cons ⟨rfl, by simp [cellsV, Value.oneCell']⟩)) (hn := by simp) (n2 := (rs ++ [(r, d)]).length) (l2 := rs.map cellsV ++ [cellsV (r, d)]) (hl2 := rfl) (hn2 := by simp) (hlen := by simp [maxLen]; omega) (hby := by simp; omega) (h := fun ao133 cp133 => ?_)
                refine Run.fa Tb.F28_3 (h := ?_)
                refine Run.st Tb.S26 (h := ?_)
                refine Run.fin ?_
                refine At.inb_norm ?_
                refine At.reg rfl ?_
                refine Run.mv (h := ?_)
                refine Run.add (h := ?_)
                refine Run.eqi (b := ((i + 1 : Nat) : Int)) (by rw [wu64 (by omega) (by omega)]; omega) ?_
                refine Run.as (h := ?_)
                refine Run.fin ?_
                refine At.chunks (L' := cel g5 28 [.int .u64 (hdP bs 8), .int .u64 (hdP bs 16), .int .u64 (hdP bs 24), .slice ao133 (rs ++ [(r, d)]).length cp133] :: cel g2 28 [.int .u64 0, .int .u64 0, .int .u64 0, .slice none 0 0] :: Rns ao133 cp133 (rs ++ [(r, d)]) :: L) (fun _ hf => (Pick.there (.there .here)).unstar (Rns_snoc (SubL.star (by repeat (first | exact SubL.refl | refine SubL.cons (by repeat (first | exact Pick.here | apply Pick.there)) ?_ | refine SubL.skip ?_ | exact SubL.nil)) hf))) ?_
                exact At.again ((i + 1, p', rs ++ [(r, d)], ao133, cp133)) (⟨by dsimp only; omega, hr3, by simp; omega, fun q hq => by rcases List.mem_append.1 hq with hq | hq; exact hok q hq; rw [List.mem_singleton.1 hq]; exact hr4, by dsimp only; rw [hgo, hki, goOn_run hr1]; simp [pures]⟩) (by dsimp only; omega)
      · skip
        refine At.exit ?_
        refine At.then_exit ?_
        refine At.then_exit ?_
        refine At.inb_hit ?_
        refine At.seq ?_
        refine At.seq ?_
        have hiN : i = (hdP bs 32).toNat := by omega
        have hfin : decRuns bs (hdP bs 32).toNat 44 = .inr (pures rs, p) := by rw [hgo, hiN, Nat.sub_self]; simp [decRuns, goOn]
        refine At.rns (h := fun hrd _ _ => ?_)
        refine At.reg rfl ?_
        refine Run.mv (h := ?_)
        refine Run.mv (h := ?_)
        refine Run.len Tb.L23 (h := ?_)
        refine Run.ne (h := ?_)
        refine Run.fin ?_
        refine At.cnd' (ht := fun hc138 => ?_) (hf := fun hc138 => ?_)
        · skip
          refine At.seq ?_
          refine At.reg rfl ?_
          refine Run.bd Tb.B28 (h := ?_)
          refine Run.st Tb.S28 (h := ?_)
          refine Run.as (h := ?_)
          refine Run.fin ?_
          refine At.ret ?_
          refine At.then_ret ?_
          exact At.done (hΦ := by exact .inl ⟨252, by rw [dec, if_neg hsh, if_neg hmg, hb40]; dsimp only; rw [hfin]; dsimp only; rw [if_pos (by omega)], rfl, rfl⟩) (hres := ResR.block (ht := Tb.A28) (hn := Tb.S28) (k := ResR.tmp rfl ResR.nil))
        · skip
          refine At.skip ?_
          refine At.seq ?_
          refine At.seq ?_
          refine At.reg rfl ?_
          refine Run.ldA Tb.A28 Tb.S28 (h := ?_)
          refine Run.call Tb.N33 (hc := rcheck (hrd (by repeat (first | exact Pick.here | apply Pick.there))).1 rfl (by omega) hok (hNb 24 (by omega))) (h := ?_)
          rintro _ _ ⟨bm, rfl, hbm, rfl⟩
          refine Run.ne (h := ?_)
          refine Run.fin ?_
          refine At.cnd' (ht := fun hc142 => ?_) (hf := fun hc142 => ?_)
          · skip
            refine At.seq ?_
            refine At.reg rfl ?_
            refine Run.bd Tb.B28 (h := ?_)
            refine Run.st Tb.S28 (h := ?_)
            refine Run.as (h := ?_)
            refine Run.fin ?_
            refine At.ret ?_
            refine At.then_ret ?_
            exact At.done (hΦ := by exact .inl ⟨250, by rw [dec, if_neg hsh, if_neg hmg, hb40]; dsimp only; rw [hfin]; dsimp only; rw [if_neg (by omega)]; exact if_neg (fun h => by rw [hbm.2 h] at hc142; simp at hc142), rfl, rfl⟩) (hres := ResR.block (ht := Tb.A28) (hn := Tb.S28) (k := ResR.tmp rfl ResR.nil))
          · skip
            refine At.skip ?_
            refine At.seq ?_
            refine At.reg rfl ?_
            refine Run.ldA Tb.A28 Tb.S28 (h := ?_)
            refine Run.st Tb.S28 (h := ?_)
            refine Run.as (h := ?_)
            refine Run.fin ?_
            refine At.ret ?_
            exact At.done (hΦ := by exact .inr ⟨⟨hdP bs 8, hdP bs 16, hdP bs 24, pures rs⟩, a1, c1, rs, by rw [dec, if_neg hsh, if_neg hmg, hb40]; dsimp only; rw [hfin]; dsimp only; rw [if_neg (by omega)]; exact if_pos (hbm.1 (by cases bm <;> simp_all)), rfl, hok, rfl, rfl⟩) (hres := ResR.block (ht := Tb.A28) (hn := Tb.S28) (k := ResR.tmp rfl ResR.nil))
end Go.Proofs.Ytllpfpdanonhkaa
