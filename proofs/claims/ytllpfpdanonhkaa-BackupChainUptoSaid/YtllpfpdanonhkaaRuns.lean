/- Walk: cells as runs (the reference). No condition. -/
import Derived.Test.YtllpfpdanonhkaaMk
set_option maxRecDepth 8000
set_option maxHeartbeats 4000000
set_option linter.unusedVariables false
set_option linter.unusedSimpArgs false
namespace Go.Proofs.Ytllpfpdanonhkaa
open Go.Sx Go.RowKit

/-! ### Cells, plainly -/
structure Cl where
  has : Bool
  hole : Bool
  b : Int
def cellsC (c : Cl) : List Value := [.bool c.has, .bool c.hole, .int .u8 c.b]
def oneR (i : Nat) (c : Cl) : Rn := ⟨i, 1, c.hole, if c.hole then [] else [c.b]⟩
def rstep (i : Nat) (out : List Rn) (c : Cl) : List Rn := if c.has then layP out (oneR i c) else out
def rrunsFrom : List Cl → Nat → List Rn → List Rn
  | [], _, out => out
  | c :: l, i, out => rrunsFrom l (i + 1) (rstep i out c)
def rruns (l : List Cl) : List Rn := rrunsFrom l 0 []
theorem rrunsFrom_app : ∀ {l m : List Cl} {i : Nat} {out : List Rn}, rrunsFrom (l ++ m) i out = rrunsFrom m (i + l.length) (rrunsFrom l i out)
  | [], m, i, out => rfl
  | c :: l, m, i, out => by
    show rrunsFrom (l ++ m) (i + 1) _ = _
    rw [rrunsFrom_app, show i + 1 + l.length = i + (c :: l).length by simp; omega]; rfl
theorem rruns_succ {l : List Cl} {k : Nat} {c : Cl} (h : l[k]? = some c) : rruns (l.take (k + 1)) = rstep k (rruns (l.take k)) c := by
  have hk : k < l.length := (List.getElem?_eq_some_iff.1 h).1
  rw [List.take_add_one, h]
  show rrunsFrom (l.take k ++ [c]) 0 [] = _
  rw [rrunsFrom_app, List.length_take, Nat.min_eq_left (by omega), Nat.zero_add]; rfl
def ClOk (c : Cl) : Prop := 0 ≤ c.b ∧ c.b < 256
theorem cellsC_at {l : List Cl} {k : Nat} {c : Cl} (h : l[k]? = some c) : (l.map cellsC)[k]? = some [.bool c.has, .bool c.hole, .int .u8 c.b] := by simp [h, cellsC]
theorem oneR_B {i : Nat} {c : Cl} (h : ClOk c) (hi : i < 33554432) : RnB ((i + 1 : Nat) : Int) (oneR i c) := by
  unfold oneR
  refine ⟨⟨by dsimp only; omega, by dsimp only; omega, by dsimp only; omega, by dsimp only; omega, ?_, ?_⟩, by dsimp only; omega, ?_⟩
  · dsimp only; split <;> simp
  · dsimp only
    split
    · intro _ h; cases h
    · intro b hb; rw [List.mem_singleton.1 hb]; exact h
  · dsimp only; split <;> simp
theorem last_of (l : List RV) : ∃ (ini : List RV) (x : RV), l = [] ∨ l = ini ++ [x] := by
  rcases List.eq_nil_or_concat l with h | ⟨ini, x, h⟩
  · exact ⟨[], (⟨0, 0, false, []⟩, (none, 0)), .inl h⟩
  · exact ⟨ini, x, .inr (by rw [h, List.concat_eq_append])⟩
theorem last_at {l ini : List RV} {x : RV} {k : Int} (h : l = [] ∨ l = ini ++ [x]) (hk : k = (l.length : Int) - 1) (h0 : ¬ k < 0) : l = ini ++ [x] ∧ k = (ini.length : Int) ∧ (l.map cellsV)[ini.length]? = some [.int .u64 x.1.off, .int .u64 x.1.len, .bool x.1.hole, .slice x.2.1 x.1.data.length x.2.2] := by
  rcases h with rfl | rfl
  · simp at hk; omega
  · exact ⟨rfl, by simp at hk; omega, at_last⟩
theorem lay_join {ini : List RV} {x : RV} {r : Rn} (h : x.1.off + x.1.len = r.off ∧ x.1.hole = r.hole) : layP (pures (ini ++ [x])) r = pures ini ++ [⟨x.1.off, x.1.len + r.len, x.1.hole, x.1.data ++ r.data⟩] := by
  rw [show pures (ini ++ [x]) = pures ini ++ [x.1] by simp [pures], layP_snoc, if_pos (show joins x.1 r from h)]
theorem lay_new {l ini : List RV} {x : RV} {r : Rn} (hl : l = [] ∨ l = ini ++ [x]) (h : l = ini ++ [x] → ¬ (x.1.off + x.1.len = r.off ∧ x.1.hole = r.hole)) : layP (pures l) r = pures l ++ [r] := by
  rcases hl with rfl | rfl
  · rfl
  · rw [show pures (ini ++ [x]) = pures ini ++ [x.1] by simp [pures], layP_snoc, if_neg (show ¬ joins x.1 r from h rfl)]; simp
theorem Rns_last {ini : List RV} {X : RV} {a1 : Option Addr} {c1 : Nat} {F : List HP} {f : Frag} (h : Star (row 76 4 a1 c1 ((ini ++ [X]).map cellsV) :: dat X :: pack (ini.map dat) :: F) f) : Star (Rns a1 c1 (ini ++ [X]) :: F) f :=
  Rns_snoc (by rw [← List.map_singleton (f := cellsV), ← List.map_append]; exact h)
theorem Rns_set {ini : List RV} {X Y : RV} {a1 : Option Addr} {c1 : Nat} {F : List HP} {f : Frag} (h : Star (row 76 4 a1 c1 (((ini ++ [X]).map cellsV).set ini.length (cellsV Y)) :: dat Y :: pack (ini.map dat) :: F) f) : Star (Rns a1 c1 (ini ++ [Y]) :: F) f :=
  Rns_last (by rw [set_last] at h; exact h)
theorem pack_last {ini : List RV} {X : RV} {F : List HP} {f : Frag} (h : Star (pack ((ini ++ [X]).map dat) :: F) f) : Star (dat X :: pack (ini.map dat) :: F) f :=
  pack_snoc.1 (by rw [← List.map_singleton (f := dat), ← List.map_append]; exact h)

theorem runs_ {w0 : World} {L : List HP} {co : Option Addr} {n cc : Nat} {cs : List Cl} (hc : RdS w0 L 3 co (cs.map cellsC)) (hn : n = cs.length) (hle : n ≤ 33554432) (hok : ∀ c ∈ cs, ClOk c) :
    CallOk Tb.P w0 L 36 [.slice co n cc] fun u L' => ∃ ao' cp' rs', pures rs' = rruns cs ∧ (∀ r ∈ pures rs', RnB n r) ∧ rs'.length ≤ n ∧ u = .slice ao' rs'.length cp' ∧ L' = Rns ao' cp' rs' :: L := by
  refine enter Try.func36 rfl Try.ntmps36 (Nat.le_of_ble_eq_true rfl) ?_
  refine At.seq ?_
  refine At.reg rfl ?_
  refine Run.as (h := ?_)
  refine Run.fin ?_
  refine At.seq ?_
  refine At.reg rfl ?_
  refine Run.as (h := ?_)
  refine Run.fin ?_
  refine At.seq ?_
  refine At.seq ?_
  refine At.reg rfl ?_
  refine Run.as (h := ?_)
  refine Run.fin ?_
  refine At.block ?_
  refine At.chunks (fun _ hf => Rns_nil hf) ?_
  refine At.loop (α := Nat × List RV × Nat × Option Addr × Nat) (fun x => ⟨[(0, .slice co n cc), (3, .slice x.2.2.2.1 x.2.2.1 x.2.2.2.2), (4, .int .i64 x.1)], Rns x.2.2.2.1 x.2.2.2.2 x.2.1 :: L, []⟩) (fun x => x.1 ≤ n ∧ pures x.2.1 = rruns (cs.take x.1) ∧ (∀ r ∈ pures x.2.1, RnB x.1 r) ∧ x.2.1.length ≤ x.1 ∧ x.2.2.1 = x.2.1.length) (fun x => n - x.1) ((0, [], 0, none, 0)) (⟨Nat.zero_le _, rfl, (fun r h => by simp [pures] at h), Nat.le_refl _, rfl⟩) (Ent.of (by repeat (first | exact SubE.nil | refine SubE.cons (by first | rfl | (show some _ = some _; simp; done)) ?_)) (by repeat (first | exact SubL.refl | refine SubL.cons (by repeat (first | exact Pick.here | apply Pick.there)) ?_ | refine SubL.skip ?_ | exact SubL.nil))) (fun x hx => ?_)
  obtain ⟨i, rs, m, a1, c1⟩ := x
  dsimp only at hx ⊢
  obtain ⟨hi, hpu, hB, hlen, rfl⟩ := hx
  refine At.seq ?_
  refine At.seq ?_
  refine At.reg rfl ?_
  refine Run.mv (h := ?_)
  refine Run.mv (h := ?_)
  refine Run.len Tb.L78 (h := ?_)
  refine Run.lt (h := ?_)
  refine Run.fin ?_
  refine At.cnd' (ht := fun hc9 => ?_) (hf := fun hc9 => ?_)
  · skip
    obtain ⟨c, hck⟩ : ∃ c, cs[i]? = some c := ⟨cs[i]'(by omega), List.getElem?_eq_getElem _⟩
    have hcok := hok c (List.mem_of_getElem? hck)
    refine At.skip ?_
    refine At.seq ?_
    refine At.block ?_
    refine At.seq ?_
    refine At.seq ?_
    refine At.reg rfl ?_
    refine Run.mv (h := ?_)
    refine Run.mv (h := ?_)
    refine Run.iaR (ht := Tb.L78) (hR := hc.sub) (hj := rfl) (h1 := by simp; omega) (hn := by omega) (h := ?_)
    refine Run.fa Tb.F80_0 (h := ?_)
    refine Run.ldr (ht := Tb.A4) (hR := hc.sub) (hj := cellsC_at hck) (h := ?_)
    refine Run.not (h := ?_)
    refine Run.fin ?_
    refine At.cnd' (ht := fun hc17 => ?_) (hf := fun hc17 => ?_)
    · skip
      refine At.exit ?_
      refine At.then_exit ?_
      refine At.inb_hit ?_
      refine At.reg rfl ?_
      refine Run.mv (h := ?_)
      refine Run.add (h := ?_)
      refine Run.eqi (b := ((i + 1 : Nat) : Int)) (by rw [wi64 (by omega) (by omega)]; omega) ?_
      refine Run.as (h := ?_)
      refine Run.fin ?_
      exact At.again ((i + 1, rs, rs.length, a1, c1)) (⟨by dsimp only; omega, by dsimp only; rw [rruns_succ hck, ← hpu, rstep, if_neg (by simp [hc17])], fun r h => (hB r h).mono (by dsimp only; omega), by dsimp only; omega, rfl⟩) (by dsimp only; omega)
    · skip
      have hhas : c.has = true := by simpa using hc17
      refine At.skip ?_
      refine At.seq ?_
      have hi2 : i < n := by omega
      have hB2 : ∀ r ∈ layP (pures rs) (oneR i c), RnB ((i + 1 : Nat) : Int) r := layP_B (fun y hy => (hB y hy).mono (by omega)) (oneR_B hcok (by omega)) (by omega)
      obtain ⟨ini0, x0, hxi⟩ := last_of rs
      refine At.chunks (L' := row 76 4 a1 c1 ((rs).map cellsV) :: pack (rs.map dat) :: L) (fun _ hf => Rns_open.1 hf) ?_
      refine At.rowR (h := fun hRr _ _ _ => ?_)
      refine At.reg rfl ?_
      refine Run.mv (h := ?_)
      refine Run.len Tb.L26 (h := ?_)
      refine Run.sub (h := ?_)
      refine Run.eqi (b := (rs.length : Int) - 1) (wi64 (by omega) (by omega)) ?_
      refine Run.as (h := ?_)
      refine Run.fin ?_
      refine At.seq ?_
      refine At.cut (α := List RV × RV × Option Addr × Nat) (fun x => ⟨[(0, .slice co n cc), (3, .slice x.2.2.1 (x.1.length + 1) x.2.2.2), (4, .int .i64 i), (5, .int .i64 x.1.length)], row 76 4 x.2.2.1 x.2.2.2 ((x.1 ++ [x.2.1]).map cellsV) :: dat x.2.1 :: pack (x.1.map dat) :: L, []⟩) (fun x => layP (pures rs) (oneR i c) = pures x.1 ++ [⟨x.2.1.1.off, x.2.1.1.len + 1, x.2.1.1.hole, x.2.1.1.data ++ (oneR i c).data⟩] ∧ 0 ≤ x.2.1.1.len ∧ x.2.1.1.len ≤ i ∧ x.2.1.1.data.length ≤ i ∧ x.1.length ≤ i) ?_ (fun x hx => ?_)
      · skip
        refine At.seq ?_
        refine At.draw [(0, 0), (1, 0), (2, 0), (3, 0), (4, 0), (5, 0), (6, 0), (7, 1), (8, 0), (9, 0), (10, 0), (11, 0), (12, 1), (13, 0), (14, 0), (15, 0), (16, 0), (17, 0), (18, 0), (19, 0), (20, 0), (21, 0), (22, 0), (23, 1), (24, 0), (25, 0), (26, 0), (27, 0), (28, 1), (29, 0), (30, 0)] Tb.mixed (by kernel_rfl) ?_
        refine Run.mv (h := ?_)
        refine Run.lt (h := ?_)
        refine Run.mv (h := ?_)
        refine Run.orB 14 2 (bq := decide (x0.1.off + x0.1.len ≠ (i : Int))) (ht := fun hg38 => by
            obtain ⟨hl0, hk0, hl1⟩ := last_at hxi rfl hg38
            have hx0B := hB x0.1 (by rw [hl0]; simp [pures])
            obtain ⟨⟨hb0, _, hb1, _, _, _⟩, hb4, hb5⟩ := hx0B
            refine Run.mv (h := ?_)
            refine Run.mv (h := ?_)
            refine Run.iaR (ht := Tb.L26) (hR := hRr (by repeat (first | exact Pick.here | apply Pick.there))) (j := ini0.length) (hj := hk0) (h1 := by rw [hl0]; simp) (hn := by rw [hl0]; simp) (h := ?_)
            refine Run.fa Tb.F76_0 (h := ?_)
            refine Run.ldr (ht := Tb.A22) (hR := hRr (by repeat (first | exact Pick.here | apply Pick.there))) (hj := hl1) (h := ?_)
            refine Run.mv (h := ?_)
            refine Run.mv (h := ?_)
            refine Run.iaR (ht := Tb.L26) (hR := hRr (by repeat (first | exact Pick.here | apply Pick.there))) (j := ini0.length) (hj := hk0) (h1 := by rw [hl0]; simp) (hn := by rw [hl0]; simp) (h := ?_)
            refine Run.fa Tb.F76_1 (h := ?_)
            refine Run.ldr (ht := Tb.A22) (hR := hRr (by repeat (first | exact Pick.here | apply Pick.there))) (hj := hl1) (h := ?_)
            refine Run.add (h := ?_)
            refine Run.eqi (b := x0.1.off + x0.1.len) (wu64 (by omega) (by omega)) ?_
            refine Run.mv (h := ?_)
            refine Run.cvf Tb.I3 Tb.I22 (hw := by exact wu64 (by omega) (by omega)) (h := ?_)
            refine Run.ne (h := ?_)
            exact Run.fin_sc ScEnd.here) (hrest := ?_)
        refine Run.mv (h := ?_)
        refine Run.orB 11 18 (bq := decide (x0.1.hole ≠ c.hole)) (ht := fun hg51 => by
            obtain ⟨hl0, hk0, hl1⟩ := last_at hxi rfl (fun h => hg51 (.inl h))
            refine Run.mv (h := ?_)
            refine Run.mv (h := ?_)
            refine Run.iaR (ht := Tb.L26) (hR := hRr (by repeat (first | exact Pick.here | apply Pick.there))) (j := ini0.length) (hj := hk0) (h1 := by rw [hl0]; simp) (hn := by rw [hl0]; simp) (h := ?_)
            refine Run.fa Tb.F76_2 (h := ?_)
            refine Run.ldr (ht := Tb.A4) (hR := hRr (by repeat (first | exact Pick.here | apply Pick.there))) (hj := hl1) (h := ?_)
            refine Run.mv (h := ?_)
            refine Run.mv (h := ?_)
            refine Run.iaR (ht := Tb.L78) (hR := hc.sub) (hj := rfl) (h1 := by simp; omega) (hn := by omega) (h := ?_)
            refine Run.fa Tb.F80_1 (h := ?_)
            refine Run.ldr (ht := Tb.A4) (hR := hc.sub) (hj := cellsC_at hck) (h := ?_)
            refine Run.neV (h0 := .bool Tb.I4) (h := ?_)
            refine Run.eqv (v' := .bool (decide (x0.1.hole ≠ c.hole))) (by cases x0.1.hole <;> cases c.hole <;> rfl) ?_
            exact Run.fin_sc ScEnd.here) (hrest := ?_)
        refine Run.fin ?_
        refine At.cnd' (ht := fun hc51 => ?_) (hf := fun hc51 => ?_)
        · skip
          have hnj : rs = ini0 ++ [x0] → ¬ (x0.1.off + x0.1.len = (oneR i c).off ∧ x0.1.hole = (oneR i c).hole) := fun e h => by
            have hl9 := congrArg List.length e
            simp at hl9
            simp only [oneR] at h
            rcases hc51 with (h1 | h1) | h1
            · omega
            · exact h1 h.1
            · exact h1 h.2
          refine At.seq ?_
          refine At.reg rfl ?_
          refine Run.mv (h := ?_)
          refine Run.mv (h := ?_)
          refine Run.cvf Tb.I3 Tb.I22 (hw := by exact wu64 (by omega) (by omega)) (h := ?_)
          refine Run.mv (h := ?_)
          refine Run.mv (h := ?_)
          refine Run.iaR (ht := Tb.L78) (hR := hc.sub) (hj := rfl) (h1 := by simp; omega) (hn := by omega) (h := ?_)
          refine Run.fa Tb.F80_1 (h := ?_)
          refine Run.ldr (ht := Tb.A4) (hR := hc.sub) (hj := cellsC_at hck) (h := ?_)
          refine Run.bd Tb.B76 (h := ?_)
          refine Run.bs Tb.G26 (h := fun g61 => ?_)
          refine Run.ap (ht := Tb.G26) (hR := .one (he := Els.nil.cons ⟨rfl, by simp [Value.oneCell']⟩)) (hn := by simp) (n2 := rs.length + 1) (l2 := (rs ++ [((⟨(i : Int), 0, c.hole, []⟩ : Rn), ((none : Option Addr), 0))]).map cellsV) (hl2 := by rw [List.map_append]; rfl) (hn2 := by simp) (hlen := by simp [maxLen]; omega) (hby := by simp; omega) (h := fun ao62 cp62 => ?_)
          refine Run.as (h := ?_)
          refine Run.fin ?_
          refine At.reg rfl ?_
          refine Run.mv (h := ?_)
          refine Run.add (h := ?_)
          refine Run.eqi (b := (rs.length : Int)) (by rw [wi64 (by omega) (by omega)]; omega) ?_
          refine Run.chunks (L' := row 76 4 ao62 cp62 ((rs ++ [((⟨(i : Int), 0, c.hole, []⟩ : Rn), ((none : Option Addr), 0))]).map cellsV) :: dat ((⟨(i : Int), 0, c.hole, []⟩ : Rn), ((none : Option Addr), 0)) :: pack (rs.map dat) :: L) (fun _ hf => Star.swap (Star.nilRow (e := 5) (sz := 1) (SubL.star (by repeat (first | exact SubL.refl | refine SubL.cons (by repeat (first | exact Pick.here | apply Pick.there)) ?_ | refine SubL.skip ?_ | exact SubL.nil)) hf))) ?_
          refine Run.as (h := ?_)
          refine Run.fin ?_
          exact At.join ((rs, ((⟨(i : Int), 0, c.hole, []⟩ : Rn), ((none : Option Addr), 0)), ao62, cp62)) (⟨by dsimp only; rw [lay_new hxi hnj]; simp [oneR], by dsimp only; omega, by dsimp only; omega, by simp, hlen⟩)
        · skip
          obtain ⟨hl0, hk0, hl1⟩ := last_at (k := (rs.length : Int) - 1) hxi rfl (by omega)
          have e1 : x0.1.off + x0.1.len = i := by omega
          have e2 : x0.1.hole = c.hole := Decidable.byContradiction fun h => hc51 (.inr h)
          have hx0B := hB x0.1 (by rw [hl0]; simp [pures])
          obtain ⟨⟨_, _, hb1, _, _, _⟩, hb4, hb5⟩ := hx0B
          have hb2 : x0.1.len ≤ i := by omega
          have hb3 : x0.1.data.length ≤ i := by omega
          have hl3 : rs.length = ini0.length + 1 := by rw [hl0]; simp
          refine At.say 5 (.int .i64 (ini0.length : Nat)) (e := by rw [hk0]) (h := ?_)
          refine At.say 3 (.slice a1 (ini0.length + 1) c1) (e := by rw [hl3]) (h := ?_)
          refine At.chunks (L' := row 76 4 a1 c1 ((ini0 ++ [x0]).map cellsV) :: dat x0 :: pack (ini0.map dat) :: L) (fun _ hf => by rw [hl0] at hf; exact Star.cons_mono (fun _ => pack_last) hf) ?_
          refine At.skip ?_
          exact At.join ((ini0, x0, a1, c1)) (⟨by dsimp only; rw [hl0, lay_join ⟨by simpa [oneR] using e1, by simpa [oneR] using e2⟩]; simp [oneR], hb1, hb2, hb3, by dsimp only; omega⟩)
      · skip
        obtain ⟨ini, x, a1, c1⟩ := x
        dsimp only at hx ⊢
        obtain ⟨hlay, hx0, hx1, hx2, hx3⟩ := hx
        refine At.rowR (h := fun hR0 _ _ _ => ?_)
        refine At.seq ?_
        refine At.reg rfl ?_
        refine Run.mv (h := ?_)
        refine Run.mv (h := ?_)
        refine Run.mv (h := ?_)
        refine Run.mv (h := ?_)
        refine Run.iaR (ht := Tb.L26) (hR := hR0 (by repeat (first | exact Pick.here | apply Pick.there))) (j := ini.length) (hj := rfl) (h1 := by simp) (hn := by omega) (h := ?_)
        refine Run.fa Tb.F76_1 (h := ?_)
        refine Run.ldr (ht := Tb.A22) (hR := hR0 (by repeat (first | exact Pick.here | apply Pick.there))) (hj := at_last) (h := ?_)
        refine Run.add (h := ?_)
        refine Run.eqi (b := x.1.len + 1) (wu64 (by omega) (by omega)) ?_
        refine Run.iaR (ht := Tb.L26) (hR := hR0 (by repeat (first | exact Pick.here | apply Pick.there))) (j := ini.length) (hj := rfl) (h1 := by simp) (hn := by omega) (h := ?_)
        refine Run.fa Tb.F76_1 (h := ?_)
        refine Run.str (hsz := Tb.S22) (hj := at_last) (h := ?_)
        refine Run.chunks (L' := row 76 4 a1 c1 ((ini ++ [((⟨x.1.off, x.1.len + 1, x.1.hole, x.1.data⟩ : Rn), x.2)]).map cellsV) :: dat x :: pack (ini.map dat) :: L) (fun _ hf => by rw [← set_last (x := x)]; exact hf) ?_
        refine Run.fin ?_
        refine At.seq ?_
        refine At.rowR (h := fun hR1 _ _ _ => ?_)
        refine At.reg rfl ?_
        refine Run.mv (h := ?_)
        refine Run.mv (h := ?_)
        refine Run.iaR (ht := Tb.L78) (hR := hc.sub) (hj := rfl) (h1 := by simp; omega) (hn := by omega) (h := ?_)
        refine Run.fa Tb.F80_1 (h := ?_)
        refine Run.ldr (ht := Tb.A4) (hR := hc.sub) (hj := cellsC_at hck) (h := ?_)
        refine Run.not (h := ?_)
        refine Run.fin ?_
        refine At.cnd' (ht := fun hc80 => ?_) (hf := fun hc80 => ?_)
        · skip
          refine At.draw [(0, 0), (1, 0), (2, 0), (3, 0), (4, 0), (5, 0), (7, 0), (8, 0), (9, 0), (10, 0), (6, 1), (11, 1), (12, 2), (13, 3), (14, 0), (15, 0), (16, 3)] Tb.mixed (by kernel_rfl) ?_
          refine Run.mv (h := ?_)
          refine Run.mv (h := ?_)
          refine Run.mv (h := ?_)
          refine Run.mv (h := ?_)
          refine Run.iaR (ht := Tb.L26) (hR := hR1 (by repeat (first | exact Pick.here | apply Pick.there))) (j := ini.length) (hj := rfl) (h1 := by simp) (hn := by omega) (h := ?_)
          refine Run.fa Tb.F76_3 (h := ?_)
          refine Run.mv (h := ?_)
          refine Run.mv (h := ?_)
          refine Run.iaR (ht := Tb.L78) (hR := hc.sub) (hj := rfl) (h1 := by simp; omega) (hn := by omega) (h := ?_)
          refine Run.fa Tb.F80_2 (h := ?_)
          refine Run.ldr (ht := Tb.A23) (hR := hR1 (by repeat (first | exact Pick.here | apply Pick.there))) (hj := at_last) (h := ?_)
          refine Run.ldr (ht := Tb.A5) (hR := hc.sub) (hj := cellsC_at hck) (h := ?_)
          refine Run.bs Tb.G23 (h := fun g93 => ?_)
          refine Run.ap (ht := Tb.G23) (hR := .one) (n2 := (x.1.data ++ [c.b]).length) (l2 := ints .u8 (x.1.data ++ [c.b])) (hl2 := ints_snoc) (hn2 := by simp) (hlen := by simp [maxLen]; omega) (hby := by simp; omega) (hk := noun (by kernel_rfl)) (h := fun ao94 cp94 => ?_)
          refine Run.iaR (ht := Tb.L26) (hR := hR1 (by repeat (first | exact Pick.here | apply Pick.there))) (j := ini.length) (hj := rfl) (h1 := by simp) (hn := by omega) (h := ?_)
          refine Run.fa Tb.F76_3 (h := ?_)
          refine Run.str (hsz := Tb.S23) (hj := at_last) (hk := noun (by kernel_rfl)) (h := ?_)
          refine Run.chunks (L' := Rns a1 c1 (ini ++ [((⟨x.1.off, x.1.len + 1, x.1.hole, x.1.data ++ [c.b]⟩ : Rn), (ao94, cp94))]) :: L) (fun _ hf => Rns_set (X := ((⟨x.1.off, x.1.len + 1, x.1.hole, x.1.data⟩ : Rn), x.2)) (Y := ((⟨x.1.off, x.1.len + 1, x.1.hole, x.1.data ++ [c.b]⟩ : Rn), (ao94, cp94))) (SubL.star (by repeat (first | exact SubL.refl | refine SubL.cons (by repeat (first | exact Pick.here | apply Pick.there)) ?_ | refine SubL.skip ?_ | exact SubL.nil)) hf)) ?_
          refine Run.fin ?_
          refine At.inb_norm ?_
          refine At.reg rfl ?_
          refine Run.mv (h := ?_)
          refine Run.add (h := ?_)
          refine Run.eqi (b := ((i + 1 : Nat) : Int)) (by rw [wi64 (by omega) (by omega)]; omega) ?_
          refine Run.as (h := ?_)
          refine Run.fin ?_
          exact At.again ((i + 1, ini ++ [((⟨x.1.off, x.1.len + 1, x.1.hole, x.1.data ++ [c.b]⟩ : Rn), (ao94, cp94))], ini.length + 1, a1, c1)) (⟨by dsimp only; omega, by dsimp only; rw [rruns_succ hck, ← hpu, rstep, if_pos hhas, hlay]; simp [pures, oneR, hc80], fun r h => hB2 r (by rw [hlay]; simpa [pures, oneR, hc80] using h), by dsimp only; simp; omega, by simp⟩) (by dsimp only; omega)
        · skip
          have hh80 : c.hole = true := by simpa using hc80
          refine At.chunks (L' := Rns a1 c1 (ini ++ [((⟨x.1.off, x.1.len + 1, x.1.hole, x.1.data⟩ : Rn), x.2)]) :: L) (fun _ hf => Rns_last (SubL.star (by repeat (first | exact SubL.refl | refine SubL.cons (by repeat (first | exact Pick.here | apply Pick.there)) ?_ | refine SubL.skip ?_ | exact SubL.nil)) hf)) ?_
          refine At.skip ?_
          refine At.inb_norm ?_
          refine At.reg rfl ?_
          refine Run.mv (h := ?_)
          refine Run.add (h := ?_)
          refine Run.eqi (b := ((i + 1 : Nat) : Int)) (by rw [wi64 (by omega) (by omega)]; omega) ?_
          refine Run.as (h := ?_)
          refine Run.fin ?_
          exact At.again ((i + 1, ini ++ [((⟨x.1.off, x.1.len + 1, x.1.hole, x.1.data⟩ : Rn), x.2)], ini.length + 1, a1, c1)) (⟨by dsimp only; omega, by dsimp only; rw [rruns_succ hck, ← hpu, rstep, if_pos hhas, hlay]; simp [pures, oneR, hh80], fun r h => hB2 r (by rw [hlay]; simpa [pures, oneR, hh80] using h), by dsimp only; simp; omega, by simp⟩) (by dsimp only; omega)
  · skip
    refine At.exit ?_
    refine At.then_exit ?_
    refine At.then_exit ?_
    refine At.inb_hit ?_
    refine At.seq ?_
    refine At.reg rfl ?_
    refine Run.mv (h := ?_)
    refine Run.as (h := ?_)
    refine Run.fin ?_
    refine At.ret ?_
    obtain rfl : n = i := by omega
    exact At.done (hΦ := by exact ⟨a1, c1, rs, by rw [hpu, List.take_of_length_le (by omega)], hB, hlen, rfl, rfl⟩)
end Go.Proofs.Ytllpfpdanonhkaa
