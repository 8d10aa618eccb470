/- Walks: may an archive be (backup, and its reference). No condition. -/
import Derived.Test.YtllpfpdanonhkaaOct
set_option maxRecDepth 8000
set_option maxHeartbeats 4000000
set_option linter.unusedVariables false
set_option linter.unusedSimpArgs false
namespace Go.Proofs.Ytllpfpdanonhkaa
open Go.Sx Go.RowKit

/-! ### Archives, plainly -/
structure Rn where
  off : Int
  len : Int
  hole : Bool
  data : List Int
structure Ar where
  id : Int
  par : Int
  size : Int
  runs : List Rn
/-- A run and where its data lie. -/
abbrev RV := Rn × (Option Addr × Nat)
def cellsV (r : RV) : List Value := [.int .u64 r.1.off, .int .u64 r.1.len, .bool r.1.hole, .slice r.2.1 r.1.data.length r.2.2]
def pures (l : List RV) : List Rn := l.map (·.1)
def RnOk (r : Rn) : Prop := 0 ≤ r.off ∧ r.off < 18446744073709551616 ∧ 0 ≤ r.len ∧ r.len < 18446744073709551616 ∧ r.data.length ≤ 1099511627776 ∧ Byt r.data
def okRun (par size at' : Int) (prev : Option Bool) (r : Rn) : Prop := r.len ≠ 0 ∧ at' ≤ r.off ∧ r.off ≤ size ∧ r.len ≤ size - r.off ∧ (r.hole = true → r.data.length = 0) ∧ (¬ r.hole = true → (r.data.length : Int) = r.len) ∧ ¬ (prev = some r.hole ∧ r.off = at') ∧ (par = 0 → r.off = at')
def MayGo (par size : Int) : Int → Option Bool → List Rn → Prop
  | at', _, [] => par = 0 → at' = size
  | at', prev, r :: rs => okRun par size at' prev r ∧ MayGo par size (r.off + r.len) (some r.hole) rs
def May (a : Ar) : Prop := a.id ≠ 0 ∧ a.id ≠ a.par ∧ 1 ≤ a.size ∧ a.size ≤ 33554432 ∧ MayGo a.par a.size 0 none a.runs
def endAt (rs : List Rn) : Nat → Int
  | 0 => 0
  | k + 1 => match rs[k]? with | some r => r.off + r.len | none => 0
def prevAt (rs : List Rn) : Nat → Option Bool
  | 0 => none
  | k + 1 => (rs[k]?).map (·.hole)
theorem MayGo_drop {par size at' : Int} {prev : Option Bool} {rs : List Rn} {k : Nat} {r : Rn} (h : rs[k]? = some r) : MayGo par size at' prev (rs.drop k) ↔ okRun par size at' prev r ∧ MayGo par size (endAt rs (k + 1)) (prevAt rs (k + 1)) (rs.drop (k + 1)) := by
  obtain ⟨hk, rfl⟩ := List.getElem?_eq_some_iff.1 h
  rw [List.drop_eq_getElem_cons hk]
  simp [MayGo, endAt, prevAt, hk]
theorem pures_at {l : List RV} {k : Nat} {r : RV} (h : l[k]? = some r) : (pures l)[k]? = some r.1 := by simp [pures, h]
theorem cells_at {l : List RV} {k : Nat} {r : RV} (h : l[k]? = some r) : (l.map cellsV)[k]? = some [.int .u64 r.1.off, .int .u64 r.1.len, .bool r.1.hole, .slice r.2.1 r.1.data.length r.2.2] := by simp [h, cellsV]
theorem prevAt_pos {l : List RV} {k : Nat} {r : RV} (h : l[k - 1]? = some r) (hk : 0 < k) : prevAt (pures l) k = some r.1.hole := by
  obtain ⟨k, rfl⟩ : ∃ m, k = m + 1 := ⟨k - 1, by omega⟩
  simp only [Nat.add_sub_cancel] at h
  simp [prevAt, pures_at h]

theorem may {w0 : World} {L : List HP} {id par size : Int} {ao : Option Addr} {n cp : Nat} {rs : List RV} (hr : RdS w0 L 4 ao (rs.map cellsV)) (hn : n = rs.length) (hle : n ≤ 1099511627776) (hok : ∀ r ∈ rs, RnOk r.1) (hsz : 0 ≤ size ∧ size < 18446744073709551616) :
    CallOk Tb.P w0 L 37 [.agg #[.int .u64 id, .int .u64 par, .int .u64 size, .slice ao n cp]] fun u L' => ∃ b, u = .bool b ∧ (b = true ↔ May ⟨id, par, size, pures rs⟩) ∧ L' = L := by
  refine enter Try.func37 rfl Try.ntmps37 (Nat.le_of_ble_eq_true rfl) ?_
  refine At.seq ?_
  refine At.reg rfl ?_
  refine Run.bx (h := fun g1 => ?_)
  refine Run.as (h := ?_)
  refine Run.fin ?_
  refine At.seq ?_
  refine At.seq ?_
  refine At.reg rfl ?_
  refine Run.fa Tb.F28_0 (h := ?_)
  refine Run.ld Tb.A22 (h := ?_)
  refine Run.eq (h := ?_)
  refine Run.mv (h := ?_)
  refine Run.orB 5 3 (ht := fun hg16 => by
      refine Run.fa Tb.F28_0 (h := ?_)
      refine Run.ld Tb.A22 (h := ?_)
      refine Run.fa Tb.F28_1 (h := ?_)
      refine Run.ld Tb.A22 (h := ?_)
      refine Run.eq (h := ?_)
      exact Run.fin_sc ScEnd.here) (hrest := ?_)
  refine Run.mv (h := ?_)
  refine Run.orB 3 10 (ht := fun hg21 => by
      refine Run.fa Tb.F28_2 (h := ?_)
      refine Run.ld Tb.A22 (h := ?_)
      refine Run.lt (h := ?_)
      exact Run.fin_sc ScEnd.here) (hrest := ?_)
  refine Run.mv (h := ?_)
  refine Run.orB 3 15 (ht := fun hg26 => by
      refine Run.fa Tb.F28_2 (h := ?_)
      refine Run.ld Tb.A22 (h := ?_)
      refine Run.gt (h := ?_)
      exact Run.fin_sc ScEnd.here) (hrest := ?_)
  refine Run.fin ?_
  refine At.cnd' (ht := fun hc1 => ?_) (hf := fun hc1 => ?_)
  · skip
    refine At.seq ?_
    refine At.reg rfl ?_
    refine Run.as (h := ?_)
    refine Run.fin ?_
    refine At.ret ?_
    refine At.then_ret ?_
    exact At.done (hΦ := by exact ⟨false, rfl, ⟨(fun h => by cases h), fun hm => by obtain ⟨m1, m2, m3, m4, hgo⟩ := hm; simp only at *; omega⟩, rfl⟩)
  · skip
    refine At.skip ?_
    refine At.seq ?_
    refine At.reg rfl ?_
    refine Run.as (h := ?_)
    refine Run.fin ?_
    refine At.seq ?_
    refine At.seq ?_
    refine At.reg rfl ?_
    refine Run.fa Tb.F28_3 (h := ?_)
    refine Run.ld Tb.A26 (h := ?_)
    refine Run.len Tb.L26 (h := ?_)
    refine Run.mv (h := ?_)
    refine Run.fin ?_
    refine At.block ?_
    refine At.loop (α := Nat) (fun k => ⟨[(1, .pointer (some ⟨g1, 0, none⟩)), (28, .slice ao n cp), (29, .int .i64 n), (30, .int .i64 k), (3, .int .u64 (endAt (pures rs) k))], cel g1 28 [.int .u64 id, .int .u64 par, .int .u64 size, .slice ao n cp] :: L, []⟩) (fun k => k ≤ n ∧ (MayGo par size 0 none (pures rs) ↔ MayGo par size (endAt (pures rs) k) (prevAt (pures rs) k) ((pures rs).drop k)) ∧ 0 ≤ endAt (pures rs) k ∧ endAt (pures rs) k ≤ size) (fun k => n - k) (0) (⟨Nat.zero_le _, Iff.rfl, Int.le_refl _, by show (0 : Int) ≤ size; omega⟩) (Ent.of (by repeat (first | exact SubE.nil | refine SubE.cons (by first | rfl | (show some _ = some _; simp; done)) ?_)) (by repeat (first | exact SubL.refl | refine SubL.cons (by repeat (first | exact Pick.here | apply Pick.there)) ?_ | refine SubL.skip ?_ | exact SubL.nil))) (fun k hx => ?_)
    obtain ⟨hk, hiff, he0, he1⟩ := hx
    refine At.seq ?_
    refine At.reg rfl ?_
    refine Run.lt (h := ?_)
    refine Run.fin ?_
    refine At.seq ?_
    refine At.cnd' (ht := fun hc2 => ?_) (hf := fun hc2 => ?_)
    · skip
      obtain ⟨r, hrk⟩ : ∃ r, rs[k]? = some r := ⟨rs[k]'(by omega), List.getElem?_eq_getElem _⟩
      obtain ⟨q1, q2, q3, q4, q5, q6⟩ := hok r (List.mem_of_getElem? hrk)
      rw [MayGo_drop (pures_at hrk)] at hiff
      refine At.skip ?_
      refine At.seq ?_
      refine At.block ?_
      refine At.seq ?_
      refine At.reg rfl ?_
      refine Run.mv (h := ?_)
      refine Run.iaR (ht := Tb.L26) (hR := hr.sub) (hj := rfl) (h1 := by simp; omega) (hn := by omega) (h := ?_)
      refine Run.ldrA (ht := Tb.A76) (hn := Tb.S76) (hR := hr.sub) (hj := cells_at hrk) (h := ?_)
      refine Run.al Tb.Z76 (h := fun g5 => ?_)
      refine Run.as (h := ?_)
      refine Run.st Tb.S76 (h := ?_)
      refine Run.fin ?_
      refine At.seq ?_
      refine At.seq ?_
      refine At.reg rfl ?_
      refine Run.fa Tb.F76_1 (h := ?_)
      refine Run.ld Tb.A22 (h := ?_)
      refine Run.eq (h := ?_)
      refine Run.mv (h := ?_)
      refine Run.orB 4 3 (ht := fun hg43 => by
          refine Run.fa Tb.F76_0 (h := ?_)
          refine Run.ld Tb.A22 (h := ?_)
          refine Run.mv (h := ?_)
          refine Run.lt (h := ?_)
          exact Run.fin_sc ScEnd.here) (hrest := ?_)
      refine Run.mv (h := ?_)
      refine Run.orB 5 9 (ht := fun hg50 => by
          refine Run.fa Tb.F76_0 (h := ?_)
          refine Run.ld Tb.A22 (h := ?_)
          refine Run.fa Tb.F28_2 (h := ?_)
          refine Run.ld Tb.A22 (h := ?_)
          refine Run.gt (h := ?_)
          exact Run.fin_sc ScEnd.here) (hrest := ?_)
      refine Run.mv (h := ?_)
      refine Run.orB 8 16 (ht := fun hg60 => by
          refine Run.fa Tb.F76_1 (h := ?_)
          refine Run.ld Tb.A22 (h := ?_)
          refine Run.fa Tb.F28_2 (h := ?_)
          refine Run.ld Tb.A22 (h := ?_)
          refine Run.fa Tb.F76_0 (h := ?_)
          refine Run.ld Tb.A22 (h := ?_)
          refine Run.sub (h := ?_)
          refine Run.eqi (b := size - r.1.off) (wu64 (by omega) (by omega)) ?_
          refine Run.gt (h := ?_)
          exact Run.fin_sc ScEnd.here) (hrest := ?_)
      refine Run.fin ?_
      refine At.cnd' (ht := fun hc3 => ?_) (hf := fun hc3 => ?_)
      · skip
        refine At.seq ?_
        refine At.reg rfl ?_
        refine Run.as (h := ?_)
        refine Run.fin ?_
        refine At.ret ?_
        refine At.then_ret ?_
        refine At.inb_ret ?_
        refine At.then_ret ?_
        refine At.then_ret ?_
        refine At.inb_ret ?_
        refine At.then_ret ?_
        exact At.done (hΦ := by exact ⟨false, rfl, ⟨(fun h => by cases h), fun hm => by obtain ⟨m1, m2, m3, m4, hgo⟩ := hm; obtain ⟨⟨o1, o2, o3, o4, o5, o6, o7, o8⟩, hgo2⟩ := hiff.1 hgo; simp only at *; omega⟩, rfl⟩)
      · skip
        refine At.skip ?_
        refine At.seq ?_
        refine At.seq ?_
        refine At.reg rfl ?_
        refine Run.fa Tb.F76_2 (h := ?_)
        refine Run.ld Tb.A4 (h := ?_)
        refine Run.mv (h := ?_)
        refine Run.andB 4 2 (ht := fun hg68 => by
            refine Run.fa Tb.F76_3 (h := ?_)
            refine Run.ld Tb.A23 (h := ?_)
            refine Run.len Tb.L23 (h := ?_)
            refine Run.gt (h := ?_)
            exact Run.fin_sc ScEnd.here) (hrest := ?_)
        refine Run.mv (h := ?_)
        refine Run.orB 12 8 (bq := !r.1.hole && decide ((r.1.data.length : Int) ≠ r.1.len)) (ht := fun hg82 => by
            refine Run.fa Tb.F76_2 (h := ?_)
            refine Run.ld Tb.A4 (h := ?_)
            refine Run.not (h := ?_)
            refine Run.mv (h := ?_)
            refine Run.andB 7 12 (ht := fun hg81 => by
                refine Run.fa Tb.F76_3 (h := ?_)
                refine Run.ld Tb.A23 (h := ?_)
                refine Run.len Tb.L23 (h := ?_)
                refine Run.cvf Tb.I3 Tb.I22 (hw := by exact wu64 (by omega) (by omega)) (h := ?_)
                refine Run.fa Tb.F76_1 (h := ?_)
                refine Run.ld Tb.A22 (h := ?_)
                refine Run.ne (h := ?_)
                exact Run.fin_sc ScEnd.here) (hrest := ?_)
            exact Run.fin_sc ScEnd.here) (hrest := ?_)
        refine Run.fin ?_
        refine At.cnd' (ht := fun hc4 => ?_) (hf := fun hc4 => ?_)
        · skip
          refine At.seq ?_
          refine At.reg rfl ?_
          refine Run.as (h := ?_)
          refine Run.fin ?_
          refine At.ret ?_
          refine At.then_ret ?_
          refine At.inb_ret ?_
          refine At.then_ret ?_
          refine At.then_ret ?_
          refine At.inb_ret ?_
          refine At.then_ret ?_
          exact At.done (hΦ := by exact ⟨false, rfl, ⟨(fun h => by cases h), fun hm => by obtain ⟨m1, m2, m3, m4, hgo⟩ := hm; obtain ⟨⟨o1, o2, o3, o4, o5, o6, o7, o8⟩, hgo2⟩ := hiff.1 hgo; rcases hc4 with ⟨h1, h2⟩ | ⟨h1, h2⟩; exact absurd (o5 h1) (by omega); exact absurd (o6 h1) h2⟩, rfl⟩)
        · skip
          refine At.skip ?_
          refine At.seq ?_
          refine At.reg rfl ?_
          refine Run.fa Tb.F76_0 (h := ?_)
          refine Run.ld Tb.A22 (h := ?_)
          refine Run.mv (h := ?_)
          refine Run.eq (h := ?_)
          refine Run.as (h := ?_)
          refine Run.fin ?_
          refine At.seq ?_
          refine At.seq ?_
          refine At.draw [(0, 0), (1, 0), (2, 0), (3, 0), (4, 0), (5, 0), (6, 0), (7, 1), (8, 0), (9, 0), (10, 0), (11, 0), (12, 1), (13, 0), (14, 1), (15, 0), (16, 0)] Tb.mixed (by kernel_rfl) ?_
          refine Run.mv (h := ?_)
          refine Run.gt (h := ?_)
          refine Run.mv (h := ?_)
          refine Run.andB 1 2 (ht := fun hg91 => by
              refine Run.mv (h := ?_)
              exact Run.fin_sc ScEnd.here) (hrest := ?_)
          refine Run.mv (h := ?_)
          refine Run.andB 10 5 (bq := decide (prevAt (pures rs) k = some r.1.hole)) (ht := fun hg103 => by
              refine Run.fa Tb.F28_3 (h := ?_)
              refine Run.ld Tb.A26 (h := ?_)
              refine Run.mv (h := ?_)
              refine Run.sub (h := ?_)
              refine Run.eqi (b := ((k - 1 : Nat) : Int)) (by rw [wi64 (by omega) (by omega)]; omega) ?_
              obtain ⟨r0, hr0⟩ : ∃ r, rs[k - 1]? = some r := ⟨rs[k - 1]'(by omega), List.getElem?_eq_getElem _⟩
              refine Run.iaR (ht := Tb.L26) (hR := hr.sub) (hj := rfl) (h1 := by simp; omega) (hn := by omega) (h := ?_)
              refine Run.fa Tb.F76_2 (h := ?_)
              refine Run.ldr (ht := Tb.A4) (hR := hr.sub) (hj := cells_at hr0) (h := ?_)
              refine Run.fa Tb.F76_2 (h := ?_)
              refine Run.ld Tb.A4 (h := ?_)
              refine Run.eqV (h0 := .bool Tb.I4) (h := ?_)
              refine Run.eqv (v' := .bool (decide (prevAt (pures rs) k = some r.1.hole))) (by rw [prevAt_pos hr0 (by omega)]; cases r0.1.hole <;> cases r.1.hole <;> rfl) ?_
              exact Run.fin_sc ScEnd.here) (hrest := ?_)
          refine Run.fin ?_
          refine At.cnd' (ht := fun hc5 => ?_) (hf := fun hc5 => ?_)
          · skip
            refine At.seq ?_
            refine At.reg rfl ?_
            refine Run.as (h := ?_)
            refine Run.fin ?_
            refine At.ret ?_
            refine At.then_ret ?_
            refine At.inb_ret ?_
            refine At.then_ret ?_
            refine At.then_ret ?_
            refine At.inb_ret ?_
            refine At.then_ret ?_
            exact At.done (hΦ := by exact ⟨false, rfl, ⟨(fun h => by cases h), fun hm => by obtain ⟨m1, m2, m3, m4, hgo⟩ := hm; obtain ⟨⟨o1, o2, o3, o4, o5, o6, o7, o8⟩, hgo2⟩ := hiff.1 hgo; exact absurd ⟨hc5.2, hc5.1.2⟩ o7⟩, rfl⟩)
          · skip
            refine At.skip ?_
            refine At.seq ?_
            refine At.seq ?_
            refine At.reg rfl ?_
            refine Run.fa Tb.F28_1 (h := ?_)
            refine Run.ld Tb.A22 (h := ?_)
            refine Run.eq (h := ?_)
            refine Run.mv (h := ?_)
            refine Run.andB 2 3 (ht := fun hg110 => by
                refine Run.mv (h := ?_)
                refine Run.not (h := ?_)
                exact Run.fin_sc ScEnd.here) (hrest := ?_)
            refine Run.fin ?_
            refine At.cnd' (ht := fun hc6 => ?_) (hf := fun hc6 => ?_)
            · skip
              refine At.seq ?_
              refine At.reg rfl ?_
              refine Run.as (h := ?_)
              refine Run.fin ?_
              refine At.ret ?_
              refine At.then_ret ?_
              refine At.inb_ret ?_
              refine At.then_ret ?_
              refine At.then_ret ?_
              refine At.inb_ret ?_
              refine At.then_ret ?_
              exact At.done (hΦ := by exact ⟨false, rfl, ⟨(fun h => by cases h), fun hm => by obtain ⟨m1, m2, m3, m4, hgo⟩ := hm; obtain ⟨⟨o1, o2, o3, o4, o5, o6, o7, o8⟩, hgo2⟩ := hiff.1 hgo; exact absurd (o8 hc6.1) hc6.2⟩, rfl⟩)
            · skip
              have hall : okRun par size (endAt (pures rs) k) (prevAt (pures rs) k) r.1 := ⟨by omega, by omega, by omega, by omega, fun h => Decidable.byContradiction fun h2 => hc4 (Or.inl ⟨h, by omega⟩), fun h => Decidable.byContradiction fun h2 => hc4 (Or.inr ⟨h, h2⟩), fun ⟨h1, h2⟩ => hc5 ⟨⟨by rcases Nat.eq_zero_or_pos k with rfl | h; simp [prevAt] at h1; omega, h2⟩, h1⟩, fun h => Decidable.byContradiction fun h2 => hc6 ⟨h, h2⟩⟩
              have hend : endAt (pures rs) (k + 1) = r.1.off + r.1.len := by simp [endAt, pures_at hrk]
              refine At.skip ?_
              refine At.reg rfl ?_
              refine Run.fa Tb.F76_0 (h := ?_)
              refine Run.ld Tb.A22 (h := ?_)
              refine Run.fa Tb.F76_1 (h := ?_)
              refine Run.ld Tb.A22 (h := ?_)
              refine Run.add (h := ?_)
              refine Run.eqi (b := endAt (pures rs) (k + 1)) (by rw [hend]; exact wu64 (by omega) (by omega)) ?_
              refine Run.as (h := ?_)
              refine Run.fin ?_
              refine At.inb_norm ?_
              refine At.reg rfl ?_
              refine Run.add (h := ?_)
              refine Run.eqi (b := ((k + 1 : Nat) : Int)) (by rw [wi64 (by omega) (by omega)]; omega) ?_
              refine Run.mv (h := ?_)
              refine Run.fin ?_
              exact At.again (k + 1) (⟨by omega, ⟨fun h => (hiff.1 h).2, fun h => hiff.2 ⟨hall, h⟩⟩, by rw [hend]; omega, by rw [hend]; omega⟩) (by omega)
    · skip
      refine At.exit ?_
      refine At.then_exit ?_
      refine At.then_exit ?_
      refine At.inb_hit ?_
      refine At.seq ?_
      refine At.reg rfl ?_
      refine Run.fa Tb.F28_1 (h := ?_)
      refine Run.ld Tb.A22 (h := ?_)
      refine Run.ne (h := ?_)
      refine Run.mv (h := ?_)
      refine Run.orB 4 3 (ht := fun hg125 => by
          refine Run.mv (h := ?_)
          refine Run.fa Tb.F28_2 (h := ?_)
          refine Run.ld Tb.A22 (h := ?_)
          refine Run.eq (h := ?_)
          exact Run.fin_sc ScEnd.here) (hrest := ?_)
      refine Run.as (h := ?_)
      refine Run.fin ?_
      refine At.ret ?_
      have hkn : k = n := by omega
      rw [hkn, List.drop_of_length_le (by simp [pures, hn])] at hiff
      exact At.done (hΦ := by exact ⟨_, rfl, by rw [hkn]; simp only [May, hiff, MayGo, Bool.or_eq_true, decide_eq_true_eq]; omega, rfl⟩)
theorem rcheck {w0 : World} {L : List HP} {id par size : Int} {ao : Option Addr} {n cp : Nat} {rs : List RV} (hr : RdS w0 L 4 ao (rs.map cellsV)) (hn : n = rs.length) (hle : n ≤ 1099511627776) (hok : ∀ r ∈ rs, RnOk r.1) (hsz : 0 ≤ size ∧ size < 18446744073709551616) :
    CallOk Tb.P w0 L 33 [.agg #[.int .u64 id, .int .u64 par, .int .u64 size, .slice ao n cp]] fun u L' => ∃ b : Bool, u = .int .i64 (if b then 0 else 250) ∧ (b = true ↔ May ⟨id, par, size, pures rs⟩) ∧ L' = L := by
  refine enter Try.func33 rfl Try.ntmps33 (Nat.le_of_ble_eq_true rfl) ?_
  refine At.seq ?_
  refine At.reg rfl ?_
  refine Run.bx (h := fun g1 => ?_)
  refine Run.as (h := ?_)
  refine Run.fin ?_
  refine At.seq ?_
  refine At.seq ?_
  refine At.reg rfl ?_
  refine Run.fa Tb.F28_0 (h := ?_)
  refine Run.ld Tb.A22 (h := ?_)
  refine Run.eq (h := ?_)
  refine Run.mv (h := ?_)
  refine Run.orB 5 3 (ht := fun hg15 => by
      refine Run.fa Tb.F28_0 (h := ?_)
      refine Run.ld Tb.A22 (h := ?_)
      refine Run.fa Tb.F28_1 (h := ?_)
      refine Run.ld Tb.A22 (h := ?_)
      refine Run.eq (h := ?_)
      exact Run.fin_sc ScEnd.here) (hrest := ?_)
  refine Run.mv (h := ?_)
  refine Run.orB 3 10 (ht := fun hg20 => by
      refine Run.fa Tb.F28_2 (h := ?_)
      refine Run.ld Tb.A22 (h := ?_)
      refine Run.lt (h := ?_)
      exact Run.fin_sc ScEnd.here) (hrest := ?_)
  refine Run.mv (h := ?_)
  refine Run.orB 3 15 (ht := fun hg25 => by
      refine Run.fa Tb.F28_2 (h := ?_)
      refine Run.ld Tb.A22 (h := ?_)
      refine Run.gt (h := ?_)
      exact Run.fin_sc ScEnd.here) (hrest := ?_)
  refine Run.fin ?_
  refine At.cnd' (ht := fun hc1 => ?_) (hf := fun hc1 => ?_)
  · skip
    refine At.seq ?_
    refine At.reg rfl ?_
    refine Run.as (h := ?_)
    refine Run.fin ?_
    refine At.ret ?_
    refine At.then_ret ?_
    exact At.done (hΦ := by exact ⟨false, rfl, ⟨(fun h => by cases h), fun hm => by obtain ⟨m1, m2, m3, m4, hgo⟩ := hm; simp only at *; omega⟩, rfl⟩)
  · skip
    refine At.skip ?_
    refine At.seq ?_
    refine At.reg rfl ?_
    refine Run.as (h := ?_)
    refine Run.fin ?_
    refine At.seq ?_
    refine At.seq ?_
    refine At.reg rfl ?_
    refine Run.as (h := ?_)
    refine Run.fin ?_
    refine At.block ?_
    refine At.loop (α := Nat) (fun k => ⟨[(1, .pointer (some ⟨g1, 0, none⟩)), (4, .int .i64 k), (3, .int .u64 (endAt (pures rs) k))], cel g1 28 [.int .u64 id, .int .u64 par, .int .u64 size, .slice ao n cp] :: L, []⟩) (fun k => k ≤ n ∧ (MayGo par size 0 none (pures rs) ↔ MayGo par size (endAt (pures rs) k) (prevAt (pures rs) k) ((pures rs).drop k)) ∧ 0 ≤ endAt (pures rs) k ∧ endAt (pures rs) k ≤ size) (fun k => n - k) (0) (⟨Nat.zero_le _, Iff.rfl, Int.le_refl _, by show (0 : Int) ≤ size; omega⟩) (Ent.of (by repeat (first | exact SubE.nil | refine SubE.cons (by first | rfl | (show some _ = some _; simp; done)) ?_)) (by repeat (first | exact SubL.refl | refine SubL.cons (by repeat (first | exact Pick.here | apply Pick.there)) ?_ | refine SubL.skip ?_ | exact SubL.nil))) (fun k hx => ?_)
    obtain ⟨hk, hiff, he0, he1⟩ := hx
    refine At.seq ?_
    refine At.seq ?_
    refine At.reg rfl ?_
    refine Run.mv (h := ?_)
    refine Run.fa Tb.F28_3 (h := ?_)
    refine Run.ld Tb.A26 (h := ?_)
    refine Run.len Tb.L26 (h := ?_)
    refine Run.lt (h := ?_)
    refine Run.fin ?_
    refine At.cnd' (ht := fun hc2 => ?_) (hf := fun hc2 => ?_)
    · skip
      obtain ⟨r, hrk⟩ : ∃ r, rs[k]? = some r := ⟨rs[k]'(by omega), List.getElem?_eq_getElem _⟩
      obtain ⟨q1, q2, q3, q4, q5, q6⟩ := hok r (List.mem_of_getElem? hrk)
      rw [MayGo_drop (pures_at hrk)] at hiff
      refine At.skip ?_
      refine At.seq ?_
      refine At.block ?_
      refine At.seq ?_
      refine At.reg rfl ?_
      refine Run.fa Tb.F28_3 (h := ?_)
      refine Run.ld Tb.A26 (h := ?_)
      refine Run.mv (h := ?_)
      refine Run.iaR (ht := Tb.L26) (hR := hr.sub) (hj := rfl) (h1 := by simp; omega) (hn := by omega) (h := ?_)
      refine Run.ldrA (ht := Tb.A76) (hn := Tb.S76) (hR := hr.sub) (hj := cells_at hrk) (h := ?_)
      refine Run.al Tb.Z76 (h := fun g5 => ?_)
      refine Run.st Tb.S76 (h := ?_)
      refine Run.fin ?_
      refine At.seq ?_
      refine At.seq ?_
      refine At.reg rfl ?_
      refine Run.fa Tb.F76_1 (h := ?_)
      refine Run.ld Tb.A22 (h := ?_)
      refine Run.lt (h := ?_)
      refine Run.mv (h := ?_)
      refine Run.orB 4 3 (ht := fun hg46 => by
          refine Run.fa Tb.F76_0 (h := ?_)
          refine Run.ld Tb.A22 (h := ?_)
          refine Run.mv (h := ?_)
          refine Run.lt (h := ?_)
          exact Run.fin_sc ScEnd.here) (hrest := ?_)
      refine Run.mv (h := ?_)
      refine Run.orB 5 9 (ht := fun hg53 => by
          refine Run.fa Tb.F76_0 (h := ?_)
          refine Run.ld Tb.A22 (h := ?_)
          refine Run.fa Tb.F28_2 (h := ?_)
          refine Run.ld Tb.A22 (h := ?_)
          refine Run.gt (h := ?_)
          exact Run.fin_sc ScEnd.here) (hrest := ?_)
      refine Run.mv (h := ?_)
      refine Run.orB 8 16 (ht := fun hg63 => by
          refine Run.fa Tb.F76_1 (h := ?_)
          refine Run.ld Tb.A22 (h := ?_)
          refine Run.fa Tb.F28_2 (h := ?_)
          refine Run.ld Tb.A22 (h := ?_)
          refine Run.fa Tb.F76_0 (h := ?_)
          refine Run.ld Tb.A22 (h := ?_)
          refine Run.sub (h := ?_)
          refine Run.eqi (b := size - r.1.off) (wu64 (by omega) (by omega)) ?_
          refine Run.gt (h := ?_)
          exact Run.fin_sc ScEnd.here) (hrest := ?_)
      refine Run.fin ?_
      refine At.cnd' (ht := fun hc3 => ?_) (hf := fun hc3 => ?_)
      · skip
        refine At.seq ?_
        refine At.reg rfl ?_
        refine Run.as (h := ?_)
        refine Run.fin ?_
        refine At.ret ?_
        refine At.then_ret ?_
        refine At.inb_ret ?_
        refine At.then_ret ?_
        refine At.then_ret ?_
        refine At.inb_ret ?_
        refine At.then_ret ?_
        exact At.done (hΦ := by exact ⟨false, rfl, ⟨(fun h => by cases h), fun hm => by obtain ⟨m1, m2, m3, m4, hgo⟩ := hm; obtain ⟨⟨o1, o2, o3, o4, o5, o6, o7, o8⟩, hgo2⟩ := hiff.1 hgo; simp only at *; omega⟩, rfl⟩)
      · skip
        refine At.skip ?_
        refine At.seq ?_
        refine At.seq ?_
        refine At.reg rfl ?_
        refine Run.fa Tb.F76_2 (h := ?_)
        refine Run.ld Tb.A4 (h := ?_)
        refine Run.mv (h := ?_)
        refine Run.andB 4 2 (ht := fun hg71 => by
            refine Run.fa Tb.F76_3 (h := ?_)
            refine Run.ld Tb.A23 (h := ?_)
            refine Run.len Tb.L23 (h := ?_)
            refine Run.gt (h := ?_)
            exact Run.fin_sc ScEnd.here) (hrest := ?_)
        refine Run.mv (h := ?_)
        refine Run.orB 12 8 (bq := !r.1.hole && decide ((r.1.data.length : Int) ≠ r.1.len)) (ht := fun hg85 => by
            refine Run.fa Tb.F76_2 (h := ?_)
            refine Run.ld Tb.A4 (h := ?_)
            refine Run.not (h := ?_)
            refine Run.mv (h := ?_)
            refine Run.andB 7 12 (ht := fun hg84 => by
                refine Run.fa Tb.F76_3 (h := ?_)
                refine Run.ld Tb.A23 (h := ?_)
                refine Run.len Tb.L23 (h := ?_)
                refine Run.cvf Tb.I3 Tb.I22 (hw := by exact wu64 (by omega) (by omega)) (h := ?_)
                refine Run.fa Tb.F76_1 (h := ?_)
                refine Run.ld Tb.A22 (h := ?_)
                refine Run.ne (h := ?_)
                exact Run.fin_sc ScEnd.here) (hrest := ?_)
            exact Run.fin_sc ScEnd.here) (hrest := ?_)
        refine Run.fin ?_
        refine At.cnd' (ht := fun hc4 => ?_) (hf := fun hc4 => ?_)
        · skip
          refine At.seq ?_
          refine At.reg rfl ?_
          refine Run.as (h := ?_)
          refine Run.fin ?_
          refine At.ret ?_
          refine At.then_ret ?_
          refine At.inb_ret ?_
          refine At.then_ret ?_
          refine At.then_ret ?_
          refine At.inb_ret ?_
          refine At.then_ret ?_
          exact At.done (hΦ := by exact ⟨false, rfl, ⟨(fun h => by cases h), fun hm => by obtain ⟨m1, m2, m3, m4, hgo⟩ := hm; obtain ⟨⟨o1, o2, o3, o4, o5, o6, o7, o8⟩, hgo2⟩ := hiff.1 hgo; rcases hc4 with ⟨h1, h2⟩ | ⟨h1, h2⟩; exact absurd (o5 h1) (by omega); exact absurd (o6 h1) h2⟩, rfl⟩)
        · skip
          refine At.skip ?_
          refine At.seq ?_
          refine At.seq ?_
          refine At.reg rfl ?_
          refine Run.fa Tb.F76_0 (h := ?_)
          refine Run.ld Tb.A22 (h := ?_)
          refine Run.mv (h := ?_)
          refine Run.gt (h := ?_)
          refine Run.mv (h := ?_)
          refine Run.andB 3 4 (ht := fun hg94 => by
              refine Run.fa Tb.F28_1 (h := ?_)
              refine Run.ld Tb.A22 (h := ?_)
              refine Run.eq (h := ?_)
              exact Run.fin_sc ScEnd.here) (hrest := ?_)
          refine Run.fin ?_
          refine At.cnd' (ht := fun hc6 => ?_) (hf := fun hc6 => ?_)
          · skip
            refine At.seq ?_
            refine At.reg rfl ?_
            refine Run.as (h := ?_)
            refine Run.fin ?_
            refine At.ret ?_
            refine At.then_ret ?_
            refine At.inb_ret ?_
            refine At.then_ret ?_
            refine At.then_ret ?_
            refine At.inb_ret ?_
            refine At.then_ret ?_
            exact At.done (hΦ := by exact ⟨false, rfl, ⟨(fun h => by cases h), fun hm => by obtain ⟨m1, m2, m3, m4, hgo⟩ := hm; obtain ⟨⟨o1, o2, o3, o4, o5, o6, o7, o8⟩, hgo2⟩ := hiff.1 hgo; have := o8 hc6.2; omega⟩, rfl⟩)
          · skip
            refine At.skip ?_
            refine At.seq ?_
            refine At.seq ?_
            refine At.draw [(0, 0), (1, 0), (2, 0), (3, 0), (4, 1), (5, 0), (6, 0), (7, 0), (8, 0), (9, 0), (10, 1), (11, 0), (12, 1), (13, 0), (14, 0), (15, 0), (16, 0), (17, 1), (18, 0), (19, 0)] Tb.mixed (by kernel_rfl) ?_
            refine Run.mv (h := ?_)
            refine Run.gt (h := ?_)
            refine Run.mv (h := ?_)
            refine Run.andB 4 2 (ht := fun hg102 => by
                refine Run.fa Tb.F76_0 (h := ?_)
                refine Run.ld Tb.A22 (h := ?_)
                refine Run.mv (h := ?_)
                refine Run.eq (h := ?_)
                exact Run.fin_sc ScEnd.here) (hrest := ?_)
            refine Run.mv (h := ?_)
            refine Run.andB 10 8 (bq := decide (prevAt (pures rs) k = some r.1.hole)) (ht := fun hg114 => by
                refine Run.fa Tb.F76_2 (h := ?_)
                refine Run.ld Tb.A4 (h := ?_)
                refine Run.fa Tb.F28_3 (h := ?_)
                refine Run.ld Tb.A26 (h := ?_)
                refine Run.mv (h := ?_)
                refine Run.sub (h := ?_)
                refine Run.eqi (b := ((k - 1 : Nat) : Int)) (by rw [wi64 (by omega) (by omega)]; omega) ?_
                obtain ⟨r0, hr0⟩ : ∃ r, rs[k - 1]? = some r := ⟨rs[k - 1]'(by omega), List.getElem?_eq_getElem _⟩
                refine Run.iaR (ht := Tb.L26) (hR := hr.sub) (hj := rfl) (h1 := by simp; omega) (hn := by omega) (h := ?_)
                refine Run.fa Tb.F76_2 (h := ?_)
                refine Run.ldr (ht := Tb.A4) (hR := hr.sub) (hj := cells_at hr0) (h := ?_)
                refine Run.eqV (h0 := .bool Tb.I4) (h := ?_)
                refine Run.eqv (v' := .bool (decide (prevAt (pures rs) k = some r.1.hole))) (by rw [prevAt_pos hr0 (by omega)]; cases r0.1.hole <;> cases r.1.hole <;> rfl) ?_
                exact Run.fin_sc ScEnd.here) (hrest := ?_)
            refine Run.fin ?_
            refine At.cnd' (ht := fun hc5 => ?_) (hf := fun hc5 => ?_)
            · skip
              refine At.seq ?_
              refine At.reg rfl ?_
              refine Run.as (h := ?_)
              refine Run.fin ?_
              refine At.ret ?_
              refine At.then_ret ?_
              refine At.inb_ret ?_
              refine At.then_ret ?_
              refine At.then_ret ?_
              refine At.inb_ret ?_
              refine At.then_ret ?_
              exact At.done (hΦ := by exact ⟨false, rfl, ⟨(fun h => by cases h), fun hm => by obtain ⟨m1, m2, m3, m4, hgo⟩ := hm; obtain ⟨⟨o1, o2, o3, o4, o5, o6, o7, o8⟩, hgo2⟩ := hiff.1 hgo; exact absurd ⟨hc5.2, hc5.1.2⟩ o7⟩, rfl⟩)
            · skip
              have hall : okRun par size (endAt (pures rs) k) (prevAt (pures rs) k) r.1 := ⟨by omega, by omega, by omega, by omega, fun h => Decidable.byContradiction fun h2 => hc4 (Or.inl ⟨h, by omega⟩), fun h => Decidable.byContradiction fun h2 => hc4 (Or.inr ⟨h, h2⟩), fun ⟨h1, h2⟩ => hc5 ⟨⟨by rcases Nat.eq_zero_or_pos k with rfl | h; simp [prevAt] at h1; omega, h2⟩, h1⟩, fun h => Decidable.byContradiction fun h2 => hc6 ⟨by omega, h⟩⟩
              have hend : endAt (pures rs) (k + 1) = r.1.off + r.1.len := by simp [endAt, pures_at hrk]
              refine At.skip ?_
              refine At.reg rfl ?_
              refine Run.fa Tb.F76_0 (h := ?_)
              refine Run.ld Tb.A22 (h := ?_)
              refine Run.fa Tb.F76_1 (h := ?_)
              refine Run.ld Tb.A22 (h := ?_)
              refine Run.add (h := ?_)
              refine Run.eqi (b := endAt (pures rs) (k + 1)) (by rw [hend]; exact wu64 (by omega) (by omega)) ?_
              refine Run.as (h := ?_)
              refine Run.fin ?_
              refine At.inb_norm ?_
              refine At.reg rfl ?_
              refine Run.mv (h := ?_)
              refine Run.add (h := ?_)
              refine Run.eqi (b := ((k + 1 : Nat) : Int)) (by rw [wi64 (by omega) (by omega)]; omega) ?_
              refine Run.as (h := ?_)
              refine Run.fin ?_
              exact At.again (k + 1) (⟨by omega, ⟨fun h => (hiff.1 h).2, fun h => hiff.2 ⟨hall, h⟩⟩, by rw [hend]; omega, by rw [hend]; omega⟩) (by omega)
    · skip
      refine At.exit ?_
      refine At.then_exit ?_
      refine At.then_exit ?_
      refine At.inb_hit ?_
      refine At.seq ?_
      refine At.seq ?_
      refine At.reg rfl ?_
      refine Run.fa Tb.F28_1 (h := ?_)
      refine Run.ld Tb.A22 (h := ?_)
      refine Run.eq (h := ?_)
      refine Run.mv (h := ?_)
      refine Run.andB 4 3 (ht := fun hg128 => by
          refine Run.mv (h := ?_)
          refine Run.fa Tb.F28_2 (h := ?_)
          refine Run.ld Tb.A22 (h := ?_)
          refine Run.ne (h := ?_)
          exact Run.fin_sc ScEnd.here) (hrest := ?_)
      refine Run.fin ?_
      refine At.cnd' (ht := fun hc8 => ?_) (hf := fun hc8 => ?_)
      · skip
        refine At.seq ?_
        refine At.reg rfl ?_
        refine Run.as (h := ?_)
        refine Run.fin ?_
        refine At.ret ?_
        refine At.then_ret ?_
        have hkn : k = n := by omega
        rw [hkn, List.drop_of_length_le (by simp [pures, hn])] at hiff
        rw [hkn] at hc8
        exact At.done (hΦ := by exact ⟨false, rfl, by simp only [May, hiff, MayGo, Bool.false_eq_true, false_iff]; omega, rfl⟩)
      · skip
        refine At.skip ?_
        refine At.seq ?_
        refine At.reg rfl ?_
        refine Run.as (h := ?_)
        refine Run.fin ?_
        refine At.ret ?_
        have hkn : k = n := by omega
        rw [hkn, List.drop_of_length_le (by simp [pures, hn])] at hiff
        rw [hkn] at hc8
        exact At.done (hΦ := by exact ⟨true, rfl, by simp only [May, hiff, MayGo, true_iff]; omega, rfl⟩)
end Go.Proofs.Ytllpfpdanonhkaa
