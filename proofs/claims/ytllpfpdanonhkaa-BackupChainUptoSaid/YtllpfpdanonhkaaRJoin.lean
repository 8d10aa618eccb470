/- Walk: the reference joins two archives. No condition. -/
import Derived.Test.YtllpfpdanonhkaaJoin
import Derived.Test.YtllpfpdanonhkaaRRs
set_option maxRecDepth 8000
set_option maxHeartbeats 4000000
set_option linter.unusedVariables false
set_option linter.unusedSimpArgs false
namespace Go.Proofs.Ytllpfpdanonhkaa
open Go.Sx Go.RowKit

theorem rcheck2 {w0 : World} {L : List HP} {v : AV} (hr : RdS w0 L 4 v.ao (v.rs.map cellsV)) (ho : AvOk v) : CallOk Tb.P w0 L 33 [.agg #[.int .u64 v.id, .int .u64 v.par, .int .u64 v.size, .slice v.ao v.rs.length v.cp]] fun u L' => u = .int .i64 (if May v.ar then 0 else 250) ∧ L' = L :=
  (rcheck hr rfl ho.2.2.2.1 ho.2.2.2.2 ho.2.2.1).mono fun u L' ⟨b, h1, h2, h3⟩ => ⟨by rw [h1]; congr 1; cases b <;> simp_all [AV.ar], h3⟩
theorem may_fit {v : AV} {N : Nat} (hm : May v.ar) (ho : AvOk v) (hN : v.size.toNat = N) : ∀ r ∈ pures v.rs, RunFit N r := fun r hr => by
  obtain ⟨q1, q2, q3, q4, q5⟩ := MayGo_mem (fun z hz => by
      obtain ⟨w, hw, rfl⟩ := List.mem_map.1 hz
      exact (ho.2.2.2.2 w hw).2.2.1) (Int.le_refl _) hm.2.2.2.2 r hr
  exact ⟨q1, q2, by simp only [AV.ar] at q3; omega, fun h => by have := q5 h; omega⟩
def cells2 (X Y : Ar) : List Cl := putCs (putCs (List.replicate X.size.toNat clZ) X.runs) Y.runs
theorem runCells_ok {r : Rn} (h : Byt r.data) : ∀ c ∈ runCells r, ClOk c := fun c hc => by
  unfold runCells at hc
  split at hc
  · rw [(List.mem_replicate.1 hc).2]; exact ⟨by decide, by decide⟩
  · obtain ⟨v, hv, rfl⟩ := List.mem_map.1 hc
    exact h v hv
theorem putC_ok {cs : List Cl} {r : Rn} (h : ∀ c ∈ cs, ClOk c) (hr : Byt r.data) : ∀ c ∈ putC cs r, ClOk c := fun c hc => by
  unfold putC at hc
  rcases List.mem_append.1 hc with hc | hc
  · exact h c (List.mem_of_mem_take hc)
  · rcases List.mem_append.1 hc with hc | hc
    · exact runCells_ok hr c hc
    · exact h c (List.mem_of_mem_drop hc)
theorem putCs_ok : ∀ {rs : List Rn} {cs : List Cl}, (∀ c ∈ cs, ClOk c) → (∀ r ∈ rs, Byt r.data) → ∀ c ∈ putCs cs rs, ClOk c
  | [], cs, h, _ => h
  | r :: rs, cs, h, hr => putCs_ok (rs := rs) (cs := putC cs r) (putC_ok h (hr r List.mem_cons_self)) fun x hx => hr x (List.mem_cons_of_mem _ hx)
theorem byt_av {v : AV} (ho : AvOk v) : ∀ r ∈ pures v.rs, Byt r.data := fun r hr => by
  obtain ⟨w, hw, rfl⟩ := List.mem_map.1 hr
  exact (ho.2.2.2.2 w hw).2.2.2.2.2

theorem rjoin {w0 : World} {L : List HP} {x y : AV} (hx : AvOk x) (hy : AvOk y) (hrx : RdA w0 L x) (hry : RdA w0 L y) :
    CallOk Tb.P w0 L 28 [.agg #[.int .u64 x.id, .int .u64 x.par, .int .u64 x.size, .slice x.ao x.rs.length x.cp], .agg #[.int .u64 y.id, .int .u64 y.par, .int .u64 y.size, .slice y.ao y.rs.length y.cp]] fun u L' => (¬ (May x.ar ∧ May y.ar) ∧ u = .tuple #[.agg #[.int .u64 0, .int .u64 0, .int .u64 0, .slice none 0 0], .int .i64 250] ∧ L' = L) ∨ ((May x.ar ∧ May y.ar) ∧ ¬ linkJ x.ar y.ar ∧ u = .tuple #[.agg #[.int .u64 0, .int .u64 0, .int .u64 0, .slice none 0 0], .int .i64 251] ∧ L' = L) ∨ ((May x.ar ∧ May y.ar) ∧ linkJ x.ar y.ar ∧ ∃ ao cp rs, pures rs = rruns (cells2 x.ar y.ar) ∧ (∀ r ∈ pures rs, RnB x.size.toNat r) ∧ u = .tuple #[.agg #[.int .u64 y.id, .int .u64 x.par, .int .u64 x.size, .slice ao rs.length cp], .int .i64 0] ∧ L' = Rns ao cp rs :: L) := by
  refine enter Try.func28 rfl Try.ntmps28 (Nat.le_of_ble_eq_true rfl) ?_
  refine At.seq ?_
  refine At.reg rfl ?_
  refine Run.bx (h := fun g2 => ?_)
  refine Run.bx (h := fun g3 => ?_)
  refine Run.al Tb.Z28 (h := fun g4 => ?_)
  refine Run.as (h := ?_)
  refine Run.fin ?_
  refine At.seq ?_
  refine At.seq ?_
  refine At.reg rfl ?_
  refine Run.ldA Tb.A28 Tb.S28 (h := ?_)
  refine Run.call Tb.N33 (hc := rcheck2 hrx.1.sub hx) (h := ?_)
  rintro _ _ ⟨rfl, rfl⟩
  refine Run.ne (h := ?_)
  refine Run.mv (h := ?_)
  refine Run.orB 3 3 (bq := decide ((if May y.ar then (0 : Int) else 250) ≠ 0)) (ht := fun hg14 => by
      refine Run.ldA Tb.A28 Tb.S28 (h := ?_)
      refine Run.call Tb.N33 (hc := rcheck2 hry.1.sub hy) (h := ?_)
      rintro _ _ ⟨rfl, rfl⟩
      refine Run.ne (h := ?_)
      exact Run.fin_sc ScEnd.here) (hrest := ?_)
  refine Run.fin ?_
  refine At.cnd' (ht := fun hc14 => ?_) (hf := fun hc14 => ?_)
  · skip
    refine At.seq ?_
    refine At.reg rfl ?_
    refine Run.bd Tb.B28 (h := ?_)
    refine Run.st Tb.S28 (h := ?_)
    refine Run.as (h := ?_)
    refine Run.fin ?_
    refine At.ret ?_
    refine At.then_ret ?_
    exact At.done (hΦ := by exact .inl ⟨fun h => by rw [if_pos h.1, if_pos h.2] at hc14; simp at hc14, rfl, rfl⟩) (hres := ResR.block (ht := Tb.A28) (hn := Tb.S28) (k := ResR.tmp rfl ResR.nil))
  · skip
    refine At.skip ?_
    refine At.seq ?_
    refine At.seq ?_
    refine At.reg rfl ?_
    refine Run.fa Tb.F28_1 (h := ?_)
    refine Run.ld Tb.A22 (h := ?_)
    refine Run.fa Tb.F28_0 (h := ?_)
    refine Run.ld Tb.A22 (h := ?_)
    refine Run.ne (h := ?_)
    refine Run.mv (h := ?_)
    refine Run.orB 5 5 (ht := fun hg27 => by
        refine Run.fa Tb.F28_2 (h := ?_)
        refine Run.ld Tb.A22 (h := ?_)
        refine Run.fa Tb.F28_2 (h := ?_)
        refine Run.ld Tb.A22 (h := ?_)
        refine Run.ne (h := ?_)
        exact Run.fin_sc ScEnd.here) (hrest := ?_)
    refine Run.mv (h := ?_)
    refine Run.orB 5 12 (ht := fun hg34 => by
        refine Run.fa Tb.F28_0 (h := ?_)
        refine Run.ld Tb.A22 (h := ?_)
        refine Run.fa Tb.F28_1 (h := ?_)
        refine Run.ld Tb.A22 (h := ?_)
        refine Run.eq (h := ?_)
        exact Run.fin_sc ScEnd.here) (hrest := ?_)
    refine Run.fin ?_
    refine At.cnd' (ht := fun hc34 => ?_) (hf := fun hc34 => ?_)
    · skip
      refine At.seq ?_
      refine At.reg rfl ?_
      refine Run.bd Tb.B28 (h := ?_)
      refine Run.st Tb.S28 (h := ?_)
      refine Run.as (h := ?_)
      refine Run.fin ?_
      refine At.ret ?_
      refine At.then_ret ?_
      exact At.done (hΦ := by exact .inr (.inl ⟨⟨Decidable.byContradiction fun h => hc14 (.inl (by rw [if_neg h]; decide)), Decidable.byContradiction fun h => hc14 (.inr (by rw [if_neg h]; decide))⟩, fun h => h hc34, rfl, rfl⟩)) (hres := ResR.block (ht := Tb.A28) (hn := Tb.S28) (k := ResR.tmp rfl ResR.nil))
    · skip
      refine At.skip ?_
      refine At.seq ?_
      have hmx : May x.ar := Decidable.byContradiction fun h => hc14 (.inl (by rw [if_neg h]; decide))
      have hmy : May y.ar := Decidable.byContradiction fun h => hc14 (.inr (by rw [if_neg h]; decide))
      have hys : y.size = x.size := by omega
      have hsz : x.size ≤ 33554432 := hmx.2.2.2.1
      have hsz1 : 1 ≤ x.size := hmx.2.2.1
      obtain ⟨N, hN⟩ : ∃ N, x.size.toNat = N := ⟨_, rfl⟩
      refine At.reg rfl ?_
      refine Run.fa Tb.F28_2 (h := ?_)
      refine Run.ld Tb.A22 (h := ?_)
      refine Run.mk (ht := Tb.G78) (hz1 := by simp [Value.oneCell']) (n := N) (ha := by omega) (hb := by omega) (hlen := by simp only [maxLen]; omega) (hby := by omega) (h := fun g38 => ?_)
      refine Run.as (h := ?_)
      refine Run.fin ?_
      refine At.seq ?_
      rw [show List.replicate N [Value.bool false, .bool false, .int .u8 0] = (List.replicate N clZ).map cellsC by simp [cellsC, clZ]]
      refine At.reg rfl ?_
      refine Run.mv (h := ?_)
      refine Run.ldA Tb.A28 Tb.S28 (h := ?_)
      refine Run.call Tb.N54 (hc := rlay (cs := (List.replicate N clZ)) (by repeat (first | exact Pick.here | apply Pick.there)) (by simp) hrx.1.sub (fun r h => (hrx.2 r h).sub) hx.2.2.2.1 (may_fit hmx hx hN) (by omega)) (h := ?_)
      rintro _ _ ⟨rfl, rfl⟩
      refine Run.fin ?_
      refine At.seq ?_
      refine At.reg rfl ?_
      refine Run.mv (h := ?_)
      refine Run.ldA Tb.A28 Tb.S28 (h := ?_)
      refine Run.call Tb.N54 (hc := rlay (cs := putCs (List.replicate N clZ) (pures x.rs)) (by repeat (first | exact Pick.here | apply Pick.there)) (putCs_len (may_fit hmx hx hN) (by simp)) hry.1.sub (fun r h => (hry.2 r h).sub) hy.2.2.2.1 (may_fit hmy hy (by omega)) (by omega)) (h := ?_)
      rintro _ _ ⟨rfl, rfl⟩
      refine Run.fin ?_
      refine At.seq ?_
      refine At.rowR (e := 80) (h := fun hRc _ _ _ => ?_)
      refine At.draw [(0, 0), (2, 0), (4, 0), (6, 0), (1, 1), (3, 1), (5, 1), (7, 3), (8, 0), (9, 3), (10, 0)] Tb.mixed (by kernel_rfl) ?_
      refine Run.fa Tb.F28_0 (h := ?_)
      refine Run.fa Tb.F28_1 (h := ?_)
      refine Run.fa Tb.F28_2 (h := ?_)
      refine Run.mv (h := ?_)
      refine Run.ld Tb.A22 (h := ?_)
      refine Run.ld Tb.A22 (h := ?_)
      refine Run.ld Tb.A22 (h := ?_)
      refine Run.call Tb.N36 (hc := runs_ (cs := putCs (putCs (List.replicate N clZ) (pures x.rs)) (pures y.rs)) (hRc (by repeat (first | exact Pick.here | apply Pick.there))) (putCs_len (may_fit hmy hy (by omega)) (putCs_len (may_fit hmx hx hN) (by simp))).symm (by omega) (putCs_ok (putCs_ok (fun c hc => by rw [(List.mem_replicate.1 hc).2]; exact ⟨by decide, by decide⟩) (byt_av hx)) (byt_av hy))) (hk := hkUse (fun _ _ hPhi w hs => by obtain ⟨ra, rc, rs, hpu, hB, hrl, rfl, rfl⟩ := hPhi; dsimp only; exact ldo_fact hs Tb.A22) (hkUse (fun _ _ hPhi w hs => by obtain ⟨ra, rc, rs, hpu, hB, hrl, rfl, rfl⟩ := hPhi; dsimp only; exact ldo_fact hs Tb.A22) (hkUse (fun _ _ hPhi w hs => by obtain ⟨ra, rc, rs, hpu, hB, hrl, rfl, rfl⟩ := hPhi; dsimp only; exact ldo_fact hs Tb.A22) (hkNil)))) (hin := nost (by kernel_rfl)) (h := ?_)
      rintro _ _ ⟨ra, rc, rs, hpu, hB, hrl, rfl, rfl⟩
      refine Run.bd Tb.B28 (h := ?_)
      refine Run.st Tb.S28 (hk := noun (by kernel_rfl)) (h := ?_)
      refine Run.as (h := ?_)
      refine Run.fin ?_
      refine At.ret ?_
      exact At.done (hΦ := by exact .inr (.inr ⟨⟨hmx, hmy⟩, hc34, ra, rc, rs, by rw [hpu, ← hN]; rfl, by rw [hN]; exact hB, rfl, rfl⟩)) (hres := ResR.block (ht := Tb.A28) (hn := Tb.S28) (k := ResR.tmp rfl ResR.nil))
end Go.Proofs.Ytllpfpdanonhkaa
