/- The walk of heads. No condition. -/
import Derived.Test.YtllpfpdanonhkaaRst
import Derived.Test.YtllpfpdanonhkaaSxStr
import Derived.KernelRfl
set_option maxRecDepth 8000
set_option maxHeartbeats 4000000
set_option linter.unusedVariables false
set_option linter.unusedSimpArgs false
namespace Go.Proofs.Ytllpfpdanonhkaa
open Go.Sx Go.RowKit

def hB1 : List Int := [0, 0, 0, 0, 97, 98, 99, 100]
def hB2 : List Int := [0, 0, 0, 0, 97, 98, 99, 88]
def hE1 : List Ex := [⟨0, 4, true, false, false⟩, ⟨4, 4, false, false, false⟩]
def hE2 : List Ex := [⟨0, 7, false, false, false⟩, ⟨7, 1, false, false, true⟩]
instance {b : List Int} {a : Int} {x : Ex} : Decidable (okEx b a x) := by unfold okEx; infer_instance
def decDevGo (b : List Int) : (a : Int) → (l : List Ex) → Decidable (DevGo b a l)
  | a, [] => inferInstanceAs (Decidable (a = b.length))
  | a, x :: l => @instDecidableAnd _ _ inferInstance (decDevGo b (a + x.len) l)
instance {b : List Int} {a : Int} {l : List Ex} : Decidable (DevGo b a l) := decDevGo b a l
instance {id par : Int} {b : List Int} : Decidable (badArg id par b) := by unfold badArg; infer_instance
theorem hE_ok {l : List Ex} (h : l = hE1 ∨ l = hE2) : ∀ x ∈ l, ExOk x := by
  rcases h with rfl | rfl <;> intro x hx <;> simp [hE1, hE2] at hx <;> rcases hx with rfl | rfl <;> simp [ExOk]
theorem hB_ok {l : List Int} (h : l = hB1 ∨ l = hB2) : Byt l := by
  rcases h with rfl | rfl <;> intro x hx <;> simp [hB1, hB2] at hx <;> omega

theorem _root_.Go.Sx.CallOkE.ok {P : Program} {w0 : World} {L : List HP} {f : FuncId} {args : List Value} {Φ : Value → List HP → Prop} (h : CallOkE P w0 L f args Φ (fun _ _ => False)) : CallOk P w0 L f args Φ := fun w hs =>
  (h w hs).mono fun _ _ he => by
    rcases he with he | ⟨_, _, he⟩
    · exact he
    · exact he.elim
def arsH : List Ar := [⟨1, 0, 8, mkRuns 0 hB1 hE1⟩, ⟨2, 1, 8, mkRuns 1 hB2 hE2⟩]
theorem arsH_ok : ChOk arsH 2 := fun i a hi ha => by
  have : i = 0 ∨ i = 1 := by omega
  rcases this with rfl | rfl
  · simp only [arsH, List.getElem?_cons_zero, Option.some.injEq] at ha
    subst ha
    exact ⟨by decide, fun _ => rfl, fun p h => absurd h (by decide)⟩
  · simp only [arsH, List.getElem?_cons_succ, List.getElem?_cons_zero, Option.some.injEq] at ha
    subst ha
    refine ⟨by decide, fun h => absurd h (by decide), fun p _ hp => ?_⟩
    simp only [arsH, Nat.sub_self, List.getElem?_cons_zero, Option.some.injEq] at hp
    subst hp
    exact ⟨rfl, rfl⟩
def encH2 : List Int := enc ⟨2, 1, 8, mkRuns 1 hB2 hE2⟩
theorem encH2_len : encH2.length = 70 := by kernel_rfl
theorem encH2_flip : dec (encH2.set 50 (bits .xor .u8 (encH2.getD 50 0) 1)) = .inl 253 := by kernel_rfl
theorem encH2_byt : encH2.all (fun b => decide (0 ≤ b) && decide (b < 256)) = true := by kernel_rfl
def fB : List Int := encH2.set 50 (bits .xor .u8 (encH2.getD 50 0) 1)
theorem fB_len : fB.length = 70 := by rw [fB, List.length_set, encH2_len]
theorem fB_byt : Byt fB := fun b hb => by
  have h : fB.all (fun b => decide (0 ≤ b) && decide (b < 256)) = true := by kernel_rfl
  have := List.all_eq_true.1 h b hb
  simp only [Bool.and_eq_true, decide_eq_true_eq] at this
  exact this
theorem arsH_rest : restP arsH = hB2 := by decide

theorem heads {w0 : World} {L : List HP}  :
    CallOk Tb.P w0 L 18 [] fun u L' => u = .bool true ∧ L' = L := by
  refine enter Try.func18 rfl Try.ntmps18 (Nat.le_of_ble_eq_true rfl) ?_
  refine At.seq ?_
  refine At.reg rfl ?_
  refine Run.as (h := ?_)
  refine Run.fin ?_
  refine At.seq ?_
  refine At.regK [2, 3, 0, 0, 2, 3, 0, 0, 0, 2, 3, 0] rfl rfl ?_
  refine Run.bs Tb.G23 (h := fun g13 => ?_)
  refine Run.cvz Tb.L23 Tb.I5 (h := ?_)
  refine Run.bd Tb.B37 (h := ?_)
  refine Run.bd Tb.B37 (h := ?_)
  refine Run.bs Tb.G24 (h := fun g17 => ?_)
  refine Run.call Tb.N12 (hc := make_ (b := hB1) (l := hE1) ⟨by decide, by decide⟩ ⟨by decide, by decide⟩ (RdS.fro (q := g13)) rfl (by decide) (by decide) (hB_ok (by simp)) (RdS.one (q := g17) (he := by simp [Els, hE1, cellsE, Value.oneCell'])) rfl (by decide) (hE_ok (by simp))) (h := ?_)
  rintro _ _ (⟨h, _⟩ | ⟨_, h, _⟩ | ⟨_, _, a1, c1, rs1, hp1, hq1, rfl, rfl⟩)
  · exact absurd h (by decide)
  · exact absurd (show DevGo hB1 0 hE1 by decide) h
  refine Run.mv (h := ?_)
  refine Run.ex (h := ?_)
  refine Run.ex (h := ?_)
  refine Run.al Tb.Z28 (h := fun g1 => ?_)
  refine Run.st Tb.S28 (h := ?_)
  refine Run.as (h := ?_)
  refine Run.fin ?_
  refine At.seq ?_
  refine At.regK [2, 3, 0, 0, 2, 3, 0, 0, 0, 2, 3, 0] rfl rfl ?_
  refine Run.bs Tb.G23 (h := fun g22 => ?_)
  refine Run.cvz Tb.L23 Tb.I5 (h := ?_)
  refine Run.bd Tb.B37 (h := ?_)
  refine Run.bd Tb.B37 (h := ?_)
  refine Run.bs Tb.G24 (h := fun g26 => ?_)
  refine Run.call Tb.N12 (hc := make_ (b := hB2) (l := hE2) ⟨by decide, by decide⟩ ⟨by decide, by decide⟩ (RdS.fro (q := g22)) rfl (by decide) (by decide) (hB_ok (by simp)) (RdS.one (q := g26) (he := by simp [Els, hE2, cellsE, Value.oneCell'])) rfl (by decide) (hE_ok (by simp))) (h := ?_)
  rintro _ _ (⟨h, _⟩ | ⟨_, h, _⟩ | ⟨_, _, a2, c2, rs2, hp2, hq2, rfl, rfl⟩)
  · exact absurd h (by decide)
  · exact absurd (show DevGo hB2 0 hE2 by decide) h
  refine Run.mv (h := ?_)
  refine Run.ex (h := ?_)
  refine Run.ex (h := ?_)
  refine Run.al Tb.Z28 (h := fun g3 => ?_)
  refine Run.st Tb.S28 (h := ?_)
  refine Run.as (h := ?_)
  refine Run.fin ?_
  refine At.seq ?_
  refine At.seq ?_
  have hl1 : rs1.length = 2 := by have := congrArg List.length hp1; rw [show (mkRuns 0 hB1 hE1).length = 2 by decide] at this; simpa [pures] using this
  have hl2 : rs2.length = 1 := by have := congrArg List.length hp2; rw [show (mkRuns 1 hB2 hE2).length = 1 by decide] at this; simpa [pures] using this
  refine At.reg rfl ?_
  refine Run.mv (h := ?_)
  refine Run.ne (h := ?_)
  refine Run.mv (h := ?_)
  refine Run.orB 2 2 (ht := fun hg35 => by
      refine Run.mv (h := ?_)
      refine Run.ne (h := ?_)
      exact Run.fin_sc ScEnd.here) (hrest := ?_)
  refine Run.mv (h := ?_)
  refine Run.orB 4 6 (ht := fun hg41 => by
      refine Run.fa Tb.F28_3 (h := ?_)
      refine Run.ld Tb.A26 (h := ?_)
      refine Run.len Tb.L26 (h := ?_)
      refine Run.ne (h := ?_)
      exact Run.fin_sc ScEnd.here) (hrest := ?_)
  refine Run.mv (h := ?_)
  refine Run.orB 4 12 (ht := fun hg47 => by
      refine Run.fa Tb.F28_3 (h := ?_)
      refine Run.ld Tb.A26 (h := ?_)
      refine Run.len Tb.L26 (h := ?_)
      refine Run.ne (h := ?_)
      exact Run.fin_sc ScEnd.here) (hrest := ?_)
  refine Run.fin ?_
  refine At.cnd' (ht := fun hc47 => ?_) (hf := fun hc47 => ?_)
  · skip
    exact absurd hc47 (by simp [hl1, hl2])
  · skip
    refine At.skip ?_
    refine At.seq ?_
    refine At.rns (ao := a1) (cp := c1) (rs := rs1) (h := fun hr1 _ _ => ?_)
    refine At.rns (ao := a2) (cp := c2) (rs := rs2) (h := fun hr2 _ _ => ?_)
    have hal : List.map AV.ar [⟨1, 0, 8, a1, c1, rs1⟩, ⟨2, 1, 8, a2, c2, rs2⟩] = arsH := by simp [AV.ar, arsH, hp1, hp2]
    refine At.reg rfl ?_
    refine Run.ldA Tb.A28 Tb.S28 (h := ?_)
    refine Run.ldA Tb.A28 Tb.S28 (h := ?_)
    refine Run.bs Tb.G53 (h := fun g51 => ?_)
    refine Run.call Tb.N25 (hc := restore (l := [⟨1, 0, 8, a1, c1, rs1⟩, ⟨2, 1, 8, a2, c2, rs2⟩]) (RdS.one (q := g51) (he := by simp [Els, cellsA, Value.oneCell'])) rfl (by simp) (fun v hv => by
    rcases List.mem_cons.1 hv with rfl | hv
    · exact ⟨by simp, by simp, by simp, by simp [hl1], fun r hr => (hq1 r.1 (List.mem_map.2 ⟨r, hr, rfl⟩)).1⟩
    · rw [List.mem_singleton.1 hv]; exact ⟨by simp, by simp, by simp, by simp [hl2], fun r hr => (hq2 r.1 (List.mem_map.2 ⟨r, hr, rfl⟩)).1⟩) (fun v hv => by
    rcases List.mem_cons.1 hv with rfl | hv
    · exact hr1 (by repeat (first | exact Pick.here | apply Pick.there))
    · rw [List.mem_singleton.1 hv]; exact hr2 (by repeat (first | exact Pick.here | apply Pick.there)))) (h := ?_)
    rintro _ _ (⟨h, _⟩ | ⟨i, a, e, _, ha, hbad, _⟩ | ⟨_, _, q, N, hN, rfl, rfl⟩)
    · cases h
    · rw [hal] at ha hbad
      have hi : i < 2 := (List.getElem?_eq_some_iff.1 ha).1
      obtain ⟨k1, k2⟩ := arsH_ok i a hi ha
      rcases hbad with ⟨h, _⟩ | ⟨_, h, _⟩
      · exact absurd k1 h
      · exact absurd k2 h
    rw [hal, arsH_rest] at hN ⊢
    subst hN
    refine Run.mv (h := ?_)
    refine Run.ex (h := ?_)
    refine Run.ex (h := ?_)
    refine Run.ex (h := ?_)
    refine Run.as (h := ?_)
    refine Run.as (h := ?_)
    refine Run.as (h := ?_)
    refine Run.fin ?_
    refine At.seq ?_
    refine At.reg rfl ?_
    refine Run.ldA Tb.A28 Tb.S28 (h := ?_)
    refine Run.call Tb.N20 (hc := encode (id := 2) (par := 1) (size := 8) (rs := rs2) (hr2 (by repeat (first | exact Pick.here | apply Pick.there))).1 rfl (by simp [hl2]) (fun r hr => (hq2 r.1 (List.mem_map.2 ⟨r, hr, rfl⟩)).1) (by simp) (by simp) (by simp) (hr2 (by repeat (first | exact Pick.here | apply Pick.there))).2 (by rw [hp2, show (enc ⟨2, 1, 8, mkRuns 1 hB2 hE2⟩).length = 70 from encH2_len]; decide)) (h := ?_)
    rintro _ _ (⟨_, q2, rfl, rfl⟩ | ⟨h, _⟩)
    rotate_left
    · rw [hp2] at h; exact absurd (show May ⟨2, 1, 8, mkRuns 1 hB2 hE2⟩ by decide) h
    rw [show enc ⟨2, 1, 8, pures rs2⟩ = encH2 by rw [hp2]; rfl]
    refine Run.mv (h := ?_)
    refine Run.ex (h := ?_)
    refine Run.ex (h := ?_)
    refine Run.as (h := ?_)
    refine Run.as (h := ?_)
    refine Run.fin ?_
    refine At.seq ?_
    refine At.seq ?_
    refine At.regK [0, 0, 0, 0, 0, 0, 0, 0, 1, 0, 0, 0, 0, 0, 0, 0] rfl rfl ?_
    refine Run.mv (h := ?_)
    refine Run.ne (h := ?_)
    refine Run.mv (h := ?_)
    refine Run.orB 2 2 (ht := fun hg66 => by
        refine Run.mv (h := ?_)
        refine Run.ne (h := ?_)
        exact Run.fin_sc ScEnd.here) (hrest := ?_)
    refine Run.mv (h := ?_)
    refine Run.orB 3 6 (ht := fun hg71 => by
        refine Run.mv (h := ?_)
        refine Run.b2s Tb.L23 Tb.I5 Tb.I9 (hR := .one) (hn := rfl) (h := ?_)
        refine Run.sne (h := ?_)
        refine Run.eqv (v' := .bool false) (by rw [show strOf hB2 = ⟨#[0, 0, 0, 0, 97, 98, 99, 88]⟩ from rfl]; simp) ?_
        exact Run.fin_sc ScEnd.here) (hrest := ?_)
    refine Run.mv (h := ?_)
    refine Run.orB 3 11 (ht := fun hg76 => by
        refine Run.mv (h := ?_)
        refine Run.len Tb.L23 (h := ?_)
        refine Run.ne (h := ?_)
        exact Run.fin_sc ScEnd.here) (hrest := ?_)
    refine Run.fin ?_
    refine At.cnd' (ht := fun hc76 => ?_) (hf := fun hc76 => ?_)
    · skip
      exact absurd hc76 (by rw [encH2_len]; simp)
    · skip
      refine At.skip ?_
      refine At.seq ?_
      refine At.reg rfl ?_
      refine Run.mv (h := ?_)
      refine Run.mv (h := ?_)
      refine Run.iaR (ht := Tb.L23) (hR := .one) (j := 50) (hj := rfl) (h1 := by rw [ints_length, encH2_len]; decide) (hn := by rw [encH2_len]; decide) (h := ?_)
      refine Run.ldr0 (ht := Tb.A5) (hR := .one) (hj := ints_at (by rw [encH2_len]; decide)) (h := ?_)
      refine Run.bit (op := .xor) (hop := by simp) (h := ?_)
      refine Run.iaR (ht := Tb.L23) (hR := .one) (j := 50) (hj := rfl) (h1 := by rw [ints_length, encH2_len]; decide) (hn := by rw [encH2_len]; decide) (h := ?_)
      refine Run.str0 (hsz := Tb.S5) (hj := ints_at (by rw [encH2_len]; decide)) (h := ?_)
      refine Run.fin ?_
      refine At.seq ?_
      refine At.reg rfl ?_
      refine Run.mv (h := ?_)
      refine Run.call Tb.N22 (hc := (decode (bs := fB) (n := encH2.length) (RdS.own (by repeat (first | exact Pick.here | apply Pick.there)) ⟨Els.ints, .inr ⟨_, rfl⟩, fun a h => by cases h; rfl⟩) (by rw [fB_len, encH2_len]) (Nat.le_refl _) (by rw [fB_len]; decide) fB_byt).ok) (h := ?_)
      rintro _ _ (⟨e, he, rfl, rfl⟩ | ⟨a, ao, cp, rs, he, _⟩)
      rotate_left
      · rw [fB, encH2_flip] at he; cases he
      rw [fB, encH2_flip] at he
      cases he
      refine Run.mv (h := ?_)
      refine Run.ex (h := ?_)
      refine Run.ex (h := ?_)
      refine Run.al Tb.Z28 (h := fun g10 => ?_)
      refine Run.st Tb.S28 (h := ?_)
      refine Run.as (h := ?_)
      refine Run.fin ?_
      refine At.seq ?_
      refine At.reg rfl ?_
      refine Run.mv (h := ?_)
      refine Run.eq (h := ?_)
      refine Run.as (h := ?_)
      refine Run.fin ?_
      refine At.ret ?_
      exact At.done (hΦ := by exact ⟨rfl, rfl⟩)
end Go.Proofs.Ytllpfpdanonhkaa
