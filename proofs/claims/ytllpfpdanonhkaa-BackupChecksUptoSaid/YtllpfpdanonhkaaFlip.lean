/- Walk: BackupFlip. No condition. -/
import Derived.Test.YtllpfpdanonhkaaHeads
import Derived.Test.YtllpfpdanonhkaaPlCrc
set_option maxRecDepth 8000
set_option maxHeartbeats 4000000
set_option linter.unusedVariables false
set_option linter.unusedSimpArgs false
namespace Go.Proofs.Ytllpfpdanonhkaa
open Go.Sx Go.RowKit

theorem MayGo_runs {par size : Int} : ∀ {l : List Rn} {a : Int} {p : Option Bool}, MayGo par size a p l → ∀ r ∈ l, (r.hole = true → r.data.length = 0) ∧ (¬ r.hole = true → (r.data.length : Int) = r.len)
  | [], _, _, _, r, hr => by cases hr
  | x :: l, a, p, ⟨⟨o1, o2, o3, o4, o5, o6, o7, o8⟩, h2⟩, r, hr => by
    rcases List.mem_cons.1 hr with rfl | hr
    · exact ⟨o5, o6⟩
    · exact MayGo_runs h2 r hr
theorem arF_of {id par size : Int} {rs : List RV} (hok : ∀ r ∈ rs, RnOk r.1) (hid : 0 ≤ id ∧ id < 18446744073709551616) (hpar : 0 ≤ par ∧ par < 18446744073709551616) (hsz : 0 ≤ size ∧ size < 18446744073709551616) (hle : rs.length ≤ 1099511627776) (hm : May ⟨id, par, size, pures rs⟩) : ArF ⟨id, par, size, pures rs⟩ :=
  ⟨hid, hpar, hsz, by show (pures rs).length < _; simp [pures]; omega, fun r hr => by
    have hr' : r ∈ pures rs := hr
    obtain ⟨v, hv, rfl⟩ := List.mem_map.1 hr'
    obtain ⟨h1, h2⟩ := MayGo_runs hm.2.2.2.2 v.1 hr'
    exact ⟨hok v hv, fun h => List.eq_nil_of_length_eq_zero (h1 h), h2⟩⟩
theorem enc_len44 {a : Ar} : 44 ≤ (enc a).length := by rw [enc_eq, List.length_append, sealB_len, hdB_len]; omega
theorem enc_byt {a : Ar} (h : ArF a) : Byt (enc a) := by
  rw [enc_eq]
  refine (sealB_byt hdB_byt).app fun b hb => ?_
  obtain ⟨x, hx, hbx⟩ := List.mem_flatten.1 hb
  obtain ⟨r, hr, rfl⟩ := List.mem_map.1 hx
  obtain ⟨q1, q2, q3⟩ := h.runs r hr
  unfold encR at hbx
  rcases List.mem_append.1 hbx with hbx | hbx
  · exact sealB_byt encH_byt b hbx
  · cases hh : r.hole
    · rw [hh] at hbx; exact sealB_byt q1.2.2.2.2.2 b hbx
    · rw [hh] at hbx; cases hbx
theorem bytesE_err {bs : List Int} {p : Nat} {n e : Int} (h : bytesE bs p n = some e) : e ≠ 0 := by
  unfold bytesE at h
  split at h
  · cases h; decide
  · split at h
    · cases h
    · cases h; decide
theorem decRun_err {bs : List Int} {p : Nat} {e : Int} (h : decRun bs p = .inl e) : e ≠ 0 := by
  unfold decRun at h
  cases h1 : bytesE bs p 17 with
  | some x => rw [h1] at h; cases h; exact bytesE_err h1
  | none =>
    rw [h1] at h
    dsimp only at h
    split at h
    · cases h; decide
    · split at h
      · cases h
      · cases h2 : bytesE bs (p + 21) (bval (part (part bs p 17) 8 8)) with
        | some x => rw [h2] at h; cases h; exact bytesE_err h2
        | none => rw [h2] at h; cases h
theorem decRuns_err {bs : List Int} : ∀ {n p : Nat} {e : Int}, decRuns bs n p = .inl e → e ≠ 0
  | 0, _, _, h => by cases h
  | n + 1, p, e, h => by
    unfold decRuns at h
    cases h1 : decRun bs p with
    | inl x => rw [h1] at h; cases h; exact decRun_err h1
    | inr x =>
      obtain ⟨r, q⟩ := x
      rw [h1] at h
      dsimp only at h
      cases h2 : decRuns bs n q with
      | inl x => rw [h2] at h; cases h; exact decRuns_err h2
      | inr x => rw [h2] at h; cases h
theorem dec_err {bs : List Int} {e : Int} (h : dec bs = .inl e) : e ≠ 0 := by
  unfold dec at h
  split at h
  · cases h; decide
  · split at h
    · cases h; decide
    · cases h1 : bytesE bs 0 40 with
      | some x => rw [h1] at h; cases h; exact bytesE_err h1
      | none =>
        rw [h1] at h
        dsimp only at h
        cases h2 : decRuns bs (hdP bs 32).toNat 44 with
        | inl x => rw [h2] at h; cases h; exact decRuns_err h2
        | inr x =>
          rw [h2] at h
          dsimp only at h
          split at h
          · cases h; decide
          · split at h
            · cases h
            · cases h; decide
theorem xor8_range (x y : Int) : 0 ≤ bits .xor .u8 x y ∧ bits .xor .u8 x y < 256 := by
  unfold bits; rw [IntKind.wrap_u8]; omega
theorem bits8_xor {a b : Int} : bits .xor .u8 a b = ((BitVec.ofInt 8 a ^^^ BitVec.ofInt 8 b).toNat : Int) := by
  show IntKind.u8.wrap (((BitVec.ofInt 8 a ^^^ BitVec.ofInt 8 b).toNat : Nat) : Int) = _
  have := (BitVec.ofInt 8 a ^^^ BitVec.ofInt 8 b).isLt
  rw [IntKind.wrap_u8]; omega
theorem toNat8 {a : Int} (h : 0 ≤ a ∧ a < 256) : ((BitVec.ofInt 8 a).toNat : Int) = a := by
  rw [BitVec.toNat_ofInt]; omega
theorem xor8_back {a b : Int} (h : 0 ≤ a ∧ a < 256) : bits .xor .u8 (bits .xor .u8 a b) b = a := by
  rw [bits8_xor, bits8_xor]
  have e : BitVec.ofInt 8 (((BitVec.ofInt 8 a ^^^ BitVec.ofInt 8 b).toNat : Nat) : Int) = BitVec.ofInt 8 a ^^^ BitVec.ofInt 8 b := by
    apply BitVec.eq_of_toNat_eq
    have := (BitVec.ofInt 8 a ^^^ BitVec.ofInt 8 b).isLt
    rw [BitVec.toNat_ofInt]; omega
  rw [e, BitVec.xor_assoc, BitVec.xor_self, BitVec.xor_zero, toNat8 h]
theorem xor8_ne {a b : Int} (h : 0 ≤ a ∧ a < 256) (hb : 0 ≤ b ∧ b < 256) (h0 : b ≠ 0) : a ≠ bits .xor .u8 a b := fun e => h0 (by
  rw [bits8_xor] at e
  have e1 := toNat8 h
  have e2 : (BitVec.ofInt 8 a).toNat = (BitVec.ofInt 8 a ^^^ BitVec.ofInt 8 b).toNat := by omega
  have e3 := BitVec.eq_of_toNat_eq e2
  have e4 : BitVec.ofInt 8 b = 0#8 := by
    have := congrArg (fun x => BitVec.ofInt 8 a ^^^ x) e3
    simpa [← BitVec.xor_assoc] using this.symm
  rw [← toNat8 hb, e4]; rfl)
theorem set_back {l : List Int} {k : Nat} {b : Int} (hk : k < l.length) (e : b = l.getD k 0) : l.set k b = l := by
  subst e
  rw [show l.getD k 0 = l[k] by simp [List.getD, hk]]
  exact List.set_getElem_self hk
theorem idx_of {a n : Int} (hn : 0 < n) (h : n ≤ 1099511627776) : ∃ k : Nat, (k : Int) < n ∧ IntKind.i64.wrap ((IntKind.u64.wrap a).tmod (IntKind.u64.wrap n)) = k := by
  rw [show IntKind.u64.wrap n = n from wu64 (by omega) (by omega), IntKind.wrap_u64]
  have h1 : 0 ≤ a % 18446744073709551616 := by omega
  rw [Int.tmod_eq_emod_of_nonneg h1]
  have h2 := Int.emod_nonneg (a % 18446744073709551616) (show n ≠ 0 by omega)
  have h3 := Int.emod_lt_of_pos (a % 18446744073709551616) hn
  refine ⟨((a % 18446744073709551616) % n).toNat, by omega, ?_⟩
  rw [wi64 (by omega) (by omega)]; omega

theorem flip0 {w0 : World} {L : List HP} {id par size : Int} {ao : Option Addr} {n cp : Nat} {rs : List RV} {at' mask : Int} (hr : RdS w0 L 4 ao (rs.map cellsV)) (hn : n = rs.length) (hle : n ≤ 1099511627776) (hok : ∀ r ∈ rs, RnOk r.1) (hid : 0 ≤ id ∧ id < 18446744073709551616) (hpar : 0 ≤ par ∧ par < 18446744073709551616) (hsz : 0 ≤ size ∧ size < 18446744073709551616) (hdt : ∀ r ∈ rs, RdS w0 L 1 r.2.1 (ints .u8 r.1.data)) (hbig : (enc ⟨id, par, size, pures rs⟩).length ≤ 549755813888) (hm : ¬ May ⟨id, par, size, pures rs⟩) :
    CallOk Tb.P w0 L 6 [.agg #[.int .u64 id, .int .u64 par, .int .u64 size, .slice ao n cp], .int .i64 at', .int .u8 mask] fun u L' => u = .bool true ∧ L' = L := by
  refine enter Try.func6 rfl Try.ntmps6 (Nat.le_of_ble_eq_true rfl) ?_
  refine At.seq ?_
  refine At.reg rfl ?_
  refine Run.bx (h := fun g3 => ?_)
  refine Run.as (h := ?_)
  refine Run.fin ?_
  refine At.seq ?_
  refine At.reg rfl ?_
  refine Run.ldA Tb.A28 Tb.S28 (h := ?_)
  refine Run.call Tb.N20 (hc := encode hr.sub hn hle hok hid hpar hsz (fun r h => (hdt r h).sub) hbig) (h := ?_)
  rintro _ _ (⟨h, _⟩ | ⟨_, rfl, rfl⟩)
  · exact absurd h hm
  refine Run.mv (h := ?_)
  refine Run.ex (h := ?_)
  refine Run.ex (h := ?_)
  refine Run.as (h := ?_)
  refine Run.as (h := ?_)
  refine Run.fin ?_
  refine At.seq ?_
  refine At.seq ?_
  refine At.reg rfl ?_
  refine Run.mv (h := ?_)
  refine Run.ne (h := ?_)
  refine Run.mv (h := ?_)
  refine Run.orB 2 2 (ht := fun hg24 => by
      refine Run.mv (h := ?_)
      refine Run.eq (h := ?_)
      exact Run.fin_sc ScEnd.here) (hrest := ?_)
  refine Run.fin ?_
  refine At.condT (hx := by rfl) ?_
  refine At.seq ?_
  refine At.reg rfl ?_
  refine Run.call Tb.N18 (hc := heads) (h := ?_)
  rintro _ _ ⟨rfl, rfl⟩
  refine Run.as (h := ?_)
  refine Run.fin ?_
  refine At.ret ?_
  refine At.then_ret ?_
  exact At.done (hΦ := by exact ⟨rfl, rfl⟩)
theorem flip1 {w0 : World} {L : List HP} {id par size : Int} {ao : Option Addr} {n cp : Nat} {rs : List RV} {at' mask : Int} (hr : RdS w0 L 4 ao (rs.map cellsV)) (hn : n = rs.length) (hle : n ≤ 1099511627776) (hok : ∀ r ∈ rs, RnOk r.1) (hid : 0 ≤ id ∧ id < 18446744073709551616) (hpar : 0 ≤ par ∧ par < 18446744073709551616) (hsz : 0 ≤ size ∧ size < 18446744073709551616) (hdt : ∀ r ∈ rs, RdS w0 L 1 r.2.1 (ints .u8 r.1.data)) (hbig : (enc ⟨id, par, size, pures rs⟩).length ≤ 549755813888) (hm : May ⟨id, par, size, pures rs⟩) (hmask : 0 ≤ mask ∧ mask < 256) :
    CallOk Tb.P w0 L 6 [.agg #[.int .u64 id, .int .u64 par, .int .u64 size, .slice ao n cp], .int .i64 at', .int .u8 mask] fun u L' => u = .bool true ∧ L' = L := by
  refine enter Try.func6 rfl Try.ntmps6 (Nat.le_of_ble_eq_true rfl) ?_
  refine At.seq ?_
  refine At.reg rfl ?_
  refine Run.bx (h := fun g3 => ?_)
  refine Run.as (h := ?_)
  refine Run.fin ?_
  refine At.seq ?_
  refine At.reg rfl ?_
  refine Run.ldA Tb.A28 Tb.S28 (h := ?_)
  refine Run.call Tb.N20 (hc := encode hr.sub hn hle hok hid hpar hsz (fun r h => (hdt r h).sub) hbig) (h := ?_)
  rintro _ _ (⟨_, q, rfl, rfl⟩ | ⟨h, _⟩)
  rotate_left
  · exact absurd hm h
  refine Run.mv (h := ?_)
  refine Run.ex (h := ?_)
  refine Run.ex (h := ?_)
  refine Run.as (h := ?_)
  refine Run.as (h := ?_)
  refine Run.fin ?_
  refine At.seq ?_
  refine At.seq ?_
  refine At.reg rfl ?_
  refine Run.mv (h := ?_)
  refine Run.ne (h := ?_)
  refine Run.mv (h := ?_)
  refine Run.orB 2 2 (ht := fun hg24 => by
      refine Run.mv (h := ?_)
      refine Run.eq (h := ?_)
      exact Run.fin_sc ScEnd.here) (hrest := ?_)
  refine Run.fin ?_
  refine At.cnd' (ht := fun hc24 => ?_) (hf := fun hc24 => ?_)
  · skip
    refine At.seq ?_
    refine At.reg rfl ?_
    refine Run.call Tb.N18 (hc := heads) (h := ?_)
    rintro _ _ ⟨rfl, rfl⟩
    refine Run.as (h := ?_)
    refine Run.fin ?_
    refine At.ret ?_
    refine At.then_ret ?_
    exact At.done (hΦ := by exact ⟨rfl, rfl⟩)
  · skip
    refine At.skip ?_
    refine At.seq ?_
    refine At.seq ?_
    have hm0 : mask ≠ 0 := fun h => hc24 h
    have hl44 := enc_len44 (a := ⟨id, par, size, pures rs⟩)
    refine At.reg rfl ?_
    refine Run.mv (h := ?_)
    refine Run.len Tb.L23 (h := ?_)
    refine Run.eq (h := ?_)
    refine Run.fin ?_
    refine At.cnd' (ht := fun hc28 => ?_) (hf := fun hc28 => ?_)
    · skip
      exact absurd hc28 (by omega)
    · skip
      refine At.skip ?_
      refine At.seq ?_
      have hF : ArF ⟨id, par, size, pures rs⟩ := arF_of hok hid hpar hsz (by omega) hm
      have henc : Byt (enc ⟨id, par, size, pures rs⟩) := enc_byt hF
      obtain ⟨k, hk1, hk2⟩ := idx_of (a := at') (n := ((enc ⟨id, par, size, pures rs⟩).length : Int)) (by omega) (by omega)
      have hkl : k < (enc ⟨id, par, size, pures rs⟩).length := by omega
      have hfy : Byt ((enc ⟨id, par, size, pures rs⟩).set k (bits .xor .u8 ((enc ⟨id, par, size, pures rs⟩).getD k 0) mask)) := fun b hb => by
        rcases List.mem_or_eq_of_mem_set hb with hb | rfl
        · exact henc b hb
        · exact xor8_range _ _
      refine At.reg rfl ?_
      refine Run.mv (h := ?_)
      refine Run.cv Tb.I3 Tb.I22 (h := ?_)
      refine Run.mv (h := ?_)
      refine Run.len Tb.L23 (h := ?_)
      refine Run.cv Tb.I3 Tb.I22 (h := ?_)
      refine Run.rem (hb := by rw [wu64 (by omega) (by omega)]; omega) (h := ?_)
      refine Run.cv Tb.I22 Tb.I3 (h := ?_)
      refine Run.eqi (b := (k : Int)) hk2 ?_
      refine Run.as (h := ?_)
      refine Run.fin ?_
      refine At.seq ?_
      refine At.reg rfl ?_
      refine Run.mv (h := ?_)
      refine Run.mv (h := ?_)
      refine Run.mv (h := ?_)
      refine Run.mv (h := ?_)
      refine Run.iaR (ht := Tb.L23) (hR := .one) (j := k) (hj := rfl) (h1 := by rw [ints_length]; omega) (hn := by omega) (h := ?_)
      refine Run.ldr0 (ht := Tb.A5) (hR := .one) (hj := ints_at (by omega)) (h := ?_)
      refine Run.mv (h := ?_)
      refine Run.bit (op := .xor) (hop := by simp) (h := ?_)
      refine Run.iaR (ht := Tb.L23) (hR := .one) (j := k) (hj := rfl) (h1 := by rw [ints_length]; omega) (hn := by omega) (h := ?_)
      refine Run.str0 (hsz := Tb.S5) (hj := ints_at (by omega)) (h := ?_)
      refine Run.chunks (L' := row 5 1 (some ⟨q, 0, none⟩) ((enc ⟨id, par, size, pures rs⟩).length) (ints .u8 ((enc ⟨id, par, size, pures rs⟩).set k (bits .xor .u8 ((enc ⟨id, par, size, pures rs⟩).getD k 0) mask))) :: cel g3 28 [.int .u64 id, .int .u64 par, .int .u64 size, .slice ao n cp] :: L) (fun _ hf => by rw [ints_set] at hf; exact hf) ?_
      refine Run.fin ?_
      refine At.seq ?_
      refine At.reg rfl ?_
      refine Run.mv (h := ?_)
      refine Run.call Tb.N22 (hc := (decode (bs := (enc ⟨id, par, size, pures rs⟩).set k (bits .xor .u8 ((enc ⟨id, par, size, pures rs⟩).getD k 0) mask)) (n := (enc ⟨id, par, size, pures rs⟩).length) .one (by rw [List.length_set]) (Nat.le_refl _) (by rw [List.length_set]; omega) hfy).ok) (h := ?_)
      rintro _ _ (⟨e, he, rfl, rfl⟩ | ⟨a, ao2, cp2, rs2, he, _⟩)
      rotate_left
      · obtain ⟨e, h2⟩ := dec_flip hF hkl (xor8_range _ _) (xor8_ne (henc.at k) hmask hm0); rw [h2] at he; cases he
      have he0 := dec_err he
      refine Run.mv (h := ?_)
      refine Run.ex (h := ?_)
      refine Run.ex (h := ?_)
      refine Run.al Tb.Z28 (h := fun g10 => ?_)
      refine Run.st Tb.S28 (h := ?_)
      refine Run.as (h := ?_)
      refine Run.fin ?_
      refine At.seq ?_
      refine At.reg rfl ?_
      refine Run.mv (h := ?_)
      refine Run.mv (h := ?_)
      refine Run.mv (h := ?_)
      refine Run.mv (h := ?_)
      refine Run.iaR (ht := Tb.L23) (hR := .one) (j := k) (hj := rfl) (h1 := by rw [ints_length, List.length_set]; omega) (hn := by omega) (h := ?_)
      refine Run.ldr0 (ht := Tb.A5) (hR := .one) (hj := ints_at (by rw [List.length_set]; omega)) (h := ?_)
      refine Run.mv (h := ?_)
      refine Run.bit (op := .xor) (hop := by simp) (h := ?_)
      refine Run.iaR (ht := Tb.L23) (hR := .one) (j := k) (hj := rfl) (h1 := by rw [ints_length, List.length_set]; omega) (hn := by omega) (h := ?_)
      refine Run.str0 (hsz := Tb.S5) (hj := ints_at (by rw [List.length_set]; omega)) (h := ?_)
      refine Run.chunks (L' := row 5 1 (some ⟨q, 0, none⟩) ((enc ⟨id, par, size, pures rs⟩).length) (ints .u8 (enc ⟨id, par, size, pures rs⟩)) :: cel g3 28 [.int .u64 id, .int .u64 par, .int .u64 size, .slice ao n cp] :: L) (fun _ hf => by
          rw [ints_set, List.set_set, set_back (by omega) (by rw [show ((enc ⟨id, par, size, pures rs⟩).set k (bits .xor .u8 ((enc ⟨id, par, size, pures rs⟩).getD k 0) mask)).getD k 0 = bits .xor .u8 ((enc ⟨id, par, size, pures rs⟩).getD k 0) mask by simp [List.getD, hkl]]; exact xor8_back (henc.at k))] at hf
          exact SubL.star (by repeat (first | exact SubL.refl | refine SubL.cons (by repeat (first | exact Pick.here | apply Pick.there)) ?_ | refine SubL.skip ?_ | exact SubL.nil)) hf) ?_
      refine Run.fin ?_
      refine At.seq ?_
      refine At.reg rfl ?_
      refine Run.mv (h := ?_)
      refine Run.call Tb.N22 (hc := (decode (bs := enc ⟨id, par, size, pures rs⟩) (n := (enc ⟨id, par, size, pures rs⟩).length) .one rfl (Nat.le_refl _) (by omega) henc).ok) (h := ?_)
      rintro _ _ (⟨e2, he2, rfl, rfl⟩ | ⟨a, ao2, cp2, rs2, he2, _, _, rfl, rfl⟩)
      · rw [dec_enc hF hm] at he2; cases he2
      refine Run.mv (h := ?_)
      refine Run.ex (h := ?_)
      refine Run.ex (h := ?_)
      refine Run.al Tb.Z28 (h := fun g12 => ?_)
      refine Run.st Tb.S28 (h := ?_)
      refine Run.as (h := ?_)
      refine Run.fin ?_
      refine At.seq ?_
      refine At.reg rfl ?_
      refine Run.mv (h := ?_)
      refine Run.ne (h := ?_)
      refine Run.mv (h := ?_)
      refine Run.andB 2 2 (ht := fun hg69 => by
          refine Run.mv (h := ?_)
          refine Run.eq (h := ?_)
          exact Run.fin_sc ScEnd.here) (hrest := ?_)
      refine Run.mv (h := ?_)
      refine Run.andB 1 6 (bq := true) (ht := fun hg72 => by
          refine Run.call Tb.N18 (hc := heads) (h := ?_)
          rintro _ _ ⟨rfl, rfl⟩
          exact Run.fin_sc ScEnd.here) (hrest := ?_)
      refine Run.as (h := ?_)
      refine Run.fin ?_
      refine At.ret ?_
      exact At.done (hΦ := by exact ⟨by simp [he0, tupleOf], rfl⟩)
end Go.Proofs.Ytllpfpdanonhkaa
