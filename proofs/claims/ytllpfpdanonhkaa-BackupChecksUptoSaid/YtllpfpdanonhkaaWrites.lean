/- Walk: BackupWrites. No condition. -/
import Derived.Test.YtllpfpdanonhkaaReads
import Derived.Test.YtllpfpdanonhkaaREnc
set_option maxRecDepth 8000
set_option maxHeartbeats 4000000
set_option linter.unusedVariables false
set_option linter.unusedSimpArgs false
namespace Go.Proofs.Ytllpfpdanonhkaa
open Go.Sx Go.RowKit

theorem ok_pures {rs rs' : List RV} (h : pures rs' = pures rs) (hok : ∀ r ∈ rs, RnOk r.1) : ∀ r ∈ rs', RnOk r.1 := fun r hr => by
  have : r.1 ∈ pures rs' := List.mem_map.2 ⟨r, hr, rfl⟩
  rw [h] at this
  obtain ⟨x, hx, e⟩ := List.mem_map.1 this
  rw [← e]; exact hok x hx
theorem len_pures {rs rs' : List RV} (h : pures rs' = pures rs) : rs'.length = rs.length := by
  have := congrArg List.length h
  simpa [pures] using this
theorem dl_ok {rs : List RV} (hok : ∀ r ∈ rs, RnOk r.1) : ∀ r ∈ rs, r.1.data.length ≤ 1099511627776 := fun r hr => (hok r hr).2.2.2.2.1

theorem writes0 {w0 : World} {L : List HP} {id par size : Int} {ao : Option Addr} {n cp : Nat} {rs : List RV} (hr : RdS w0 L 4 ao (rs.map cellsV)) (hn : n = rs.length) (hle : n ≤ 1099511627776) (hok : ∀ r ∈ rs, RnOk r.1) (hid : 0 ≤ id ∧ id < 18446744073709551616) (hpar : 0 ≤ par ∧ par < 18446744073709551616) (hsz : 0 ≤ size ∧ size < 18446744073709551616) (hdt : ∀ r ∈ rs, RdS w0 L 1 r.2.1 (ints .u8 r.1.data)) (hbig : (enc ⟨id, par, size, pures rs⟩).length ≤ 549755813888) (hm : ¬ May ⟨id, par, size, pures rs⟩) :
    CallOk Tb.P w0 L 4 [.agg #[.int .u64 id, .int .u64 par, .int .u64 size, .slice ao n cp]] fun u L' => u = .bool true ∧ L' = L := by
  refine enter Try.func4 rfl Try.ntmps4 (Nat.le_of_ble_eq_true rfl) ?_
  subst hn
  refine At.seq ?_
  refine At.reg rfl ?_
  refine Run.bx (h := fun g1 => ?_)
  refine Run.as (h := ?_)
  refine Run.fin ?_
  refine At.seq ?_
  refine At.reg rfl ?_
  refine Run.ldA Tb.A28 Tb.S28 (h := ?_)
  refine Run.call Tb.N19 (hc := rcopyA hr.sub (fun r h => (hdt r h).sub) (by omega) (dl_ok hok)) (h := ?_)
  rintro _ _ ⟨ao1, cp1, rs1, hp1, rfl, rfl⟩
  refine Run.al Tb.Z28 (h := fun g3 => ?_)
  refine Run.st Tb.S28 (h := ?_)
  refine Run.fin ?_
  refine At.seq ?_
  refine At.rns (ao := ao1) (cp := cp1) (rs := rs1) (h := fun hr1 _ _ => ?_)
  have haa : (⟨id, par, size, pures rs1⟩ : Ar) = ⟨id, par, size, pures rs⟩ := by rw [hp1]
  have hok1 := ok_pures hp1 hok
  have hl1 := len_pures hp1
  refine At.reg rfl ?_
  refine Run.ldA Tb.A28 Tb.S28 (h := ?_)
  refine Run.call Tb.N20 (hc := encode (hr1 (by repeat (first | exact Pick.here | apply Pick.there))).1 rfl (by omega) hok1 hid hpar hsz (hr1 (by repeat (first | exact Pick.here | apply Pick.there))).2 (by rw [haa]; exact hbig)) (h := ?_)
  rintro _ _ (⟨h, _⟩ | ⟨_, rfl, rfl⟩)
  · rw [haa] at h; exact absurd h hm
  refine Run.mv (h := ?_)
  refine Run.ex (h := ?_)
  refine Run.ex (h := ?_)
  refine Run.as (h := ?_)
  refine Run.as (h := ?_)
  refine Run.fin ?_
  refine At.seq ?_
  refine At.reg rfl ?_
  refine Run.ldA Tb.A28 Tb.S28 (h := ?_)
  refine Run.call Tb.N21 (hc := rencode hr.sub rfl hle hok hid hpar hsz (fun r h => (hdt r h).sub) hbig) (h := ?_)
  rintro _ _ (⟨h, _⟩ | ⟨_, rfl, rfl⟩)
  · exact absurd h hm
  refine Run.mv (h := ?_)
  refine Run.ex (h := ?_)
  refine Run.ex (h := ?_)
  refine Run.as (h := ?_)
  refine Run.as (h := ?_)
  refine Run.fin ?_
  refine At.seq ?_
  refine At.reg rfl ?_
  refine Run.ldA Tb.A28 Tb.S28 (h := ?_)
  refine Run.ldA Tb.A28 Tb.S28 (h := ?_)
  refine Run.call Tb.N14 (hc := rsameA (hr1 (by repeat (first | exact Pick.here | apply Pick.there))).1 hr.sub (hr1 (by repeat (first | exact Pick.here | apply Pick.there))).2 (fun r h => (hdt r h).sub) (by omega) (dl_ok hok1)) (h := ?_)
  rintro _ _ ⟨b1, rfl, hb1, rfl⟩
  refine Run.as (h := ?_)
  refine Run.fin ?_
  refine At.seq ?_
  refine At.seq ?_
  refine At.reg rfl ?_
  refine Run.mv (h := ?_)
  refine Run.mv (h := ?_)
  refine Run.ne (h := ?_)
  refine Run.mv (h := ?_)
  refine Run.orB 4 3 (ht := fun hg37 => by
      refine Run.mv (h := ?_)
      refine Run.mv (h := ?_)
      refine Run.call Tb.N15 (hc := rsame (a := []) (b := []) RdS.nil RdS.nil (by simp)) (h := ?_)
      rintro _ _ ⟨rfl, rfl⟩
      refine Run.not (h := ?_)
      exact Run.fin_sc ScEnd.here) (hrest := ?_)
  refine Run.mv (h := ?_)
  refine Run.orB 2 9 (ht := fun hg41 => by
      refine Run.mv (h := ?_)
      refine Run.not (h := ?_)
      exact Run.fin_sc ScEnd.here) (hrest := ?_)
  refine Run.fin ?_
  refine At.cnd' (ht := fun hc41 => ?_) (hf := fun hc41 => ?_)
  · skip
    exact absurd hc41 (by have hb2 := hb1.2 haa; simp [hb2])
  · skip
    refine At.skip ?_
    refine At.seq ?_
    refine At.seq ?_
    refine At.reg rfl ?_
    refine Run.mv (h := ?_)
    refine Run.ne (h := ?_)
    refine Run.fin ?_
    refine At.condT (hx := by rfl) ?_
    refine At.seq ?_
    refine At.reg rfl ?_
    refine Run.call Tb.N18 (hc := heads) (h := ?_)
    rintro _ _ ⟨rfl, rfl⟩
    refine Run.as (h := ?_)
    refine Run.fin ?_
    refine At.ret ?_
    refine At.then_ret ?_
    exact At.done (hΦ := by exact ⟨rfl, rfl⟩)
theorem writes1 {w0 : World} {L : List HP} {id par size : Int} {ao : Option Addr} {n cp : Nat} {rs : List RV} (hr : RdS w0 L 4 ao (rs.map cellsV)) (hn : n = rs.length) (hle : n ≤ 1099511627776) (hok : ∀ r ∈ rs, RnOk r.1) (hid : 0 ≤ id ∧ id < 18446744073709551616) (hpar : 0 ≤ par ∧ par < 18446744073709551616) (hsz : 0 ≤ size ∧ size < 18446744073709551616) (hdt : ∀ r ∈ rs, RdS w0 L 1 r.2.1 (ints .u8 r.1.data)) (hbig : (enc ⟨id, par, size, pures rs⟩).length ≤ 549755813888) (hm : May ⟨id, par, size, pures rs⟩) :
    CallOk Tb.P w0 L 4 [.agg #[.int .u64 id, .int .u64 par, .int .u64 size, .slice ao n cp]] fun u L' => u = .bool true ∧ L' = L := by
  refine enter Try.func4 rfl Try.ntmps4 (Nat.le_of_ble_eq_true rfl) ?_
  subst hn
  have hF : ArF ⟨id, par, size, pures rs⟩ := arF_of hok hid hpar hsz (by omega) hm
  have henc : Byt (enc ⟨id, par, size, pures rs⟩) := enc_byt hF
  refine At.seq ?_
  refine At.reg rfl ?_
  refine Run.bx (h := fun g1 => ?_)
  refine Run.as (h := ?_)
  refine Run.fin ?_
  refine At.seq ?_
  refine At.reg rfl ?_
  refine Run.ldA Tb.A28 Tb.S28 (h := ?_)
  refine Run.call Tb.N19 (hc := rcopyA hr.sub (fun r h => (hdt r h).sub) (by omega) (dl_ok hok)) (h := ?_)
  rintro _ _ ⟨ao1, cp1, rs1, hp1, rfl, rfl⟩
  refine Run.al Tb.Z28 (h := fun g3 => ?_)
  refine Run.st Tb.S28 (h := ?_)
  refine Run.fin ?_
  refine At.seq ?_
  refine At.rns (ao := ao1) (cp := cp1) (rs := rs1) (h := fun hr1 _ _ => ?_)
  have haa : (⟨id, par, size, pures rs1⟩ : Ar) = ⟨id, par, size, pures rs⟩ := by rw [hp1]
  have hok1 := ok_pures hp1 hok
  have hl1 := len_pures hp1
  refine At.reg rfl ?_
  refine Run.ldA Tb.A28 Tb.S28 (h := ?_)
  refine Run.call Tb.N20 (hc := encode (hr1 (by repeat (first | exact Pick.here | apply Pick.there))).1 rfl (by omega) hok1 hid hpar hsz (hr1 (by repeat (first | exact Pick.here | apply Pick.there))).2 (by rw [haa]; exact hbig)) (h := ?_)
  rintro _ _ (⟨_, q, rfl, rfl⟩ | ⟨h, _⟩)
  rotate_left
  · rw [haa] at h; exact absurd hm h
  rw [haa]
  refine Run.mv (h := ?_)
  refine Run.ex (h := ?_)
  refine Run.ex (h := ?_)
  refine Run.as (h := ?_)
  refine Run.as (h := ?_)
  refine Run.fin ?_
  refine At.seq ?_
  refine At.reg rfl ?_
  refine Run.ldA Tb.A28 Tb.S28 (h := ?_)
  refine Run.call Tb.N21 (hc := rencode hr.sub rfl hle hok hid hpar hsz (fun r h => (hdt r h).sub) hbig) (h := ?_)
  rintro _ _ (⟨_, ao6, cp6, rfl, rfl⟩ | ⟨h, _⟩)
  rotate_left
  · exact absurd hm h
  refine Run.mv (h := ?_)
  refine Run.ex (h := ?_)
  refine Run.ex (h := ?_)
  refine Run.as (h := ?_)
  refine Run.as (h := ?_)
  refine Run.fin ?_
  refine At.seq ?_
  refine At.rowR (hp := by apply Pick.here) (h := fun hR6 _ _ _ => ?_)
  refine At.reg rfl ?_
  refine Run.ldA Tb.A28 Tb.S28 (h := ?_)
  refine Run.ldA Tb.A28 Tb.S28 (h := ?_)
  refine Run.call Tb.N14 (hc := rsameA (hr1 (by repeat (first | exact Pick.here | apply Pick.there))).1 hr.sub (hr1 (by repeat (first | exact Pick.here | apply Pick.there))).2 (fun r h => (hdt r h).sub) (by omega) (dl_ok hok1)) (h := ?_)
  rintro _ _ ⟨b1, rfl, hb1, rfl⟩
  refine Run.as (h := ?_)
  refine Run.fin ?_
  refine At.seq ?_
  refine At.seq ?_
  refine At.reg rfl ?_
  refine Run.mv (h := ?_)
  refine Run.mv (h := ?_)
  refine Run.ne (h := ?_)
  refine Run.mv (h := ?_)
  refine Run.orB 4 3 (ht := fun hg37 => by
      refine Run.mv (h := ?_)
      refine Run.mv (h := ?_)
      refine Run.call Tb.N15 (hc := rsame .one (hR6 (by repeat (first | exact Pick.here | apply Pick.there))) (by omega)) (h := ?_)
      rintro _ _ ⟨rfl, rfl⟩
      refine Run.not (h := ?_)
      exact Run.fin_sc ScEnd.here) (hrest := ?_)
  refine Run.mv (h := ?_)
  refine Run.orB 2 9 (ht := fun hg41 => by
      refine Run.mv (h := ?_)
      refine Run.not (h := ?_)
      exact Run.fin_sc ScEnd.here) (hrest := ?_)
  refine Run.fin ?_
  refine At.cnd' (ht := fun hc41 => ?_) (hf := fun hc41 => ?_)
  · skip
    exact absurd hc41 (by have hb4 := hb1.2 haa; simp [hb4])
  · skip
    refine At.skip ?_
    refine At.seq ?_
    refine At.seq ?_
    refine At.reg rfl ?_
    refine Run.mv (h := ?_)
    refine Run.ne (h := ?_)
    refine Run.fin ?_
    refine At.condF (hx := by rfl) ?_
    refine At.skip ?_
    refine At.seq ?_
    refine At.reg rfl ?_
    refine Run.mv (h := ?_)
    refine Run.call Tb.N22 (hc := (decode (bs := enc ⟨id, par, size, pures rs⟩) (n := (enc ⟨id, par, size, pures rs⟩).length) .one rfl (Nat.le_refl _) (by omega) henc).ok) (h := ?_)
    rintro _ _ (⟨e2, he2, rfl, rfl⟩ | ⟨a, ao9, cp9, rs9, he2, hp9, hk9, rfl, rfl⟩)
    · rw [dec_enc hF hm] at he2; cases he2
    rw [dec_enc hF hm] at he2
    simp only [Sum.inr.injEq] at he2
    subst he2
    dsimp only at hp9 ⊢
    refine Run.mv (h := ?_)
    refine Run.ex (h := ?_)
    refine Run.ex (h := ?_)
    refine Run.al Tb.Z28 (h := fun g9 => ?_)
    refine Run.st Tb.S28 (h := ?_)
    refine Run.as (h := ?_)
    refine Run.fin ?_
    refine At.seq ?_
    refine At.rns (ao := ao9) (cp := cp9) (rs := rs9) (h := fun hr9 _ _ => ?_)
    refine At.reg rfl ?_
    refine Run.ldA Tb.A28 Tb.S28 (h := ?_)
    refine Run.ldA Tb.A28 Tb.S28 (h := ?_)
    refine Run.call Tb.N14 (hc := rsameA (hr9 (by repeat (first | exact Pick.here | apply Pick.there))).1 hr.sub (hr9 (by repeat (first | exact Pick.here | apply Pick.there))).2 (fun r h => (hdt r h).sub) (by rw [len_pures hp9]; omega) (dl_ok hk9)) (h := ?_)
    rintro _ _ ⟨b2, rfl, hb2, rfl⟩
    refine Run.as (h := ?_)
    refine Run.fin ?_
    refine At.seq ?_
    refine At.seq ?_
    refine At.reg rfl ?_
    refine Run.as (h := ?_)
    refine Run.fin ?_
    refine At.block ?_
    refine At.loop (α := Nat × List Int) (fun x => ⟨[(1, .pointer (some ⟨g1, 0, none⟩)), (9, .pointer (some ⟨g9, 0, none⟩)), (4, .slice (some ⟨q, 0, none⟩) (enc ⟨id, par, size, pures rs⟩).length (enc ⟨id, par, size, pures rs⟩).length), (12, .int .i64 x.1), (10, .int .i64 0), (11, .bool b2)], row 5 1 (some ⟨q, 0, none⟩) (enc ⟨id, par, size, pures rs⟩).length (ints .u8 x.2) :: Rns ao9 cp9 rs9 :: row 5 1 ao6 cp6 (ints .u8 (enc ⟨id, par, size, pures rs⟩)) :: Rns ao1 cp1 rs1 :: cel g3 28 [.int .u64 id, .int .u64 par, .int .u64 size, .slice ao1 rs1.length cp1] :: cel g1 28 [.int .u64 id, .int .u64 par, .int .u64 size, .slice ao rs.length cp] :: cel g9 28 [.int .u64 id, .int .u64 par, .int .u64 size, .slice ao9 rs9.length cp9] :: L, []⟩) (fun x => x.1 ≤ (enc ⟨id, par, size, pures rs⟩).length ∧ x.2.length = (enc ⟨id, par, size, pures rs⟩).length) (fun x => (enc ⟨id, par, size, pures rs⟩).length - x.1) ((0, enc ⟨id, par, size, pures rs⟩)) (⟨Nat.zero_le _, rfl⟩) (Ent.of (by repeat (first | exact SubE.nil | refine SubE.cons (by first | rfl | (show some _ = some _; simp; done)) ?_)) (by repeat (first | exact SubL.refl | refine SubL.cons (by repeat (first | exact Pick.here | apply Pick.there)) ?_ | refine SubL.skip ?_ | exact SubL.nil))) (fun x hx => ?_)
    obtain ⟨k, l⟩ := x
    dsimp only at hx ⊢
    obtain ⟨hk, hl⟩ := hx
    refine At.seq ?_
    refine At.seq ?_
    refine At.reg rfl ?_
    refine Run.mv (h := ?_)
    refine Run.mv (h := ?_)
    refine Run.len Tb.L23 (h := ?_)
    refine Run.lt (h := ?_)
    refine Run.fin ?_
    refine At.cnd' (ht := fun hc3 => ?_) (hf := fun hc3 => ?_)
    · skip
      refine At.skip ?_
      refine At.seq ?_
      refine At.block ?_
      refine At.reg rfl ?_
      refine Run.mv (h := ?_)
      refine Run.mv (h := ?_)
      refine Run.mv (h := ?_)
      refine Run.mv (h := ?_)
      refine Run.iaR (ht := Tb.L23) (hR := .one) (j := k) (hj := rfl) (h1 := by rw [ints_length]; omega) (hn := by omega) (h := ?_)
      refine Run.ldr0 (ht := Tb.A5) (hR := .one) (hj := Sx.ints_at (by omega)) (h := ?_)
      refine Run.add (h := ?_)
      refine Run.iaR (ht := Tb.L23) (hR := .one) (j := k) (hj := rfl) (h1 := by rw [ints_length]; omega) (hn := by omega) (h := ?_)
      refine Run.str0 (hsz := Tb.S5) (hj := Sx.ints_at (by omega)) (h := ?_)
      refine Run.fin ?_
      refine At.inb_norm ?_
      refine At.reg rfl ?_
      refine Run.mv (h := ?_)
      refine Run.add (h := ?_)
      refine Run.eqi (b := ((k + 1 : Nat) : Int)) (by rw [wi64 (by omega) (by omega)]; omega) ?_
      refine Run.as (h := ?_)
      refine Run.fin ?_
      refine At.chunks (L' := row 5 1 (some ⟨q, 0, none⟩) (enc ⟨id, par, size, pures rs⟩).length (ints .u8 (l.set k (IntKind.u8.wrap (l.getD k 0 + 1)))) :: Rns ao9 cp9 rs9 :: row 5 1 ao6 cp6 (ints .u8 (enc ⟨id, par, size, pures rs⟩)) :: Rns ao1 cp1 rs1 :: cel g3 28 [.int .u64 id, .int .u64 par, .int .u64 size, .slice ao1 rs1.length cp1] :: cel g1 28 [.int .u64 id, .int .u64 par, .int .u64 size, .slice ao rs.length cp] :: cel g9 28 [.int .u64 id, .int .u64 par, .int .u64 size, .slice ao9 rs9.length cp9] :: L) (fun _ hf => by rw [ints_set] at hf; exact hf) ?_
      exact At.again ((k + 1, l.set k (IntKind.u8.wrap (l.getD k 0 + 1)))) (⟨by dsimp only; omega, by dsimp only; rw [List.length_set]; exact hl⟩) (by dsimp only; omega)
    · skip
      refine At.exit ?_
      refine At.then_exit ?_
      refine At.then_exit ?_
      refine At.inb_hit ?_
      refine At.seq ?_
      refine At.reg rfl ?_
      refine Run.ldA Tb.A28 Tb.S28 (h := ?_)
      refine Run.ldA Tb.A28 Tb.S28 (h := ?_)
      refine Run.call Tb.N14 (hc := rsameA (hr9 (by repeat (first | exact Pick.here | apply Pick.there))).1 hr.sub (hr9 (by repeat (first | exact Pick.here | apply Pick.there))).2 (fun r h => (hdt r h).sub) (by rw [len_pures hp9]; omega) (dl_ok hk9)) (h := ?_)
      rintro _ _ ⟨b3, rfl, hb3, rfl⟩
      refine Run.as (h := ?_)
      refine Run.fin ?_
      refine At.seq ?_
      refine At.reg rfl ?_
      refine Run.mv (h := ?_)
      refine Run.eq (h := ?_)
      refine Run.mv (h := ?_)
      refine Run.andB 1 2 (ht := fun hg74 => by
          refine Run.mv (h := ?_)
          exact Run.fin_sc ScEnd.here) (hrest := ?_)
      refine Run.mv (h := ?_)
      refine Run.andB 1 5 (ht := fun hg77 => by
          refine Run.mv (h := ?_)
          exact Run.fin_sc ScEnd.here) (hrest := ?_)
      refine Run.mv (h := ?_)
      refine Run.andB 1 8 (bq := true) (ht := fun hg80 => by
          refine Run.call Tb.N18 (hc := heads) (h := ?_)
          rintro _ _ ⟨rfl, rfl⟩
          exact Run.fin_sc ScEnd.here) (hrest := ?_)
      refine Run.as (h := ?_)
      refine Run.fin ?_
      refine At.ret ?_
      have hb5 := hb2.2 (by rw [hp9])
      have hb6 := hb3.2 (by rw [hp9])
      exact At.done (hΦ := by exact ⟨by simp [hb5, hb6, tupleOf], rfl⟩)
end Go.Proofs.Ytllpfpdanonhkaa
