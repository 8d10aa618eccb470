/- Walks: the reference lays an archive down. No condition. -/
import Derived.Test.YtllpfpdanonhkaaEnc
set_option maxRecDepth 8000
set_option maxHeartbeats 4000000
set_option linter.unusedVariables false
set_option linter.unusedSimpArgs false
namespace Go.Proofs.Ytllpfpdanonhkaa
open Go.Sx Go.RowKit

theorem encTo0_len {a : Ar} : (encTo a 0).length = 44 := by
  simp only [encTo, List.take_zero, List.map_nil, List.flatten_nil, List.append_nil, sealB_len]
  rw [hdr_len (by simp [hdV])]
theorem magic8 : bigs 6003378903737058097 8 = [83, 80, 73, 78, 65, 82, 67, 49] := by decide
theorem bigs_one (b : Bool) : bigs (if b then 0 else 1) 1 = [if b then 0 else 1] := by cases b <;> decide

theorem rencode {w0 : World} {L : List HP} {id par size : Int} {ao : Option Addr} {n cp : Nat} {rs : List RV} (hr : RdS w0 L 4 ao (rs.map cellsV)) (hn : n = rs.length) (hle : n ≤ 1099511627776) (hok : ∀ r ∈ rs, RnOk r.1) (hid : 0 ≤ id ∧ id < 18446744073709551616) (hpar : 0 ≤ par ∧ par < 18446744073709551616) (hsz : 0 ≤ size ∧ size < 18446744073709551616) (hdt : ∀ r ∈ rs, RdS w0 L 1 r.2.1 (ints .u8 r.1.data)) (hbig : (enc ⟨id, par, size, pures rs⟩).length ≤ 549755813888) :
    CallOk Tb.P w0 L 21 [.agg #[.int .u64 id, .int .u64 par, .int .u64 size, .slice ao n cp]] fun u L' => (May ⟨id, par, size, pures rs⟩ ∧ ∃ ao' cp', u = .tuple #[.slice ao' (enc ⟨id, par, size, pures rs⟩).length cp', .int .i64 0] ∧ L' = row 5 1 ao' cp' (ints .u8 (enc ⟨id, par, size, pures rs⟩)) :: L) ∨ (¬ May ⟨id, par, size, pures rs⟩ ∧ u = .tuple #[.slice none 0 0, .int .i64 250] ∧ L' = L) := by
  refine enter Try.func21 rfl Try.ntmps21 (Nat.le_of_ble_eq_true rfl) ?_
  refine At.seq ?_
  refine At.reg rfl ?_
  refine Run.bx (h := fun g1 => ?_)
  refine Run.as (h := ?_)
  refine Run.as (h := ?_)
  refine Run.fin ?_
  refine At.seq ?_
  refine At.seq ?_
  refine At.reg rfl ?_
  refine Run.ldA Tb.A28 Tb.S28 (h := ?_)
  refine Run.call Tb.N33 (hc := rcheck hr.sub hn hle hok hsz) (h := ?_)
  rintro _ _ ⟨bm, rfl, hbm, rfl⟩
  refine Run.ne (h := ?_)
  refine Run.fin ?_
  refine At.cnd' (ht := fun hc11 => ?_) (hf := fun hc11 => ?_)
  · skip
    refine At.seq ?_
    refine At.reg rfl ?_
    refine Run.as (h := ?_)
    refine Run.as (h := ?_)
    refine Run.fin ?_
    refine At.ret ?_
    refine At.then_ret ?_
    exact At.done (hΦ := by exact .inr ⟨fun h => hc11 (by rw [hbm.2 h]; rfl), rfl, rfl⟩)
  · skip
    refine At.skip ?_
    refine At.seq ?_
    refine At.reg rfl ?_
    refine Run.bs Tb.G23 (h := fun g12 => ?_)
    refine Run.chunks (L' := row 5 1 (some ⟨g12, 0, none⟩) 8 (ints .u8 (hdr [6003378903737058097, id, par, size, (n : Int)] 1)) :: cel g1 28 [.int .u64 id, .int .u64 par, .int .u64 size, .slice ao n cp] :: L) (fun _ hf => by rw [show hdr [6003378903737058097, id, par, size, (n : Int)] 1 = [83, 80, 73, 78, 65, 82, 67, 49] by simp [hdr, magic8]]; exact hf) ?_
    refine Run.as (h := ?_)
    refine Run.fin ?_
    refine At.seq ?_
    refine At.reg rfl ?_
    refine Run.mv (h := ?_)
    refine Run.fa Tb.F28_0 (h := ?_)
    refine Run.ld Tb.A22 (h := ?_)
    refine Run.call Tb.N43 (hc := rbig (n := 8) hid (by omega)) (h := ?_)
    rintro _ _ ⟨q16, rfl, rfl⟩
    refine Run.ap (ht := Tb.G23) (hR := .one) (hn := by simp [hdr_len, bigs_len]) (hm := by simp [bigs_len]) (n2 := 16) (l2 := ints .u8 (hdr [6003378903737058097, id, par, size, (n : Int)] 2)) (hl2 := by rw [ints_app]; exact congrArg _ (hdr_succ (vs := [6003378903737058097, id, par, size, (n : Int)]) (k := 1) (by simp))) (hn2 := by simp [hdr_len, bigs_len]) (hlen := by simp [hdr_len, bigs_len, maxLen]) (hby := by simp [hdr_len, bigs_len]) (h := fun ao17 cp17 => ?_)
    refine Run.as (h := ?_)
    refine Run.fin ?_
    refine At.seq ?_
    refine At.reg rfl ?_
    refine Run.mv (h := ?_)
    refine Run.fa Tb.F28_1 (h := ?_)
    refine Run.ld Tb.A22 (h := ?_)
    refine Run.call Tb.N43 (hc := rbig (n := 8) hpar (by omega)) (h := ?_)
    rintro _ _ ⟨q21, rfl, rfl⟩
    refine Run.ap (ht := Tb.G23) (hR := .one) (hn := by simp [hdr_len, bigs_len]) (hm := by simp [bigs_len]) (n2 := 24) (l2 := ints .u8 (hdr [6003378903737058097, id, par, size, (n : Int)] 3)) (hl2 := by rw [ints_app]; exact congrArg _ (hdr_succ (vs := [6003378903737058097, id, par, size, (n : Int)]) (k := 2) (by simp))) (hn2 := by simp [hdr_len, bigs_len]) (hlen := by simp [hdr_len, bigs_len, maxLen]) (hby := by simp [hdr_len, bigs_len]) (h := fun ao22 cp22 => ?_)
    refine Run.as (h := ?_)
    refine Run.fin ?_
    refine At.seq ?_
    refine At.reg rfl ?_
    refine Run.mv (h := ?_)
    refine Run.fa Tb.F28_2 (h := ?_)
    refine Run.ld Tb.A22 (h := ?_)
    refine Run.call Tb.N43 (hc := rbig (n := 8) hsz (by omega)) (h := ?_)
    rintro _ _ ⟨q26, rfl, rfl⟩
    refine Run.ap (ht := Tb.G23) (hR := .one) (hn := by simp [hdr_len, bigs_len]) (hm := by simp [bigs_len]) (n2 := 32) (l2 := ints .u8 (hdr [6003378903737058097, id, par, size, (n : Int)] 4)) (hl2 := by rw [ints_app]; exact congrArg _ (hdr_succ (vs := [6003378903737058097, id, par, size, (n : Int)]) (k := 3) (by simp))) (hn2 := by simp [hdr_len, bigs_len]) (hlen := by simp [hdr_len, bigs_len, maxLen]) (hby := by simp [hdr_len, bigs_len]) (h := fun ao27 cp27 => ?_)
    refine Run.as (h := ?_)
    refine Run.fin ?_
    refine At.seq ?_
    refine At.reg rfl ?_
    refine Run.mv (h := ?_)
    refine Run.fa Tb.F28_3 (h := ?_)
    refine Run.ld Tb.A26 (h := ?_)
    refine Run.len Tb.L26 (h := ?_)
    refine Run.cvf Tb.I3 Tb.I22 (hw := by exact wu64 (by omega) (by omega)) (h := ?_)
    refine Run.call Tb.N43 (hc := rbig (n := 8) ⟨by omega, by omega⟩ (by omega)) (h := ?_)
    rintro _ _ ⟨q33, rfl, rfl⟩
    refine Run.ap (ht := Tb.G23) (hR := .one) (hn := by simp [hdr_len, bigs_len]) (hm := by simp [bigs_len]) (n2 := 40) (l2 := ints .u8 (hdr [6003378903737058097, id, par, size, (n : Int)] 5)) (hl2 := by rw [ints_app]; exact congrArg _ (hdr_succ (vs := [6003378903737058097, id, par, size, (n : Int)]) (k := 4) (by simp))) (hn2 := by simp [hdr_len, bigs_len]) (hlen := by simp [hdr_len, bigs_len, maxLen]) (hby := by simp [hdr_len, bigs_len]) (h := fun ao34 cp34 => ?_)
    refine Run.as (h := ?_)
    refine Run.fin ?_
    refine At.seq ?_
    refine At.rowR (h := fun hR4 _ _ _ => ?_)
    refine At.reg rfl ?_
    refine Run.mv (h := ?_)
    refine Run.call Tb.N44 (hc := rcrc (hR4 (by repeat (first | exact Pick.here | apply Pick.there))) (by simp [hdr_len]) (by omega) hdr_byt) (h := ?_)
    rintro _ _ ⟨rfl, rfl⟩
    refine Run.as (h := ?_)
    refine Run.fin ?_
    refine At.seq ?_
    refine At.reg rfl ?_
    refine Run.mv (h := ?_)
    refine Run.mv (h := ?_)
    refine Run.cvf Tb.I90 Tb.I22 (hw := by have h := crcv_range (hdr [6003378903737058097, id, par, size, (n : Int)] 5); exact wu64 h.1 (by omega)) (h := ?_)
    refine Run.call Tb.N43 (hc := rbig (n := 4) (by have h := crcv_range (hdr [6003378903737058097, id, par, size, (n : Int)] 5); omega) (by omega)) (h := ?_)
    rintro _ _ ⟨q40, rfl, rfl⟩
    refine Run.ap (ht := Tb.G23) (hR := .one) (hn := by simp [hdr_len, bigs_len]) (hm := by simp [bigs_len]) (n2 := (encTo ⟨id, par, size, pures rs⟩ 0).length) (l2 := ints .u8 (encTo ⟨id, par, size, pures rs⟩ 0)) (hl2 := by rw [ints_app]; exact congrArg _ ((by simp [encTo, sealB, hdV, pures, hn]))) (hn2 := by rw [encTo0_len]; simp [hdr_len, bigs_len]) (hlen := by simp [hdr_len, bigs_len, maxLen]) (hby := by simp [hdr_len, bigs_len]) (h := fun ao41 cp41 => ?_)
    refine Run.as (h := ?_)
    refine Run.fin ?_
    refine At.seq ?_
    refine At.seq ?_
    refine At.reg rfl ?_
    refine Run.as (h := ?_)
    refine Run.fin ?_
    refine At.block ?_
    refine At.loop (α := Nat × Option Addr × Nat) (fun x => ⟨[(1, .pointer (some ⟨g1, 0, none⟩)), (4, .slice x.2.1 (encTo ⟨id, par, size, pures rs⟩ x.1).length x.2.2), (6, .int .i64 x.1)], row 5 1 x.2.1 x.2.2 (ints .u8 (encTo ⟨id, par, size, pures rs⟩ x.1)) :: cel g1 28 [.int .u64 id, .int .u64 par, .int .u64 size, .slice ao n cp] :: L, []⟩) (fun x => x.1 ≤ n) (fun x => n - x.1) ((0, ao41, cp41)) (Nat.zero_le _) (Ent.of (by repeat (first | exact SubE.nil | refine SubE.cons (by first | rfl | (show some _ = some _; simp; done)) ?_)) (by repeat (first | exact SubL.refl | refine SubL.cons (by repeat (first | exact Pick.here | apply Pick.there)) ?_ | refine SubL.skip ?_ | exact SubL.nil))) (fun x hx => ?_)
    obtain ⟨k, a4, c4⟩ := x
    dsimp only at hx ⊢
    refine At.seq ?_
    refine At.seq ?_
    refine At.reg rfl ?_
    refine Run.mv (h := ?_)
    refine Run.fa Tb.F28_3 (h := ?_)
    refine Run.ld Tb.A26 (h := ?_)
    refine Run.len Tb.L26 (h := ?_)
    refine Run.lt (h := ?_)
    refine Run.fin ?_
    refine At.cnd' (ht := fun hc46 => ?_) (hf := fun hc46 => ?_)
    · skip
      obtain ⟨r, hrk⟩ : ∃ r, rs[k]? = some r := ⟨rs[k]'(by omega), List.getElem?_eq_getElem _⟩
      obtain ⟨q1, q2, q3, q4, q5, q6⟩ := hok r (List.mem_of_getElem? hrk)
      have hrd := hdt r (List.mem_of_getElem? hrk)
      have hap : (pures rs)[k]? = some r.1 := pures_at hrk
      have hl0 := encTo_le (a := ⟨id, par, size, pures rs⟩) (k := k + 1) (by simp [pures]; omega)
      have hl1 := congrArg List.length (encTo_succ (a := ⟨id, par, size, pures rs⟩) hap)
      rw [List.length_append] at hl1
      refine At.skip ?_
      refine At.seq ?_
      refine At.block ?_
      refine At.seq ?_
      refine At.reg rfl ?_
      refine Run.fa Tb.F28_3 (h := ?_)
      refine Run.ld Tb.A26 (h := ?_)
      refine Run.mv (h := ?_)
      refine Run.iaR (ht := Tb.L26) (hR := hr.sub) (hj := rfl) (h1 := by simp; omega) (hn := by omega) (h := ?_)
      refine Run.ldrA (ht := Tb.A76) (hn := Tb.S76) (hR := hr.sub) (hj := cells_at hrk) (h := ?_)
      refine Run.al Tb.Z76 (h := fun g7 => ?_)
      refine Run.st Tb.S76 (h := ?_)
      refine Run.fin ?_
      refine At.seq ?_
      refine At.reg rfl ?_
      refine Run.fa Tb.F76_0 (h := ?_)
      refine Run.ld Tb.A22 (h := ?_)
      refine Run.call Tb.N43 (hc := rbig (n := 8) ⟨q1, q2⟩ (by omega)) (h := ?_)
      rintro _ _ ⟨q56, rfl, rfl⟩
      refine Run.as (h := ?_)
      refine Run.fin ?_
      refine At.seq ?_
      refine At.reg rfl ?_
      refine Run.mv (h := ?_)
      refine Run.fa Tb.F76_1 (h := ?_)
      refine Run.ld Tb.A22 (h := ?_)
      refine Run.call Tb.N43 (hc := rbig (n := 8) ⟨q3, q4⟩ (by omega)) (h := ?_)
      rintro _ _ ⟨q60, rfl, rfl⟩
      refine Run.ap (ht := Tb.G23) (hR := .one) (hn := by simp [hdr_len, bigs_len]) (hm := by simp [bigs_len]) (n2 := 16) (l2 := ints .u8 (bigs r.1.off 8 ++ bigs r.1.len 8)) (hl2 := by rw [ints_app]) (hn2 := by simp [hdr_len, bigs_len]) (hlen := by simp [hdr_len, bigs_len, maxLen]) (hby := by simp [hdr_len, bigs_len]) (h := fun ao61 cp61 => ?_)
      refine Run.as (h := ?_)
      refine Run.fin ?_
      refine At.seq ?_
      refine At.cut (α := Option Addr × Nat) (fun y => ⟨[(1, .pointer (some ⟨g1, 0, none⟩)), (4, .slice a4 (encTo ⟨id, par, size, pures rs⟩ k).length c4), (6, .int .i64 k), (7, .pointer (some ⟨g7, 0, none⟩)), (8, .slice y.1 17 y.2)], row 5 1 y.1 y.2 (ints .u8 (encH r.1)) :: row 5 1 a4 c4 (ints .u8 (encTo ⟨id, par, size, pures rs⟩ k)) :: cel g7 76 [.int .u64 r.1.off, .int .u64 r.1.len, .bool r.1.hole, .slice r.2.1 r.1.data.length r.2.2] :: cel g1 28 [.int .u64 id, .int .u64 par, .int .u64 size, .slice ao n cp] :: L, []⟩) (fun y => True) ?_ (fun y hx => ?_)
      · skip
        refine At.seq ?_
        refine At.reg rfl ?_
        refine Run.fa Tb.F76_2 (h := ?_)
        refine Run.ld Tb.A4 (h := ?_)
        refine Run.fin ?_
        refine At.cnd' (ht := fun hc63 => ?_) (hf := fun hc63 => ?_)
        · skip
          refine At.reg rfl ?_
          refine Run.mv (h := ?_)
          refine Run.bs Tb.G23 (h := fun g65 => ?_)
          refine Run.ap (ht := Tb.G23) (hR := .one) (hn := by simp [bigs_len]) (hm := by simp) (n2 := 17) (l2 := ints .u8 (encH r.1)) (hl2 := by rw [ints_snoc, encH, bigs_one]; simp [hc63]) (hn2 := by simp [bigs_len]) (hlen := by simp [bigs_len, maxLen]) (hby := by simp [bigs_len]) (h := fun ao66 cp66 => ?_)
          refine Run.as (h := ?_)
          refine Run.fin ?_
          exact At.join ((ao66, cp66)) (trivial)
        · skip
          refine At.reg rfl ?_
          refine Run.mv (h := ?_)
          refine Run.bs Tb.G23 (h := fun g68 => ?_)
          refine Run.ap (ht := Tb.G23) (hR := .one) (hn := by simp [bigs_len]) (hm := by simp) (n2 := 17) (l2 := ints .u8 (encH r.1)) (hl2 := by rw [ints_snoc, encH, bigs_one]; simp [hc63]) (hn2 := by simp [bigs_len]) (hlen := by simp [bigs_len, maxLen]) (hby := by simp [bigs_len]) (h := fun ao69 cp69 => ?_)
          refine Run.as (h := ?_)
          refine Run.fin ?_
          exact At.join ((ao69, cp69)) (trivial)
      · skip
        obtain ⟨a8, c8⟩ := y
        dsimp only
        refine At.seq ?_
        refine At.rowR (h := fun hR8 _ _ _ => ?_)
        refine At.reg rfl ?_
        refine Run.mv (h := ?_)
        refine Run.call Tb.N44 (hc := rcrc (hR8 (by repeat (first | exact Pick.here | apply Pick.there))) (by simp [encH_len]) (by omega) encH_byt) (h := ?_)
        rintro _ _ ⟨rfl, rfl⟩
        refine Run.as (h := ?_)
        refine Run.fin ?_
        refine At.seq ?_
        refine At.reg rfl ?_
        refine Run.mv (h := ?_)
        refine Run.mv (h := ?_)
        refine Run.ap (ht := Tb.G23) (hR := (hR8 (by repeat (first | exact Pick.here | apply Pick.there)))) (hn := by simp) (hm := by simp [encH_len]) (n2 := (encTo ⟨id, par, size, pures rs⟩ k ++ encH r.1).length) (l2 := ints .u8 (encTo ⟨id, par, size, pures rs⟩ k ++ encH r.1)) (hl2 := by rw [ints_app]) (hn2 := by simp [encH_len] <;> omega) (hlen := by simp [maxLen, encH_len]; omega) (hby := by simp [encH_len]; omega) (h := fun ao74 cp74 => ?_)
        refine Run.as (h := ?_)
        refine Run.fin ?_
        refine At.seq ?_
        refine At.reg rfl ?_
        refine Run.mv (h := ?_)
        refine Run.mv (h := ?_)
        refine Run.cvf Tb.I90 Tb.I22 (hw := by have h := crcv_range (encH r.1); exact wu64 h.1 (by omega)) (h := ?_)
        refine Run.call Tb.N43 (hc := rbig (n := 4) (by have h := crcv_range (encH r.1); omega) (by omega)) (h := ?_)
        rintro _ _ ⟨q78, rfl, rfl⟩
        refine Run.ap (ht := Tb.G23) (hR := .one) (hn := by simp) (hm := by simp [encH_len, bigs_len]) (n2 := (encTo ⟨id, par, size, pures rs⟩ k ++ encH r.1 ++ bigs (crcv (encH r.1)) 4).length) (l2 := ints .u8 (encTo ⟨id, par, size, pures rs⟩ k ++ encH r.1 ++ bigs (crcv (encH r.1)) 4)) (hl2 := by rw [ints_app]) (hn2 := by simp [encH_len, bigs_len] <;> omega) (hlen := by simp [maxLen, encH_len, bigs_len]; omega) (hby := by simp [encH_len, bigs_len]; omega) (h := fun ao79 cp79 => ?_)
        refine Run.as (h := ?_)
        refine Run.fin ?_
        refine At.seq ?_
        refine At.reg rfl ?_
        refine Run.fa Tb.F76_2 (h := ?_)
        refine Run.ld Tb.A4 (h := ?_)
        refine Run.not (h := ?_)
        refine Run.fin ?_
        refine At.cnd' (ht := fun hc82 => ?_) (hf := fun hc82 => ?_)
        · skip
          have hlR : (encR r.1).length = 21 + (r.1.data.length + 4) := by simp [encR, hc82, sealB_len, encH_len]
          refine At.seq ?_
          refine At.reg rfl ?_
          refine Run.fa Tb.F76_3 (h := ?_)
          refine Run.ld Tb.A23 (h := ?_)
          refine Run.call Tb.N44 (hc := rcrc hrd.sub rfl (by omega) q6) (h := ?_)
          rintro _ _ ⟨rfl, rfl⟩
          refine Run.as (h := ?_)
          refine Run.fin ?_
          refine At.seq ?_
          refine At.reg rfl ?_
          refine Run.mv (h := ?_)
          refine Run.fa Tb.F76_3 (h := ?_)
          refine Run.ld Tb.A23 (h := ?_)
          refine Run.ap (ht := Tb.G23) (hR := hrd.sub) (hn := by simp) (hm := by simp [encH_len, bigs_len]) (n2 := (encTo ⟨id, par, size, pures rs⟩ k ++ encH r.1 ++ bigs (crcv (encH r.1)) 4 ++ r.1.data).length) (l2 := ints .u8 (encTo ⟨id, par, size, pures rs⟩ k ++ encH r.1 ++ bigs (crcv (encH r.1)) 4 ++ r.1.data)) (hl2 := by rw [ints_app]) (hn2 := by simp [encH_len, bigs_len] <;> omega) (hlen := by simp [maxLen, encH_len, bigs_len]; omega) (hby := by simp [encH_len, bigs_len]; omega) (h := fun ao89 cp89 => ?_)
          refine Run.as (h := ?_)
          refine Run.fin ?_
          refine At.reg rfl ?_
          refine Run.mv (h := ?_)
          refine Run.mv (h := ?_)
          refine Run.cvf Tb.I90 Tb.I22 (hw := by have h := crcv_range r.1.data; exact wu64 h.1 (by omega)) (h := ?_)
          refine Run.call Tb.N43 (hc := rbig (n := 4) (by have h := crcv_range r.1.data; omega) (by omega)) (h := ?_)
          rintro _ _ ⟨q93, rfl, rfl⟩
          refine Run.ap (ht := Tb.G23) (hR := .one) (hn := by simp) (hm := by simp [encH_len, bigs_len]) (n2 := (encTo ⟨id, par, size, pures rs⟩ (k + 1)).length) (l2 := ints .u8 (encTo ⟨id, par, size, pures rs⟩ (k + 1))) (hl2 := by rw [ints_app]; exact congrArg _ (encTo_data hap hc82)) (hn2 := by rw [hl1, hlR]; simp [encH_len, bigs_len]; omega) (hlen := by simp [maxLen, encH_len, bigs_len]; omega) (hby := by simp [encH_len, bigs_len]; omega) (h := fun ao94 cp94 => ?_)
          refine Run.as (h := ?_)
          refine Run.fin ?_
          refine At.inb_norm ?_
          refine At.reg rfl ?_
          refine Run.mv (h := ?_)
          refine Run.add (h := ?_)
          refine Run.eqi (b := ((k + 1 : Nat) : Int)) (by rw [wi64 (by omega) (by omega)]; omega) ?_
          refine Run.as (h := ?_)
          refine Run.fin ?_
          exact At.again ((k + 1, ao94, cp94)) (by dsimp only; omega) (by dsimp only; omega)
        · skip
          rw [encTo_hole hap (by simpa using hc82)]
          refine At.skip ?_
          refine At.inb_norm ?_
          refine At.reg rfl ?_
          refine Run.mv (h := ?_)
          refine Run.add (h := ?_)
          refine Run.eqi (b := ((k + 1 : Nat) : Int)) (by rw [wi64 (by omega) (by omega)]; omega) ?_
          refine Run.as (h := ?_)
          refine Run.fin ?_
          exact At.again ((k + 1, ao79, cp79)) (by dsimp only; omega) (by dsimp only; omega)
    · skip
      refine At.exit ?_
      refine At.then_exit ?_
      refine At.then_exit ?_
      refine At.inb_hit ?_
      refine At.seq ?_
      obtain rfl : n = k := by omega
      rw [show encTo ⟨id, par, size, pures rs⟩ n = enc ⟨id, par, size, pures rs⟩ by simp [enc, pures, hn]]
      refine At.reg rfl ?_
      refine Run.mv (h := ?_)
      refine Run.as (h := ?_)
      refine Run.as (h := ?_)
      refine Run.fin ?_
      refine At.ret ?_
      exact At.done (hΦ := by exact .inl ⟨hbm.1 (by cases bm <;> simp_all), a4, c4, rfl, rfl⟩)
end Go.Proofs.Ytllpfpdanonhkaa
