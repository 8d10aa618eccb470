/- Walks: BackupReads, BackupWrites. No condition. -/
import Derived.Test.YtllpfpdanonhkaaRef
set_option maxRecDepth 8000
set_option maxHeartbeats 4000000
set_option linter.unusedVariables false
set_option linter.unusedSimpArgs false
namespace Go.Proofs.Ytllpfpdanonhkaa
open Go.Sx Go.RowKit

theorem dec_range {bs : List Int} {a : Ar} (hy : Byt bs) (h : dec bs = .inr a) : (0 ≤ a.id ∧ a.id < 18446744073709551616) ∧ (0 ≤ a.par ∧ a.par < 18446744073709551616) ∧ (0 ≤ a.size ∧ a.size < 18446744073709551616) := by
  have key : ∀ k, 0 ≤ hdP bs k ∧ hdP bs k < 18446744073709551616 := fun k => bval_u64 (part_byt (part_byt hy)) (by rw [part_eq, List.length_take]; omega)
  unfold dec at h
  split at h
  · cases h
  · split at h
    · cases h
    · cases h1 : bytesE bs 0 40 with
      | some e => rw [h1] at h; cases h
      | none =>
        rw [h1] at h
        dsimp only at h
        cases h2 : decRuns bs (hdP bs 32).toNat 44 with
        | inl e => rw [h2] at h; cases h
        | inr x =>
          obtain ⟨l, q⟩ := x
          rw [h2] at h
          dsimp only at h
          split at h
          · cases h
          · split at h
            · cases h; exact ⟨key 8, key 16, key 24⟩
            · cases h
theorem _root_.Go.Sx.RdS.cutB {w0 : World} {L : List HP} {ao : Option Addr} {cp : Nat} {bs m : List Int} (h : RdS w0 L 1 ao (ints .u8 (bs ++ m))) (hc : (bs ++ m).length ≤ cp) : RdS w0 L 1 (cutA ao 0 1 cp) (ints .u8 bs) := by
  have h1 := h.cut (a := 0) (b := bs.length) (cp := cp) (by simpa using hc) (by simp)
  rw [List.drop_zero, ints_take, List.take_append_of_le_length (Nat.le_refl _), List.take_of_length_le (Nat.le_refl _)] at h1
  exact h1
theorem encs_few : ∀ {l : List Rn}, 21 * l.length ≤ (encs l).length
  | [] => by simp [encs]
  | r :: l => by
    have h1 := encs_few (l := l)
    have h2 : 21 ≤ (encR r).length := by unfold encR; rw [List.length_append, sealB_len, encH_len]; omega
    rw [encs_cons, List.length_append, List.length_cons]; omega
theorem runs_few {a : Ar} {bs : List Int} {rs : List RV} (h : enc a = bs) (hp : pures rs = a.runs) : 44 + 21 * rs.length ≤ bs.length := by
  have h1 := encs_few (l := a.runs)
  have h2 := congrArg List.length hp
  have h3 := congrArg List.length h
  rw [enc_eq, List.length_append, sealB_len, hdB_len] at h3
  simp only [pures, List.length_map] at h2
  omega
theorem getD_app {l m : List Int} {n k : Nat} (h : n = l.length) : (l ++ m).getD (n + k) 0 = m.getD k 0 := by
  subst h
  simp [List.getD, List.getElem?_append_right]

theorem reads0 {w0 : World} {L : List HP} {bs : List Int} {ao : Option Addr} {n cp : Nat} {e : Int} (hb : RdS w0 L 1 ao (ints .u8 bs)) (hn : n = bs.length) (hcp : n ≤ cp) (hle : bs.length ≤ 549755813000) (hy : Byt bs) (he : dec bs = .inl e) :
    CallOk Tb.P w0 L 5 [.slice ao n cp] fun u L' => u = .bool true ∧ L' = L := by
  refine enter Try.func5 rfl Try.ntmps5 (Nat.le_of_ble_eq_true rfl) ?_
  subst hn
  refine At.seq ?_
  refine At.reg rfl ?_
  refine Run.as (h := ?_)
  refine Run.fin ?_
  refine At.seq ?_
  refine At.reg rfl ?_
  refine Run.mv (h := ?_)
  refine Run.call Tb.N11 (hc := rcopy hb.sub rfl (by omega)) (h := ?_)
  rintro _ _ ⟨ao12, cp12, rfl, rfl⟩
  refine Run.bs Tb.G23 (h := fun g13 => ?_)
  refine Run.ap (ht := Tb.G23) (hR := .one) (n2 := bs.length + 2) (l2 := ints .u8 (bs ++ [90, 91])) (hl2 := by rw [show [[Value.int .u8 90], [Value.int .u8 91]] = ints .u8 [90, 91] from rfl, ints_app]) (hn2 := by simp) (hlen := by simp [maxLen]; omega) (hby := by simp; omega) (h := fun ao14 cp14 => ?_)
  refine Run.as (h := ?_)
  refine Run.fin ?_
  refine At.seq ?_
  refine At.rows (hp := by repeat (first | exact Pick.here | apply Pick.there)) (fun hE hB hsp hcp14 _ _ => ?_)
  have hR0 : ∀ {L' F' : List HP} {cp' : Nat}, Pick L' (row 5 1 ao14 cp' (ints .u8 (bs ++ [90, 91]))) F' → RdS w0 L' 1 ao14 (ints .u8 (bs ++ [90, 91])) := fun hp' => RdS.own hp' ⟨hE, hB, hsp⟩
  simp only [ints_length, List.length_append, List.length_cons, List.length_nil] at hcp14
  refine At.reg rfl ?_
  refine Run.mv (h := ?_)
  refine Run.mv (h := ?_)
  refine Run.len Tb.L23 (h := ?_)
  refine Run.slH Tb.L23 (h1 := by omega) (h2 := by omega) (hs := hsp) (hr := ?_)
  refine Run.call Tb.N22 (hc := (decode (bs := bs) (RdS.cutB (m := [90, 91]) (hR0 (by repeat (first | exact Pick.here | apply Pick.there))) (by simp; omega)) rfl (by omega) (by omega) hy).ok) (h := ?_)
  rintro _ _ (⟨e1, he1, rfl, rfl⟩ | ⟨a, _, _, _, he1, _⟩)
  rotate_left
  · rw [he] at he1; cases he1
  obtain rfl : e = e1 := by rw [he] at he1; cases he1; rfl
  refine Run.mv (h := ?_)
  refine Run.ex (h := ?_)
  refine Run.ex (h := ?_)
  refine Run.al Tb.Z28 (h := fun g4 => ?_)
  refine Run.st Tb.S28 (h := ?_)
  refine Run.as (h := ?_)
  refine Run.fin ?_
  refine At.seq ?_
  refine At.reg rfl ?_
  refine Run.mv (h := ?_)
  refine Run.call Tb.N23 (hc := rdecode hb.sub rfl hcp (by omega) hy) (h := ?_)
  rintro _ _ (⟨e1, he1, rfl, rfl⟩ | ⟨a, _, _, _, he1, _⟩)
  rotate_left
  · rw [he] at he1; cases he1
  obtain rfl : e = e1 := by rw [he] at he1; cases he1; rfl
  refine Run.mv (h := ?_)
  refine Run.ex (h := ?_)
  refine Run.ex (h := ?_)
  refine Run.al Tb.Z28 (h := fun g6 => ?_)
  refine Run.st Tb.S28 (h := ?_)
  refine Run.as (h := ?_)
  refine Run.fin ?_
  refine At.seq ?_
  refine At.reg rfl ?_
  refine Run.ldA Tb.A28 Tb.S28 (h := ?_)
  refine Run.ldA Tb.A28 Tb.S28 (h := ?_)
  refine Run.call Tb.N14 (hc := rsameA (r1 := []) (r2 := []) RdS.nil RdS.nil (by simp) (by simp) (by simp) (by simp)) (h := ?_)
  rintro _ _ ⟨b1, rfl, hb1, rfl⟩
  refine Run.as (h := ?_)
  refine Run.fin ?_
  refine At.seq ?_
  refine At.seq ?_
  refine At.reg rfl ?_
  refine Run.mv (h := ?_)
  refine Run.mv (h := ?_)
  refine Run.ne (h := ?_)
  refine Run.mv (h := ?_)
  refine Run.orB 2 3 (ht := fun hg37 => by
      refine Run.mv (h := ?_)
      refine Run.not (h := ?_)
      exact Run.fin_sc ScEnd.here) (hrest := ?_)
  refine Run.mv (h := ?_)
  refine Run.orB 7 7 (ht := fun hg46 => by
      refine Run.mv (h := ?_)
      refine Run.mv (h := ?_)
      refine Run.len Tb.L23 (h := ?_)
      refine Run.slH Tb.L23 (h1 := by omega) (h2 := by omega) (hs := hsp) (hr := ?_)
      refine Run.mv (h := ?_)
      refine Run.call Tb.N15 (hc := rsame (RdS.cutB (m := [90, 91]) (hR0 (by repeat (first | exact Pick.here | apply Pick.there))) (by simp; omega)) hb.sub (by omega)) (h := ?_)
      rintro _ _ ⟨rfl, rfl⟩
      refine Run.not (h := ?_)
      exact Run.fin_sc ScEnd.here) (hrest := ?_)
  refine Run.mv (h := ?_)
  refine Run.orB 6 16 (ht := fun hg54 => by
      refine Run.mv (h := ?_)
      refine Run.mv (h := ?_)
      refine Run.len Tb.L23 (h := ?_)
      refine Run.iaR (ht := Tb.L23) (hR := hR0 (by repeat (first | exact Pick.here | apply Pick.there))) (j := bs.length) (hj := rfl) (h1 := by simp) (hn := by omega) (h := ?_)
      refine Run.ldr0 (ht := Tb.A5) (hR := hR0 (by repeat (first | exact Pick.here | apply Pick.there))) (hj := Sx.ints_at (by simp)) (h := ?_)
      refine Run.eqi (b := 90) (by rw [show bs.length = bs.length + 0 from rfl, getD_app rfl]; rfl) ?_
      refine Run.ne (h := ?_)
      exact Run.fin_sc ScEnd.here) (hrest := ?_)
  refine Run.mv (h := ?_)
  refine Run.orB 7 24 (ht := fun hg63 => by
      refine Run.mv (h := ?_)
      refine Run.mv (h := ?_)
      refine Run.len Tb.L23 (h := ?_)
      refine Run.add (h := ?_)
      refine Run.eqi (b := ((bs.length + 1 : Nat) : Int)) (by rw [wi64 (by omega) (by omega)]; omega) ?_
      refine Run.iaR (ht := Tb.L23) (hR := hR0 (by repeat (first | exact Pick.here | apply Pick.there))) (j := bs.length + 1) (hj := rfl) (h1 := by simp) (hn := by omega) (h := ?_)
      refine Run.ldr0 (ht := Tb.A5) (hR := hR0 (by repeat (first | exact Pick.here | apply Pick.there))) (hj := Sx.ints_at (by simp)) (h := ?_)
      refine Run.eqi (b := 91) (by rw [getD_app rfl]; rfl) ?_
      refine Run.ne (h := ?_)
      exact Run.fin_sc ScEnd.here) (hrest := ?_)
  refine Run.fin ?_
  refine At.cnd' (ht := fun hc63 => ?_) (hf := fun hc63 => ?_)
  · skip
    exact absurd hc63 (by have hb2 := hb1.2 rfl; simp [hb2])
  · skip
    refine At.skip ?_
    refine At.seq ?_
    refine At.seq ?_
    refine At.reg rfl ?_
    refine Run.mv (h := ?_)
    refine Run.ne (h := ?_)
    refine Run.fin ?_
    refine At.cnd' (ht := fun hc65 => ?_) (hf := fun hc65 => ?_)
    · skip
      refine At.seq ?_
      refine At.reg rfl ?_
      refine Run.call Tb.N18 (hc := heads) (h := ?_)
      rintro _ _ ⟨rfl, rfl⟩
      refine Run.as (h := ?_)
      refine Run.fin ?_
      refine At.ret ?_
      refine At.then_ret ?_
      exact At.done (hΦ := by exact ⟨rfl, rfl⟩)
    · skip
      exact absurd (dec_err he) hc65
theorem reads1 {w0 : World} {L : List HP} {bs : List Int} {ao : Option Addr} {n cp : Nat} {a : Ar} (hb : RdS w0 L 1 ao (ints .u8 bs)) (hn : n = bs.length) (hcp : n ≤ cp) (hle : bs.length ≤ 549755813000) (hy : Byt bs) (he : dec bs = .inr a) :
    CallOk Tb.P w0 L 5 [.slice ao n cp] fun u L' => u = .bool true ∧ L' = L := by
  refine enter Try.func5 rfl Try.ntmps5 (Nat.le_of_ble_eq_true rfl) ?_
  subst hn
  obtain ⟨hee, hmay⟩ := enc_dec hy he
  obtain ⟨hg1, hg2, hg3⟩ := dec_range hy he
  refine At.seq ?_
  refine At.reg rfl ?_
  refine Run.as (h := ?_)
  refine Run.fin ?_
  refine At.seq ?_
  refine At.reg rfl ?_
  refine Run.mv (h := ?_)
  refine Run.call Tb.N11 (hc := rcopy hb.sub rfl (by omega)) (h := ?_)
  rintro _ _ ⟨ao12, cp12, rfl, rfl⟩
  refine Run.bs Tb.G23 (h := fun g13 => ?_)
  refine Run.ap (ht := Tb.G23) (hR := .one) (n2 := bs.length + 2) (l2 := ints .u8 (bs ++ [90, 91])) (hl2 := by rw [show [[Value.int .u8 90], [Value.int .u8 91]] = ints .u8 [90, 91] from rfl, ints_app]) (hn2 := by simp) (hlen := by simp [maxLen]; omega) (hby := by simp; omega) (h := fun ao14 cp14 => ?_)
  refine Run.as (h := ?_)
  refine Run.fin ?_
  refine At.seq ?_
  refine At.rows (hp := by repeat (first | exact Pick.here | apply Pick.there)) (fun hE hB hsp hcp14 _ _ => ?_)
  have hR0 : ∀ {L' F' : List HP} {cp' : Nat}, Pick L' (row 5 1 ao14 cp' (ints .u8 (bs ++ [90, 91]))) F' → RdS w0 L' 1 ao14 (ints .u8 (bs ++ [90, 91])) := fun hp' => RdS.own hp' ⟨hE, hB, hsp⟩
  simp only [ints_length, List.length_append, List.length_cons, List.length_nil] at hcp14
  refine At.reg rfl ?_
  refine Run.mv (h := ?_)
  refine Run.mv (h := ?_)
  refine Run.len Tb.L23 (h := ?_)
  refine Run.slH Tb.L23 (h1 := by omega) (h2 := by omega) (hs := hsp) (hr := ?_)
  refine Run.call Tb.N22 (hc := (decode (bs := bs) (RdS.cutB (m := [90, 91]) (hR0 (by repeat (first | exact Pick.here | apply Pick.there))) (by simp; omega)) rfl (by omega) (by omega) hy).ok) (h := ?_)
  rintro _ _ (⟨e1, he1, _⟩ | ⟨a1, ao1, cp1, rs1, he1, hp1, hk1, rfl, rfl⟩)
  · rw [he] at he1; cases he1
  obtain rfl : a = a1 := by rw [he] at he1; cases he1; rfl
  refine Run.mv (h := ?_)
  refine Run.ex (h := ?_)
  refine Run.ex (h := ?_)
  refine Run.al Tb.Z28 (h := fun g4 => ?_)
  refine Run.st Tb.S28 (h := ?_)
  refine Run.as (h := ?_)
  refine Run.fin ?_
  refine At.seq ?_
  refine At.reg rfl ?_
  refine Run.mv (h := ?_)
  refine Run.call Tb.N23 (hc := rdecode hb.sub rfl hcp (by omega) hy) (h := ?_)
  rintro _ _ (⟨e1, he1, _⟩ | ⟨a1, ao2, cp2, rs2, he1, hp2, hk2, rfl, rfl⟩)
  · rw [he] at he1; cases he1
  obtain rfl : a = a1 := by rw [he] at he1; cases he1; rfl
  refine Run.mv (h := ?_)
  refine Run.ex (h := ?_)
  refine Run.ex (h := ?_)
  refine Run.al Tb.Z28 (h := fun g6 => ?_)
  refine Run.st Tb.S28 (h := ?_)
  refine Run.as (h := ?_)
  refine Run.fin ?_
  refine At.seq ?_
  refine At.rns (ao := ao1) (cp := cp1) (rs := rs1) (h := fun hr1 hcl1 hcm1 => ?_)
  refine At.rns (ao := ao2) (cp := cp2) (rs := rs2) (h := fun hr2 _ _ => ?_)
  have hrl1 := runs_few hee hp1
  have hrl2 := runs_few hee hp2
  have haa : (⟨a.id, a.par, a.size, pures rs1⟩ : Ar) = a := by rw [hp1]
  refine At.reg rfl ?_
  refine Run.ldA Tb.A28 Tb.S28 (h := ?_)
  refine Run.ldA Tb.A28 Tb.S28 (h := ?_)
  refine Run.call Tb.N14 (hc := rsameA (hr1 (by repeat (first | exact Pick.here | apply Pick.there))).1 (hr2 (by repeat (first | exact Pick.here | apply Pick.there))).1 (hr1 (by repeat (first | exact Pick.here | apply Pick.there))).2 (hr2 (by repeat (first | exact Pick.here | apply Pick.there))).2 (by omega) (fun r h => by have := hk1 r h; unfold RnOk at this; omega)) (h := ?_)
  rintro _ _ ⟨b1, rfl, hb1, rfl⟩
  refine Run.as (h := ?_)
  refine Run.fin ?_
  refine At.seq ?_
  refine At.seq ?_
  refine At.reg rfl ?_
  refine Run.mv (h := ?_)
  refine Run.mv (h := ?_)
  refine Run.ne (h := ?_)
  refine Run.mv (h := ?_)
  refine Run.orB 2 3 (ht := fun hg37 => by
      refine Run.mv (h := ?_)
      refine Run.not (h := ?_)
      exact Run.fin_sc ScEnd.here) (hrest := ?_)
  refine Run.mv (h := ?_)
  refine Run.orB 7 7 (ht := fun hg46 => by
      refine Run.mv (h := ?_)
      refine Run.mv (h := ?_)
      refine Run.len Tb.L23 (h := ?_)
      refine Run.slH Tb.L23 (h1 := by omega) (h2 := by omega) (hs := hsp) (hr := ?_)
      refine Run.mv (h := ?_)
      refine Run.call Tb.N15 (hc := rsame (RdS.cutB (m := [90, 91]) (hR0 (by repeat (first | exact Pick.here | apply Pick.there))) (by simp; omega)) hb.sub (by omega)) (h := ?_)
      rintro _ _ ⟨rfl, rfl⟩
      refine Run.not (h := ?_)
      exact Run.fin_sc ScEnd.here) (hrest := ?_)
  refine Run.mv (h := ?_)
  refine Run.orB 6 16 (ht := fun hg54 => by
      refine Run.mv (h := ?_)
      refine Run.mv (h := ?_)
      refine Run.len Tb.L23 (h := ?_)
      refine Run.iaR (ht := Tb.L23) (hR := hR0 (by repeat (first | exact Pick.here | apply Pick.there))) (j := bs.length) (hj := rfl) (h1 := by simp) (hn := by omega) (h := ?_)
      refine Run.ldr0 (ht := Tb.A5) (hR := hR0 (by repeat (first | exact Pick.here | apply Pick.there))) (hj := Sx.ints_at (by simp)) (h := ?_)
      refine Run.eqi (b := 90) (by rw [show bs.length = bs.length + 0 from rfl, getD_app rfl]; rfl) ?_
      refine Run.ne (h := ?_)
      exact Run.fin_sc ScEnd.here) (hrest := ?_)
  refine Run.mv (h := ?_)
  refine Run.orB 7 24 (ht := fun hg63 => by
      refine Run.mv (h := ?_)
      refine Run.mv (h := ?_)
      refine Run.len Tb.L23 (h := ?_)
      refine Run.add (h := ?_)
      refine Run.eqi (b := ((bs.length + 1 : Nat) : Int)) (by rw [wi64 (by omega) (by omega)]; omega) ?_
      refine Run.iaR (ht := Tb.L23) (hR := hR0 (by repeat (first | exact Pick.here | apply Pick.there))) (j := bs.length + 1) (hj := rfl) (h1 := by simp) (hn := by omega) (h := ?_)
      refine Run.ldr0 (ht := Tb.A5) (hR := hR0 (by repeat (first | exact Pick.here | apply Pick.there))) (hj := Sx.ints_at (by simp)) (h := ?_)
      refine Run.eqi (b := 91) (by rw [getD_app rfl]; rfl) ?_
      refine Run.ne (h := ?_)
      exact Run.fin_sc ScEnd.here) (hrest := ?_)
  refine Run.fin ?_
  refine At.cnd' (ht := fun hc63 => ?_) (hf := fun hc63 => ?_)
  · skip
    exact absurd hc63 (by have hb2 := hb1.2 (by rw [hp1, hp2]); simp [hb2])
  · skip
    refine At.skip ?_
    refine At.seq ?_
    refine At.seq ?_
    refine At.reg rfl ?_
    refine Run.mv (h := ?_)
    refine Run.ne (h := ?_)
    refine Run.fin ?_
    refine At.condF (hx := by rfl) ?_
    refine At.skip ?_
    refine At.seq ?_
    refine At.reg rfl ?_
    refine Run.ldA Tb.A28 Tb.S28 (h := ?_)
    refine Run.call Tb.N20 (hc := encode (id := a.id) (par := a.par) (size := a.size) (rs := rs1) (hr1 (by repeat (first | exact Pick.here | apply Pick.there))).1 rfl (by omega) hk1 hg1 hg2 hg3 (hr1 (by repeat (first | exact Pick.here | apply Pick.there))).2 (by rw [haa, hee]; omega)) (h := ?_)
    rintro _ _ (⟨_, q, rfl, rfl⟩ | ⟨h, _⟩)
    rotate_left
    · rw [haa] at h; exact absurd hmay h
    rw [haa, hee]
    refine Run.mv (h := ?_)
    refine Run.ex (h := ?_)
    refine Run.ex (h := ?_)
    refine Run.as (h := ?_)
    refine Run.as (h := ?_)
    refine Run.fin ?_
    refine At.seq ?_
    refine At.reg rfl ?_
    refine Run.mv (h := ?_)
    refine Run.eq (h := ?_)
    refine Run.mv (h := ?_)
    refine Run.andB 3 2 (ht := fun hg78 => by
        refine Run.mv (h := ?_)
        refine Run.mv (h := ?_)
        refine Run.call Tb.N15 (hc := rsame .one hb.sub (by omega)) (h := ?_)
        rintro _ _ ⟨rfl, rfl⟩
        exact Run.fin_sc ScEnd.here) (hrest := ?_)
    refine Run.mv (h := ?_)
    refine Run.andB 1 7 (bq := true) (ht := fun hg81 => by
        refine Run.call Tb.N18 (hc := heads) (h := ?_)
        rintro _ _ ⟨rfl, rfl⟩
        exact Run.fin_sc ScEnd.here) (hrest := ?_)
    refine Run.as (h := ?_)
    refine Run.fin ?_
    refine At.ret ?_
    exact At.done (hΦ := by exact ⟨by simp [tupleOf], rfl⟩)
end Go.Proofs.Ytllpfpdanonhkaa
