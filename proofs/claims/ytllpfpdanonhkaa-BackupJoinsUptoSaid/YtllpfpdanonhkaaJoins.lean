/- Walk: the law of joining (BackupJoins). No condition. -/
import Derived.Test.YtllpfpdanonhkaaPlJoin
import Derived.Test.YtllpfpdanonhkaaRests
set_option maxRecDepth 8000
set_option maxHeartbeats 4000000
set_option linter.unusedVariables false
set_option linter.unusedSimpArgs false
namespace Go.Proofs.Ytllpfpdanonhkaa
open Go.Sx Go.RowKit

open Classical in
noncomputable def jA (X Y : Ar) : Ar := if (May X ∧ May Y) ∧ linkJ X Y then ⟨Y.id, X.par, X.size, joinRs X Y⟩ else ⟨0, 0, 0, []⟩
open Classical in
noncomputable def jE (X Y : Ar) : Int := if May X ∧ May Y then (if linkJ X Y then 0 else 251) else 250
def JPost (X Y : Ar) (L : List HP) : Value → List HP → Prop := fun u L' => ∃ ao cp rs, pures rs = (jA X Y).runs ∧ (∀ r ∈ rs, RnOk r.1) ∧ rs.length ≤ 33554432 ∧ u = .tuple #[.agg #[.int .u64 (jA X Y).id, .int .u64 (jA X Y).par, .int .u64 (jA X Y).size, .slice ao rs.length cp], .int .i64 (jE X Y)] ∧ L' = Rns ao cp rs :: L
theorem jfold_len {X Y : Ar} : ∀ {l : List Xt} {acc : List Rn}, (l.foldl (jstep X Y) acc).length ≤ acc.length + l.length
  | [], acc => by simp
  | e :: l, acc => by
    have h1 := jfold_len (X := X) (Y := Y) (l := l) (acc := jstep X Y acc e)
    have h2 : (jstep X Y acc e).length ≤ acc.length + 1 := by
      unfold jstep
      split
      · omega
      · split
        · exact layP_len
        · omega
    rw [List.foldl_cons, List.length_cons]; omega
theorem jPost_of {x y : AV} {L L' : List HP} {u : Value} {B : Int} (hx : AvOk x) (hy : AvOk y) (h : (¬ (May x.ar ∧ May y.ar) ∧ u = .tuple #[.agg #[.int .u64 0, .int .u64 0, .int .u64 0, .slice none 0 0], .int .i64 250] ∧ L' = L) ∨ ((May x.ar ∧ May y.ar) ∧ ¬ linkJ x.ar y.ar ∧ u = .tuple #[.agg #[.int .u64 0, .int .u64 0, .int .u64 0, .slice none 0 0], .int .i64 251] ∧ L' = L) ∨
    ((May x.ar ∧ May y.ar) ∧ linkJ x.ar y.ar ∧ ∃ ao cp rs, pures rs = joinRs x.ar y.ar ∧ (∀ r ∈ pures rs, RnB B r) ∧ u = .tuple #[.agg #[.int .u64 y.id, .int .u64 x.par, .int .u64 x.size, .slice ao rs.length cp], .int .i64 0] ∧ L' = Rns ao cp rs :: L)) : ∃ L2, JPost x.ar y.ar L u L2 ∧ ∀ fr, Star L' fr → Star L2 fr := by
  rcases h with ⟨h1, rfl, rfl⟩ | ⟨h1, h2, rfl, rfl⟩ | ⟨h1, h2, ao, cp, rs, h3, h4, rfl, rfl⟩
  · refine ⟨_, ⟨none, 0, [], ?_, (fun r h => by cases h), Nat.zero_le _, ?_, rfl⟩, fun _ => Rns_nil⟩
    · unfold jA; rw [if_neg (fun h => h1 h.1)]; rfl
    · unfold jA jE; rw [if_neg (fun h => h1 h.1), if_neg h1]; rfl
  · refine ⟨_, ⟨none, 0, [], ?_, (fun r h => by cases h), Nat.zero_le _, ?_, rfl⟩, fun _ => Rns_nil⟩
    · unfold jA; rw [if_neg (fun h => h2 h.2)]; rfl
    · unfold jA jE; rw [if_neg (fun h => h2 h.2), if_pos h1, if_neg h2]; rfl
  · refine ⟨_, ⟨ao, cp, rs, ?_, fun r hr => (h4 r.1 (List.mem_map.2 ⟨r, hr, rfl⟩)).1, ?_, ?_, rfl⟩, fun _ h => h⟩
    · unfold jA; rw [if_pos ⟨h1, h2⟩, h3]
    · have e1 := congrArg List.length h3
      have e2 := jfold_len (X := x.ar) (Y := y.ar) (l := fin2 x.ar y.ar) (acc := [])
      have hys : y.size = x.size := by have := h2; unfold linkJ at this; simp only [AV.ar] at this; omega
      have e3 := (fin_til (fits_of h1.1 h1.2 hys hx hy)).1.le.2
      have e4 : x.ar.size ≤ 33554432 := h1.1.2.2.2.1
      unfold joinRs at e1
      simp [pures] at e1 e2; omega
    · unfold jA jE; rw [if_pos ⟨h1, h2⟩, if_pos h1, if_pos h2]; rfl
theorem join2 {w0 : World} {L : List HP} {x y : AV} (hx : AvOk x) (hy : AvOk y) (hrx : RdA w0 L x) (hry : RdA w0 L y) (hcx : ∀ r ∈ x.rs, r.1.data.length ≤ r.2.2) (hcy : ∀ r ∈ y.rs, r.1.data.length ≤ r.2.2) : CallOk Tb.P w0 L 27 [.agg #[.int .u64 x.id, .int .u64 x.par, .int .u64 x.size, .slice x.ao x.rs.length x.cp], .agg #[.int .u64 y.id, .int .u64 y.par, .int .u64 y.size, .slice y.ao y.rs.length y.cp]] (JPost x.ar y.ar L) :=
  (join_ hx hy hrx hry hcx hcy).mono2 fun _ _ h => jPost_of hx hy h
theorem rjoin2 {w0 : World} {L : List HP} {x y : AV} (hx : AvOk x) (hy : AvOk y) (hrx : RdA w0 L x) (hry : RdA w0 L y) : CallOk Tb.P w0 L 28 [.agg #[.int .u64 x.id, .int .u64 x.par, .int .u64 x.size, .slice x.ao x.rs.length x.cp], .agg #[.int .u64 y.id, .int .u64 y.par, .int .u64 y.size, .slice y.ao y.rs.length y.cp]] (JPost x.ar y.ar L) :=
  (rjoin hx hy hrx hry).mono2 fun _ _ h => jPost_of hx hy (h.imp (fun h => h) (Or.imp (fun h => h) fun ⟨h1, h2, ao, cp, rs, h3, h4, h5, h6⟩ => ⟨h1, h2, ao, cp, rs, by
    have hys : y.size = x.size := by have := h2; unfold linkJ at this; simp only [AV.ar] at this; omega
    rw [h3, join_eq h1.1 h1.2 hys hx hy], h4, h5, h6⟩))
theorem rsameT {w0 : World} {L : List HP} {i1 p1 s1 : Int} {a1 a2 : Option Addr} {c1 c2 : Nat} {r1 r2 : List RV} (h1 : RdS w0 L 4 a1 (r1.map cellsV)) (h2 : RdS w0 L 4 a2 (r2.map cellsV)) (d1 : ∀ r ∈ r1, RdS w0 L 1 r.2.1 (ints .u8 r.1.data)) (d2 : ∀ r ∈ r2, RdS w0 L 1 r.2.1 (ints .u8 r.1.data)) (l1 : r1.length ≤ 1099511627776) (k1 : ∀ r ∈ r1, r.1.data.length ≤ 1099511627776) (e : pures r1 = pures r2) :
    CallOk Tb.P w0 L 14 [.agg #[.int .u64 i1, .int .u64 p1, .int .u64 s1, .slice a1 r1.length c1], .agg #[.int .u64 i1, .int .u64 p1, .int .u64 s1, .slice a2 r2.length c2]] fun u L' => u = .bool true ∧ L' = L :=
  (rsameA h1 h2 d1 d2 l1 k1).mono fun u L' ⟨b, hu, hb, hl⟩ => ⟨by rw [hu, hb.2 (by rw [e])], hl⟩
section
variable {c : Cx} {n : Nat} {S : St} {X : Act → World → Prop}
theorem At.caps {F : List HP} {ao : Option Addr} {cp : Nat} {rs : List RV} (hp : Pick S.L (Rns ao cp rs) F) (h : (∀ r ∈ rs, r.1.data.length ≤ r.2.2) → At c n S X) : At c n S X := fun a w hr hs => by
  have h0 := Rns_open.1 (hs.pick hp).star
  obtain ⟨f1, _, hrow, hst⟩ := h0
  refine h (fun r hrm => ?_) a w hr hs
  obtain ⟨l1, l2, rfl⟩ := List.append_of_mem hrm
  obtain ⟨f2, _, hpk, _⟩ := hst
  rw [List.map_append, List.map_cons] at hpk
  obtain ⟨f4, _, b4, _⟩ := (pick_mid (l := l1.map dat) (a := dat r) (F := l2.map dat)).star hpk
  have := (row_shape b4).2.2.2.1
  simpa [ints_length] using this
end
theorem copy_ok {x : AV} {rs : List RV} {ao : Option Addr} {cp : Nat} (h : pures rs = pures x.rs) (hx : AvOk x) : AvOk ⟨x.id, x.par, x.size, ao, cp, rs⟩ := ⟨hx.1, hx.2.1, hx.2.2.1, by show rs.length ≤ _; rw [len_pures h]; exact hx.2.2.2.1, ok_pures h hx.2.2.2.2⟩
theorem copy_ar {x : AV} {rs : List RV} {ao : Option Addr} {cp : Nat} (h : pures rs = pures x.rs) : (⟨x.id, x.par, x.size, ao, cp, rs⟩ : AV).ar = x.ar := by simp [AV.ar, h]

theorem joins_open {a1 a2 a3 : Option Addr} {c1 c2 c3 : Nat} {l1 l2 l3 : List RV} {F : List HP} {f : Frag} (h : Star (Rns a1 c1 l1 :: Rns a2 c2 l2 :: Rns a3 c3 l3 :: F) f) : Star (row 76 4 a1 c1 (l1.map cellsV) :: row 76 4 a2 c2 (l2.map cellsV) :: row 76 4 a3 c3 (l3.map cellsV) :: pack ((l1 ++ l2 ++ l3).map dat) :: F) f := by
  refine Star.cons_mono (fun _ h => ?_) (Rns_open.1 h)
  have h1 := Star.swap h
  refine Star.cons_mono (fun _ h => ?_) (Rns_open.1 h1)
  have h2 : Star (Rns a3 c3 l3 :: pack (l1.map dat) :: pack (l2.map dat) :: F) _ := SubL.star (L := pack (l2.map dat) :: pack (l1.map dat) :: Rns a3 c3 l3 :: F) (SubL.cons (.there (.there .here)) (SubL.cons (.there .here) SubL.refl)) h
  refine Star.cons_mono (fun _ h => ?_) (Rns_open.1 h2)
  have h3 : Star (pack (l1.map dat) :: pack (l2.map dat) :: pack (l3.map dat) :: F) _ := SubL.star (L := pack (l3.map dat) :: pack (l1.map dat) :: pack (l2.map dat) :: F) (SubL.cons (.there .here) (SubL.cons (.there .here) SubL.refl)) h
  have h4 := pack_app h3
  rw [← List.map_append] at h4
  have h5 := pack_app h4
  rwa [← List.map_append] at h5

theorem joinsL {w0 : World} {L : List HP} {x y : AV} (hx : AvOk x) (hy : AvOk y) (hrx : RdA w0 L x) (hry : RdA w0 L y) (hlx : x.rs.length ≤ 1048576) (hly : y.rs.length ≤ 1048576) :
    CallOk Tb.P w0 L 8 [.agg #[.int .u64 x.id, .int .u64 x.par, .int .u64 x.size, .slice x.ao x.rs.length x.cp], .agg #[.int .u64 y.id, .int .u64 y.par, .int .u64 y.size, .slice y.ao y.rs.length y.cp]] fun u L' => u = .bool true ∧ L' = L := by
  refine enter Try.func8 rfl Try.ntmps8 (Nat.le_of_ble_eq_true rfl) ?_
  refine At.seq ?_
  refine At.reg rfl ?_
  refine Run.bx (h := fun g2 => ?_)
  refine Run.bx (h := fun g3 => ?_)
  refine Run.as (h := ?_)
  refine Run.fin ?_
  refine At.seq ?_
  refine At.reg rfl ?_
  refine Run.ldA Tb.A28 Tb.S28 (h := ?_)
  refine Run.call Tb.N19 (hc := rcopyA hrx.1.sub (fun r h => (hrx.2 r h).sub) hx.2.2.2.1 (dl_ok hx.2.2.2.2)) (h := ?_)
  rintro _ _ ⟨ao1, cp1, rs1, hp1, rfl, rfl⟩
  refine Run.al Tb.Z28 (h := fun g5 => ?_)
  refine Run.st Tb.S28 (h := ?_)
  refine Run.fin ?_
  refine At.seq ?_
  refine At.reg rfl ?_
  refine Run.ldA Tb.A28 Tb.S28 (h := ?_)
  refine Run.call Tb.N19 (hc := rcopyA hry.1.sub (fun r h => (hry.2 r h).sub) hy.2.2.2.1 (dl_ok hy.2.2.2.2)) (h := ?_)
  rintro _ _ ⟨ao2, cp2, rs2, hp2, rfl, rfl⟩
  refine Run.al Tb.Z28 (h := fun g6 => ?_)
  refine Run.st Tb.S28 (h := ?_)
  refine Run.fin ?_
  refine At.seq ?_
  have hl1 : rs1.length ≤ 1048576 := by rw [len_pures hp1]; exact hlx
  have hl2 : rs2.length ≤ 1048576 := by rw [len_pures hp2]; exact hly
  refine At.rns (ao := ao1) (cp := cp1) (rs := rs1) (h := fun hr1 _ _ => ?_)
  refine At.rns (ao := ao2) (cp := cp2) (rs := rs2) (h := fun hr2 _ _ => ?_)
  refine At.caps (ao := ao1) (cp := cp1) (rs := rs1) (hp := by repeat (first | exact Pick.here | apply Pick.there)) fun hc1 => ?_
  refine At.caps (ao := ao2) (cp := cp2) (rs := rs2) (hp := by repeat (first | exact Pick.here | apply Pick.there)) fun hc2 => ?_
  refine At.reg rfl ?_
  refine Run.ldA Tb.A28 Tb.S28 (h := ?_)
  refine Run.ldA Tb.A28 Tb.S28 (h := ?_)
  refine Run.call Tb.N27 (hc := join2 (x := (⟨x.id, x.par, x.size, ao1, cp1, rs1⟩ : AV)) (y := (⟨y.id, y.par, y.size, ao2, cp2, rs2⟩ : AV)) (copy_ok hp1 hx) (copy_ok hp2 hy) (hr1 (by repeat (first | exact Pick.here | apply Pick.there))) (hr2 (by repeat (first | exact Pick.here | apply Pick.there))) hc1 hc2) (h := ?_)
  rintro _ _ ⟨ao3, cp3, rs3, hp3, hk3, hl3, rfl, rfl⟩
  rw [copy_ar hp1, copy_ar hp2] at hp3 ⊢
  refine Run.mv (h := ?_)
  refine Run.ex (h := ?_)
  refine Run.ex (h := ?_)
  refine Run.al Tb.Z28 (h := fun g7 => ?_)
  refine Run.st Tb.S28 (h := ?_)
  refine Run.as (h := ?_)
  refine Run.fin ?_
  refine At.seq ?_
  refine At.reg rfl ?_
  refine Run.ldA Tb.A28 Tb.S28 (h := ?_)
  refine Run.ldA Tb.A28 Tb.S28 (h := ?_)
  refine Run.call Tb.N28 (hc := rjoin2 (x := x) (y := y) hx hy ⟨hrx.1.sub, fun r h => (hrx.2 r h).sub⟩ ⟨hry.1.sub, fun r h => (hry.2 r h).sub⟩) (h := ?_)
  rintro _ _ ⟨ao4, cp4, rs4, hp4, hk4, hl4, rfl, rfl⟩
  refine Run.mv (h := ?_)
  refine Run.ex (h := ?_)
  refine Run.ex (h := ?_)
  refine Run.al Tb.Z28 (h := fun g9 => ?_)
  refine Run.st Tb.S28 (h := ?_)
  refine Run.as (h := ?_)
  refine Run.fin ?_
  refine At.seq ?_
  refine At.rns (ao := ao3) (cp := cp3) (rs := rs3) (h := fun hr3 _ _ => ?_)
  refine At.rns (ao := ao4) (cp := cp4) (rs := rs4) (h := fun hr4 _ _ => ?_)
  refine At.reg rfl ?_
  refine Run.ldA Tb.A28 Tb.S28 (h := ?_)
  refine Run.ldA Tb.A28 Tb.S28 (h := ?_)
  refine Run.call Tb.N14 (hc := rsameT (hr3 (by repeat (first | exact Pick.here | apply Pick.there))).1 (hr4 (by repeat (first | exact Pick.here | apply Pick.there))).1 (hr3 (by repeat (first | exact Pick.here | apply Pick.there))).2 (hr4 (by repeat (first | exact Pick.here | apply Pick.there))).2 (by omega) (dl_ok hk3) (by rw [hp3, hp4])) (h := ?_)
  rintro _ _ ⟨rfl, rfl⟩
  refine Run.as (h := ?_)
  refine Run.fin ?_
  refine At.seq ?_
  refine At.reg rfl ?_
  refine Run.ldA Tb.A28 Tb.S28 (h := ?_)
  refine Run.ldA Tb.A28 Tb.S28 (h := ?_)
  refine Run.call Tb.N14 (hc := rsameT (hr1 (by repeat (first | exact Pick.here | apply Pick.there))).1 hrx.1.sub (hr1 (by repeat (first | exact Pick.here | apply Pick.there))).2 (fun r h => (hrx.2 r h).sub) (by omega) (dl_ok (ok_pures hp1 hx.2.2.2.2)) hp1) (h := ?_)
  rintro _ _ ⟨rfl, rfl⟩
  refine Run.mv (h := ?_)
  refine Run.andB 3 3 (bq := true) (ht := fun hg41 => by
      refine Run.ldA Tb.A28 Tb.S28 (h := ?_)
      refine Run.ldA Tb.A28 Tb.S28 (h := ?_)
      refine Run.call Tb.N14 (hc := rsameT (hr2 (by repeat (first | exact Pick.here | apply Pick.there))).1 hry.1.sub (hr2 (by repeat (first | exact Pick.here | apply Pick.there))).2 (fun r h => (hry.2 r h).sub) (by omega) (dl_ok (ok_pures hp2 hy.2.2.2.2)) hp2) (h := ?_)
      rintro _ _ ⟨rfl, rfl⟩
      exact Run.fin_sc ScEnd.here) (hrest := ?_)
  refine Run.as (h := ?_)
  refine Run.fin ?_
  refine At.seq ?_
  refine At.chunks (L' := row 76 4 ao3 cp3 (rs3.map cellsV) :: row 76 4 ao1 cp1 (rs1.map cellsV) :: row 76 4 ao2 cp2 (rs2.map cellsV) :: pack ((rs3 ++ rs1 ++ rs2).map dat) :: cel g7 28 [.int .u64 (jA x.ar y.ar).id, .int .u64 (jA x.ar y.ar).par, .int .u64 (jA x.ar y.ar).size, .slice ao3 rs3.length cp3] :: cel g5 28 [.int .u64 x.id, .int .u64 x.par, .int .u64 x.size, .slice ao1 rs1.length cp1] :: cel g6 28 [.int .u64 y.id, .int .u64 y.par, .int .u64 y.size, .slice ao2 rs2.length cp2] :: L) (fun f hf => joins_open (SubL.star (L' := Rns ao3 cp3 rs3 :: Rns ao1 cp1 rs1 :: Rns ao2 cp2 rs2 :: cel g7 28 [.int .u64 (jA x.ar y.ar).id, .int .u64 (jA x.ar y.ar).par, .int .u64 (jA x.ar y.ar).size, .slice ao3 rs3.length cp3] :: cel g5 28 [.int .u64 x.id, .int .u64 x.par, .int .u64 x.size, .slice ao1 rs1.length cp1] :: cel g6 28 [.int .u64 y.id, .int .u64 y.par, .int .u64 y.size, .slice ao2 rs2.length cp2] :: L) (by repeat (first | exact SubL.refl | refine SubL.cons (by repeat (first | exact Pick.here | apply Pick.there)) ?_ | refine SubL.skip ?_ | exact SubL.nil)) hf)) ?_
  refine At.rowR (ao := ao3) (cp := cp3) (l := rs3.map cellsV) (hp := by repeat (first | exact Pick.here | apply Pick.there)) (h := fun hA3 _ _ _ => ?_)
  refine At.rowR (ao := ao1) (cp := cp1) (l := rs1.map cellsV) (hp := by repeat (first | exact Pick.here | apply Pick.there)) (h := fun hA1 _ _ _ => ?_)
  refine At.rowR (ao := ao2) (cp := cp2) (l := rs2.map cellsV) (hp := by repeat (first | exact Pick.here | apply Pick.there)) (h := fun hA2 _ _ _ => ?_)
  refine At.draw [(0, 1), (2, 1), (5, 1), (1, 3), (3, 3), (4, 3), (6, 3), (7, 3), (8, 0)] Tb.mixed (by kernel_rfl) ?_
  refine Run.ldA Tb.A28 Tb.S28 (h := ?_)
  refine Run.ldA Tb.A28 Tb.S28 (h := ?_)
  refine Run.ldA Tb.A28 Tb.S28 (h := ?_)
  refine Run.call Tb.N17 (hc := datas (rs := rs3) (hA3 (by repeat (first | exact Pick.here | apply Pick.there))) (by omega)) (hk := hkUse (fun _ _ hPhi w hs => by obtain ⟨ao43, cp43, hs43, rfl, rfl⟩ := hPhi; dsimp only; exact ldoA_fact hs Tb.A28 Tb.S28) (hkUse (fun _ _ hPhi w hs => by obtain ⟨ao43, cp43, hs43, rfl, rfl⟩ := hPhi; dsimp only; exact ldoA_fact hs Tb.A28 Tb.S28) (hkSkip (by kernel_rfl) (hkNil)))) (hin := nost (by kernel_rfl)) (h := ?_)
  rintro _ _ ⟨ao43, cp43, hs43, rfl, rfl⟩
  refine Run.call Tb.N17 (hc := datas (rs := rs1) (hA1 (by repeat (first | exact Pick.here | apply Pick.there))) (by omega)) (hk := hkUse (fun _ _ hPhi w hs => by obtain ⟨ao45, cp45, hs45, rfl, rfl⟩ := hPhi; dsimp only; exact ldoA_fact hs Tb.A28 Tb.S28) (hkSkip (by kernel_rfl) (hkSkip (by kernel_rfl) (hkNil)))) (hin := nost (by kernel_rfl)) (h := ?_)
  rintro _ _ ⟨ao45, cp45, hs45, rfl, rfl⟩
  refine Run.ap (ht := Tb.G39) (hR := RdS.own (by repeat (first | exact Pick.here | apply Pick.there)) hs45) (hn := by simp) (hm := by simp) (n2 := (rs3 ++ rs1).length) (l2 := (rs3 ++ rs1).map dsl) (hl2 := by rw [List.map_append]) (hn2 := by simp) (hlen := by simp [maxLen]; omega) (hby := by simp; omega) (hk := hkUse (fun _ _ w hs => ldoA_fact hs Tb.A28 Tb.S28) (hkSkip (by kernel_rfl) (hkSkip (by kernel_rfl) (hkNil)))) (h := fun ao46 cp46 => ?_)
  refine Run.call Tb.N17 (hc := datas (rs := rs2) (hA2 (by repeat (first | exact Pick.here | apply Pick.there))) (by omega)) (hk := noun (by kernel_rfl)) (hin := nost (by kernel_rfl)) (h := ?_)
  rintro _ _ ⟨ao48, cp48, hs48, rfl, rfl⟩
  refine Run.ap (ht := Tb.G39) (hR := RdS.own (by repeat (first | exact Pick.here | apply Pick.there)) hs48) (hn := by simp) (hm := by simp) (n2 := (rs3 ++ rs1 ++ rs2).length) (l2 := (rs3 ++ rs1 ++ rs2).map dsl) (hl2 := by rw [List.map_append (l₁ := rs3 ++ rs1)]) (hn2 := by simp; omega) (hlen := by simp [maxLen]; omega) (hby := by simp; omega) (hk := noun (by kernel_rfl)) (h := fun ao49 cp49 => ?_)
  refine Run.as (h := ?_)
  refine Run.fin ?_
  refine At.seq ?_
  refine At.reg rfl ?_
  refine Run.mv (h := ?_)
  refine Run.call Tb.N16 (hc := own_rv2 (rs := rs3 ++ rs1 ++ rs2) (by repeat (first | exact Pick.here | apply Pick.there)) (by repeat (first | exact Pick.here | apply Pick.there)) rfl (by simp; omega) (fun r h => by rcases List.mem_append.1 h with h | h; rcases List.mem_append.1 h with h | h; exact dl_ok hk3 r h; exact dl_ok (ok_pures hp1 hx.2.2.2.2) r h; exact dl_ok (ok_pures hp2 hy.2.2.2.2) r h)) (h := ?_)
  rintro _ _ ⟨rfl, rfl⟩
  refine Run.as (h := ?_)
  refine Run.fin ?_
  refine At.seq ?_
  refine At.reg rfl ?_
  refine Run.mv (h := ?_)
  refine Run.mv (h := ?_)
  refine Run.eq (h := ?_)
  refine Run.mv (h := ?_)
  refine Run.andB 1 3 (ht := fun hg57 => by
      refine Run.mv (h := ?_)
      exact Run.fin_sc ScEnd.here) (hrest := ?_)
  refine Run.mv (h := ?_)
  refine Run.andB 1 6 (ht := fun hg60 => by
      refine Run.mv (h := ?_)
      exact Run.fin_sc ScEnd.here) (hrest := ?_)
  refine Run.mv (h := ?_)
  refine Run.andB 1 9 (ht := fun hg63 => by
      refine Run.mv (h := ?_)
      exact Run.fin_sc ScEnd.here) (hrest := ?_)
  refine Run.mv (h := ?_)
  refine Run.andB 1 12 (bq := true) (ht := fun hg66 => by
      refine Run.call Tb.N18 (hc := heads) (h := ?_)
      rintro _ _ ⟨rfl, rfl⟩
      exact Run.fin_sc ScEnd.here) (hrest := ?_)
  refine Run.as (h := ?_)
  refine Run.fin ?_
  refine At.ret ?_
  exact At.done (hΦ := by exact ⟨by simp [tupleOf], rfl⟩)
end Go.Proofs.Ytllpfpdanonhkaa
