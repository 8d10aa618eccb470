/- Walk: two archives are joined (backup.Join). No condition. -/
import Derived.Test.YtllpfpdanonhkaaPlTile
import Derived.Test.YtllpfpdanonhkaaMk
import Derived.Test.YtllpfpdanonhkaaRst
set_option maxRecDepth 8000
set_option maxHeartbeats 4000000
set_option linter.unusedVariables false
set_option linter.unusedSimpArgs false
namespace Go.Proofs.Ytllpfpdanonhkaa
open Go.Sx Go.RowKit

theorem az107 : arrZ Tb.P 107 = some (2, 4, [.int .u64 0, .int .u64 0, .int .u64 0, .slice none 0 0, .int .u64 0, .int .u64 0, .int .u64 0, .slice none 0 0]) := by kernel_rfl
theorem ix107 : arrE Tb.P 107 = some (2, 28, 4) := by kernel_rfl
noncomputable instance decMay {a : Ar} : Decidable (May a) := Classical.propDecidable _
theorem may2 {w0 : World} {L : List HP} {v : AV} (hr : RdS w0 L 4 v.ao (v.rs.map cellsV)) (ho : AvOk v) : CallOk Tb.P w0 L 37 [.agg #[.int .u64 v.id, .int .u64 v.par, .int .u64 v.size, .slice v.ao v.rs.length v.cp]] fun u L' => u = .bool (decide (May v.ar)) ∧ L' = L :=
  (may hr rfl ho.2.2.2.1 ho.2.2.2.2 ho.2.2.1).mono fun u L' ⟨b, h1, h2, h3⟩ => ⟨by rw [h1]; congr 1; exact (Bool.eq_iff_iff.2 (h2.trans decide_eq_true_iff.symm)), h3⟩
def exK (k n : Nat) (r : Rn) : Xt := ⟨r.off, r.off + r.len, k, n⟩
def putX (size : Int) (k : Nat) (rs : List Rn) (l : List Xt) : Nat → List Xt
  | 0 => l
  | n + 1 => match rs[n]? with | some r => setE size (putX size k rs l n) (exK k n r) | none => putX size k rs l n
def vP (k : Nat) (rs : List Rn) (V : Int → Int × Int) : Nat → Int → Int × Int
  | 0 => V
  | n + 1 => match rs[n]? with | some r => setV (vP k rs V n) (exK k n r) | none => vP k rs V n
def arK (X Y : Ar) (k : Nat) : Ar := if k = 0 then X else Y
def mK (X Y : Ar) : Nat → List Xt
  | 0 => newE X.size (-1) (-1)
  | k + 1 => putX X.size k (arK X Y k).runs (mK X Y k) (arK X Y k).runs.length
def vK (X Y : Ar) : Nat → Int → Int × Int
  | 0 => fun _ => (-1, -1)
  | k + 1 => vP k (arK X Y k).runs (vK X Y k) (arK X Y k).runs.length
theorem vP_succ {k n : Nat} {rs : List Rn} {V : Int → Int × Int} {r : Rn} (h : rs[n]? = some r) : vP k rs V (n + 1) = setV (vP k rs V n) (exK k n r) := by simp [vP, h]
theorem vP_none {k n : Nat} {rs : List Rn} {V : Int → Int × Int} (h : rs[n]? = none) : vP k rs V (n + 1) = vP k rs V n := by simp [vP, h]
theorem putX_none {size : Int} {k n : Nat} {rs : List Rn} {l : List Xt} (h : rs[n]? = none) : putX size k rs l (n + 1) = putX size k rs l n := by simp [putX, h]
theorem putX_succ {size : Int} {k n : Nat} {rs : List Rn} {l : List Xt} {r : Rn} (h : rs[n]? = some r) : putX size k rs l (n + 1) = setE size (putX size k rs l n) (exK k n r) := by simp [putX, h]
/-- What V says is a run's. -/
def InR (X Y : Ar) (V : Int → Int × Int) : Prop := ∀ p, V p = (-1, -1) ∨ ∃ (k n : Nat) (r : Rn), k < 2 ∧ (arK X Y k).runs[n]? = some r ∧ V p = ((k : Int), (n : Int)) ∧ r.off ≤ p ∧ p < r.off + r.len
def Fits (X Y : Ar) : Prop := 0 ≤ X.size ∧ ∀ k r, k < 2 → r ∈ (arK X Y k).runs → 0 ≤ r.off ∧ 0 ≤ r.len ∧ r.off + r.len ≤ X.size
theorem put_til {X Y : Ar} (hf : Fits X Y) {k : Nat} (hk : k < 2) {l : List Xt} {V : Int → Int × Int} (h1 : Til 0 X.size l) (h2 : Says V l) (h3 : InR X Y V) : ∀ n, Til 0 X.size (putX X.size k (arK X Y k).runs l n) ∧ Says (vP k (arK X Y k).runs V n) (putX X.size k (arK X Y k).runs l n) ∧ InR X Y (vP k (arK X Y k).runs V n)
  | 0 => ⟨h1, h2, h3⟩
  | n + 1 => by
    obtain ⟨i1, i2, i3⟩ := put_til hf hk h1 h2 h3 n
    cases hr : (arK X Y k).runs[n]? with
    | none => rw [putX_none hr, vP_none hr]; exact ⟨i1, i2, i3⟩
    | some r =>
      rw [putX_succ hr, vP_succ hr]
      obtain ⟨f1, f2, f3⟩ := hf.2 k r hk (List.mem_of_getElem? hr)
      obtain ⟨j1, j2⟩ := set_til (r := exK k n r) i1 i2 ⟨f1, by simp only [exK]; omega, f3⟩
      refine ⟨j1, j2, fun p => ?_⟩
      show setV _ _ p = _ ∨ _
      unfold setV
      split
      · rename_i hp
        exact .inr ⟨k, n, r, hk, hr, rfl, hp.1, hp.2⟩
      · exact i3 p
theorem mK_til {X Y : Ar} (hf : Fits X Y) : ∀ k, k ≤ 2 → Til 0 X.size (mK X Y k) ∧ Says (vK X Y k) (mK X Y k) ∧ InR X Y (vK X Y k)
  | 0, _ => ⟨(new_til hf.1).1, (new_til hf.1).2, fun p => .inl rfl⟩
  | k + 1, hk => by
    obtain ⟨h1, h2, h3⟩ := mK_til hf k (by omega)
    exact put_til hf (by omega) h1 h2 h3 _
/-- The map as it is read in the end. -/
def fin2 (X Y : Ar) : List Xt := cutE (max 0 0) (min X.size X.size) (mK X Y 2)
theorem fin_til {X Y : Ar} (hf : Fits X Y) : Til 0 X.size (fin2 X Y) ∧ Says (vK X Y 2) (fin2 X Y) := by
  obtain ⟨h1, h2, h3⟩ := mK_til hf 2 (Nat.le_refl _)
  have h0 := hf.1
  have c := cut_til (lo := 0) (hi := X.size) h1 (by omega) (by omega) (by omega) (by omega)
  unfold fin2
  rw [show max (0 : Int) 0 = 0 by omega, show min X.size X.size = X.size by omega]
  rw [show max (0 : Int) 0 = 0 by omega] at c
  exact ⟨c, (cut_says h2).1⟩
theorem fin_at {X Y : Ar} (hf : Fits X Y) {e : Xt} (he : e ∈ fin2 X Y) : (0 ≤ e.lo ∧ e.lo < e.hi ∧ e.hi ≤ X.size) ∧ (e.a = -1 ∨ ∃ (k n : Nat) (r : Rn), k < 2 ∧ (arK X Y k).runs[n]? = some r ∧ e.a = k ∧ e.r = n ∧ r.off ≤ e.lo ∧ e.hi ≤ r.off + r.len) := by
  obtain ⟨h1, h2⟩ := fin_til hf
  have hm := h1.mem e he
  refine ⟨hm, ?_⟩
  have v1 := h2 e he e.lo (Int.le_refl _) hm.2.1
  have v2 := h2 e he (e.hi - 1) (by omega) (by omega)
  have i3 := (mK_til hf 2 (Nat.le_refl _)).2.2
  rcases i3 e.lo with h | ⟨k, n, r, hk, hr, hv, ho, hl⟩
  · rw [v1] at h; injection h with h4 h5; exact .inl h4
  · rw [v1] at hv; injection hv with h4 h5
    refine .inr ⟨k, n, r, hk, hr, h4, h5, ho, ?_⟩
    rcases i3 (e.hi - 1) with h | ⟨k', n', r', hk', hr', hv', ho', hl'⟩
    · rw [v2] at h; injection h with h6 h7; omega
    · rw [v2] at hv'; injection hv' with h6 h7
      have e1 : k = k' := by omega
      have e2 : n = n' := by omega
      subst e1 e2
      rw [hr] at hr'; cases hr'
      omega
def pieceJ (e : Xt) (r : Rn) : Rn := ⟨e.lo, e.hi - e.lo, r.hole, if r.hole then [] else part r.data (e.lo - r.off).toNat (e.hi - e.lo).toNat⟩
def jstep (X Y : Ar) (acc : List Rn) (e : Xt) : List Rn := if e.a < 0 then acc else match (arK X Y e.a.toNat).runs[e.r.toNat]? with | some r => layP acc (pieceJ e r) | none => acc
def joinRs (X Y : Ar) : List Rn := (fin2 X Y).foldl (jstep X Y) []
theorem jstep_skip {X Y : Ar} {acc : List Rn} {e : Xt} (h : e.a < 0) : jstep X Y acc e = acc := if_pos h
theorem jstep_lay {X Y : Ar} {acc : List Rn} {e : Xt} {k n : Nat} {r : Rn} (h1 : e.a = k) (h2 : e.r = n) (h : (arK X Y k).runs[n]? = some r) : jstep X Y acc e = layP acc (pieceJ e r) := by
  unfold jstep
  rw [if_neg (by omega), h1, h2]
  simp [h]
theorem jfold_succ {X Y : Ar} {l : List Xt} {j : Nat} {e : Xt} (h : l[j]? = some e) : (l.take (j + 1)).foldl (jstep X Y) [] = jstep X Y ((l.take j).foldl (jstep X Y) []) e := by
  rw [List.take_add_one, h, Option.toList_some, List.foldl_append]; rfl
def avK (x y : AV) (k : Nat) : AV := if k = 0 then x else y
theorem arK_av {x y : AV} {k : Nat} : arK x.ar y.ar k = (avK x y k).ar := by unfold arK avK; split <;> rfl
def resJ (g : Nat) (id par size : Int) (rs0 : List Rn) (j : Nat) : HP := exi fun q : Option Addr × Nat × List RV => [pur (pures q.2.2 = rs0 ∧ (∀ r ∈ rs0, RnB size r) ∧ q.2.2.length ≤ j), cel g 28 [.int .u64 id, .int .u64 par, .int .u64 size, .slice q.1 q.2.2.length q.2.1], Rns q.1 q.2.1 q.2.2]
theorem resJ_open {g : Nat} {id par size : Int} {rs0 : List Rn} {j : Nat} {F : List HP} {f : Frag} (h : Star (resJ g id par size rs0 j :: F) f) : ∃ q : { q : Option Addr × Nat × List RV // pures q.2.2 = rs0 ∧ (∀ r ∈ rs0, RnB size r) ∧ q.2.2.length ≤ j }, Star (cel g 28 [.int .u64 id, .int .u64 par, .int .u64 size, .slice q.1.1 q.1.2.2.length q.1.2.1] :: Rns q.1.1 q.1.2.1 q.1.2.2 :: F) f := by
  obtain ⟨q, hq⟩ := Star.exi_elim h
  obtain ⟨hp, hq⟩ := Star.pur_elim hq
  exact ⟨⟨q, hp⟩, hq⟩
theorem resJ_close {g : Nat} {id par size : Int} {ra : Option Addr} {rc : Nat} {rs : List RV} {j : Nat} {F : List HP} {f : Frag} (hB : ∀ r ∈ pures rs, RnB size r) (hl : rs.length ≤ j) (h : Star (cel g 28 [.int .u64 id, .int .u64 par, .int .u64 size, .slice ra rs.length rc] :: Rns ra rc rs :: F) f) : Star (resJ g id par size (pures rs) j :: F) f :=
  Star.exi_intro (ra, rc, rs) (Star.pur_intro ⟨rfl, hB, hl⟩ h)
theorem fits_of {x y : AV} (hmx : May x.ar) (hmy : May y.ar) (hs : y.size = x.size) (hx : AvOk x) (hy : AvOk y) : Fits x.ar y.ar := by
  have h1 : ∀ v : AV, May v.ar → AvOk v → ∀ r ∈ v.ar.runs, 0 ≤ r.off ∧ 0 ≤ r.len ∧ r.off + r.len ≤ v.size := fun v hm ho r hr => by
    obtain ⟨q1, q2, q3, _, _⟩ := MayGo_mem (fun z hz => by
      obtain ⟨w, hw, rfl⟩ := List.mem_map.1 hz
      exact (ho.2.2.2.2 w hw).2.2.1) (Int.le_refl _) hm.2.2.2.2 r hr
    exact ⟨q1, q2, q3⟩
  refine ⟨hx.2.2.1.1, fun k r hk hr => ?_⟩
  unfold arK at hr
  split at hr
  · exact h1 x hmx hx r hr
  · have := h1 y hmy hy r hr
    show _ ∧ _ ∧ _ ≤ x.size
    omega
theorem data_len {v : AV} (hm : May v.ar) (ho : AvOk v) {rv : RV} {n : Nat} (h : v.rs[n]? = some rv) : (rv.1.hole = true → rv.1.data.length = 0) ∧ (¬ rv.1.hole = true → (rv.1.data.length : Int) = rv.1.len) := by
  obtain ⟨_, _, _, q4, q5⟩ := MayGo_mem (fun z hz => by
      obtain ⟨w, hw, rfl⟩ := List.mem_map.1 hz
      exact (ho.2.2.2.2 w hw).2.2.1) (Int.le_refl _) hm.2.2.2.2 rv.1 (List.mem_map.2 ⟨rv, List.mem_of_getElem? h, rfl⟩)
  exact ⟨q4, q5⟩
theorem piece_B {e : Xt} {r : Rn} {size : Int} (h0 : 0 ≤ e.lo ∧ e.lo < e.hi ∧ e.hi ≤ size) (hs : size ≤ 33554432) (ho : r.off ≤ e.lo ∧ e.hi ≤ r.off + r.len) (hd : ¬ r.hole = true → (r.data.length : Int) = r.len) (hb : Byt r.data) : RnB size (pieceJ e r) := by
  have hl : (pieceJ e r).data.length ≤ (e.hi - e.lo).toNat ∧ Byt (pieceJ e r).data := by
    unfold pieceJ
    cases hh : r.hole
    · have := hd (by simp [hh])
      exact ⟨by simp only [Bool.false_eq_true, if_false]; rw [part_length (by omega)]; exact Nat.le_refl _, part_byt hb⟩
    · exact ⟨Nat.zero_le _, fun _ h => by cases h⟩
  refine ⟨⟨by simp only [pieceJ]; omega, by simp only [pieceJ]; omega, by simp only [pieceJ]; omega, by simp only [pieceJ]; omega, by omega, hl.2⟩, by simp only [pieceJ]; omega, by simp only [pieceJ] at hl ⊢; omega⟩

def linkJ (X Y : Ar) : Prop := ¬ ((Y.par ≠ X.id ∨ Y.size ≠ X.size) ∨ Y.id = X.par)
theorem RdS.packed {w0 : World} {L L' F' : List HP} {sz : Nat} {ao : Option Addr} {l : List (List Value)} (h : RdS w0 L sz ao l) (hp : Pick L' (pack L) F') : RdS w0 L' sz ao l := h.ent fun f hf => by
  obtain ⟨h1, hl, hs, _⟩ := hp.star hf
  exact Star.mono hl hs
theorem tailpack {L : List HP} : ∀ (A : List HP) {f : Frag}, Star (A ++ L) f → Star (A ++ [pack L]) f
  | [], f, h => Star.repack (L1 := L) (L := []) (by simpa using h)
  | a :: A, f, h => Star.cons_mono (fun _ => tailpack A) h
theorem tailunpack {L : List HP} : ∀ (A : List HP) {f : Frag}, Star (A ++ [pack L]) f → Star (A ++ L) f
  | [], f, h => by simpa using Star.unpack (L1 := L) (L := []) h
  | a :: A, f, h => Star.cons_mono (fun _ => tailunpack A) h
theorem resJ_up {g : Nat} {id par size : Int} {l : List Rn} {j : Nat} {F : List HP} {f : Frag} (h : Star (resJ g id par size l j :: F) f) : Star (resJ g id par size l (j + 1) :: F) f := by
  obtain ⟨⟨q, h1, h2, h3⟩, hq⟩ := resJ_open h
  exact Star.exi_intro q (Star.pur_intro ⟨h1, h2, by omega⟩ hq)
theorem join_ {w0 : World} {L : List HP} {x y : AV} (hx : AvOk x) (hy : AvOk y) (hrx : RdA w0 L x) (hry : RdA w0 L y) (hcx : ∀ r ∈ x.rs, r.1.data.length ≤ r.2.2) (hcy : ∀ r ∈ y.rs, r.1.data.length ≤ r.2.2) :
    CallOk Tb.P w0 L 27 [.agg #[.int .u64 x.id, .int .u64 x.par, .int .u64 x.size, .slice x.ao x.rs.length x.cp], .agg #[.int .u64 y.id, .int .u64 y.par, .int .u64 y.size, .slice y.ao y.rs.length y.cp]] fun u L' => (¬ (May x.ar ∧ May y.ar) ∧ u = .tuple #[.agg #[.int .u64 0, .int .u64 0, .int .u64 0, .slice none 0 0], .int .i64 250] ∧ L' = L) ∨ ((May x.ar ∧ May y.ar) ∧ ¬ linkJ x.ar y.ar ∧ u = .tuple #[.agg #[.int .u64 0, .int .u64 0, .int .u64 0, .slice none 0 0], .int .i64 251] ∧ L' = L) ∨ ((May x.ar ∧ May y.ar) ∧ linkJ x.ar y.ar ∧ ∃ ao cp rs, pures rs = joinRs x.ar y.ar ∧ (∀ r ∈ pures rs, RnB x.size r) ∧ u = .tuple #[.agg #[.int .u64 y.id, .int .u64 x.par, .int .u64 x.size, .slice ao rs.length cp], .int .i64 0] ∧ L' = Rns ao cp rs :: L) := by
  refine enterM Try.func27 rfl Try.ntmps27 (Nat.le_of_ble_eq_true rfl) ?_
  refine At.seq ?_
  refine At.reg rfl ?_
  refine Run.bx (h := fun g2 => ?_)
  refine Run.bx (h := fun g3 => ?_)
  refine Run.al Tb.Z28 (h := fun g4 => ?_)
  refine Run.as (h := ?_)
  refine Run.fin ?_
  refine At.seq ?_
  refine At.block ?_
  refine At.seq ?_
  refine At.reg rfl ?_
  refine Run.ldA Tb.A28 Tb.S28 (h := ?_)
  refine Run.call Tb.N37 (hc := may2 hrx.1.sub hx) (h := ?_)
  rintro _ _ ⟨rfl, rfl⟩
  refine Run.not (h := ?_)
  refine Run.mv (h := ?_)
  refine Run.orB 3 3 (bq := !decide (May y.ar)) (ht := fun hg25 => by
      refine Run.ldA Tb.A28 Tb.S28 (h := ?_)
      refine Run.call Tb.N37 (hc := may2 hry.1.sub hy) (h := ?_)
      rintro _ _ ⟨rfl, rfl⟩
      refine Run.not (h := ?_)
      exact Run.fin_sc ScEnd.here) (hrest := ?_)
  refine Run.as (h := ?_)
  refine Run.fin ?_
  refine At.cnd' (ht := fun hc17 => ?_) (hf := fun hc17 => ?_)
  · skip
    refine At.seq ?_
    refine At.reg rfl ?_
    refine Run.bd Tb.B28 (h := ?_)
    refine Run.st Tb.S28 (h := ?_)
    refine Run.as (h := ?_)
    refine Run.fin ?_
    refine At.ret ?_
    refine At.inb_ret ?_
    refine At.then_ret ?_
    exact At.doneM (hΦ := by exact .inl ⟨fun h => hc17.elim (fun k => k h.1) (fun k => k h.2), rfl, rfl⟩) (hres := ResR.block (ht := Tb.A28) (hn := Tb.S28) (k := ResR.tmp rfl ResR.nil))
  · skip
    refine At.seq ?_
    refine At.reg rfl ?_
    refine Run.fa Tb.F28_1 (h := ?_)
    refine Run.ld Tb.A22 (h := ?_)
    refine Run.fa Tb.F28_0 (h := ?_)
    refine Run.ld Tb.A22 (h := ?_)
    refine Run.ne (h := ?_)
    refine Run.mv (h := ?_)
    refine Run.orB 5 5 (ht := fun hg39 => by
        refine Run.fa Tb.F28_2 (h := ?_)
        refine Run.ld Tb.A22 (h := ?_)
        refine Run.fa Tb.F28_2 (h := ?_)
        refine Run.ld Tb.A22 (h := ?_)
        refine Run.ne (h := ?_)
        exact Run.fin_sc ScEnd.here) (hrest := ?_)
    refine Run.mv (h := ?_)
    refine Run.orB 5 12 (ht := fun hg46 => by
        refine Run.fa Tb.F28_0 (h := ?_)
        refine Run.ld Tb.A22 (h := ?_)
        refine Run.fa Tb.F28_1 (h := ?_)
        refine Run.ld Tb.A22 (h := ?_)
        refine Run.eq (h := ?_)
        exact Run.fin_sc ScEnd.here) (hrest := ?_)
    refine Run.as (h := ?_)
    refine Run.fin ?_
    refine At.cnd' (ht := fun hc27 => ?_) (hf := fun hc27 => ?_)
    · skip
      refine At.seq ?_
      refine At.reg rfl ?_
      refine Run.bd Tb.B28 (h := ?_)
      refine Run.st Tb.S28 (h := ?_)
      refine Run.as (h := ?_)
      refine Run.fin ?_
      refine At.ret ?_
      refine At.inb_ret ?_
      refine At.then_ret ?_
      exact At.doneM (hΦ := by exact .inr (.inl ⟨⟨Classical.not_not.1 fun h => hc17 (.inl h), Classical.not_not.1 fun h => hc17 (.inr h)⟩, fun h => h hc27, rfl, rfl⟩)) (hres := ResR.block (ht := Tb.A28) (hn := Tb.S28) (k := ResR.tmp rfl ResR.nil))
    · skip
      refine At.skip ?_
      refine At.inb_norm ?_
      refine At.seq ?_
      have hmx : May x.ar := Classical.not_not.1 fun h => hc17 (.inl h)
      have hmy : May y.ar := Classical.not_not.1 fun h => hc17 (.inr h)
      have hys : y.size = x.size := by omega
      have hfit := fits_of hmx hmy hys hx hy
      have hsz : x.size ≤ 33554432 := hmx.2.2.2.1
      have hsz1 : 1 ≤ x.size := hmx.2.2.1
      refine At.reg rfl ?_
      refine Run.ldA Tb.A28 Tb.S28 (h := ?_)
      refine Run.ldA Tb.A28 Tb.S28 (h := ?_)
      refine Run.bdA az107 (h := ?_)
      refine Run.eqv (v' := .agg ([.int .u64 x.id, .int .u64 x.par, .int .u64 x.size, .slice x.ao x.rs.length x.cp, .int .u64 y.id, .int .u64 y.par, .int .u64 y.size, .slice y.ao y.rs.length y.cp] : List Value).toArray) rfl ?_
      refine Run.al Tb.Z107 (h := fun g6 => ?_)
      refine Run.st Tb.S107 (h := ?_)
      refine Run.fin ?_
      refine At.seq ?_
      refine At.reg rfl ?_
      refine Run.fa Tb.F28_2 (h := ?_)
      refine Run.ld Tb.A22 (h := ?_)
      refine Run.cvf Tb.I22 Tb.I2 (hw := by first | exact wi64 (by omega) (by omega) | exact wu64 (by omega) (by omega)) (h := ?_)
      refine Run.bd Tb.B112 (h := ?_)
      refine Run.call Tb.N55 (hc := newx (size := x.size) (a := -1) (r := -1) (by omega)) (h := ?_)
      rintro _ _ ⟨mb, mao, mcp, rfl, rfl⟩
      refine Run.mv (h := ?_)
      refine Run.ex (h := ?_)
      refine Run.ex (h := ?_)
      refine Run.as (h := ?_)
      refine Run.as (h := ?_)
      refine Run.fin ?_
      refine At.seq ?_
      refine At.seq ?_
      refine At.reg rfl ?_
      refine Run.ldA Tb.A107 Tb.S107 (h := ?_)
      refine Run.mv (h := ?_)
      refine Run.fin ?_
      refine At.block ?_
      refine At.chunks (L' := mapE mb x.size (mK x.ar y.ar 0) :: cel g6 107 [.int .u64 x.id, .int .u64 x.par, .int .u64 x.size, .slice x.ao x.rs.length x.cp, .int .u64 y.id, .int .u64 y.par, .int .u64 y.size, .slice y.ao y.rs.length y.cp] :: cel g4 28 [.int .u64 0, .int .u64 0, .int .u64 0, .slice none 0 0] :: cel g3 28 [.int .u64 y.id, .int .u64 y.par, .int .u64 y.size, .slice y.ao y.rs.length y.cp] :: cel g2 28 [.int .u64 x.id, .int .u64 x.par, .int .u64 x.size, .slice x.ao x.rs.length x.cp] :: L) (fun _ hf => Star.exi_intro (mao, mcp) (SubL.star (L' := cel mb 138 [.bool true, .int .i64 x.size, .slice mao (newE x.size (-1) (-1)).length mcp] :: row 118 4 mao mcp ((newE x.size (-1) (-1)).map cellsX) :: cel g6 107 [.int .u64 x.id, .int .u64 x.par, .int .u64 x.size, .slice x.ao x.rs.length x.cp, .int .u64 y.id, .int .u64 y.par, .int .u64 y.size, .slice y.ao y.rs.length y.cp] :: cel g4 28 [.int .u64 0, .int .u64 0, .int .u64 0, .slice none 0 0] :: cel g3 28 [.int .u64 y.id, .int .u64 y.par, .int .u64 y.size, .slice y.ao y.rs.length y.cp] :: cel g2 28 [.int .u64 x.id, .int .u64 x.par, .int .u64 x.size, .slice x.ao x.rs.length x.cp] :: L) (by repeat (first | exact SubL.refl | refine SubL.cons (by repeat (first | exact Pick.here | apply Pick.there)) ?_ | refine SubL.skip ?_ | exact SubL.nil)) hf)) ?_
      refine At.loop (α := Nat) (fun k => ⟨[(2, .pointer (some ⟨g2, 0, none⟩)), (3, .pointer (some ⟨g3, 0, none⟩)), (4, .pointer (some ⟨g4, 0, none⟩)), (6, .pointer (some ⟨g6, 0, none⟩)), (7, .pointer (some ⟨mb, 0, none⟩)), (59, .agg ([.int .u64 x.id, .int .u64 x.par, .int .u64 x.size, .slice x.ao x.rs.length x.cp, .int .u64 y.id, .int .u64 y.par, .int .u64 y.size, .slice y.ao y.rs.length y.cp] : List Value).toArray), (60, .int .i64 k)], mapE mb x.size (mK x.ar y.ar k) :: cel g6 107 [.int .u64 x.id, .int .u64 x.par, .int .u64 x.size, .slice x.ao x.rs.length x.cp, .int .u64 y.id, .int .u64 y.par, .int .u64 y.size, .slice y.ao y.rs.length y.cp] :: cel g4 28 [.int .u64 0, .int .u64 0, .int .u64 0, .slice none 0 0] :: cel g3 28 [.int .u64 y.id, .int .u64 y.par, .int .u64 y.size, .slice y.ao y.rs.length y.cp] :: cel g2 28 [.int .u64 x.id, .int .u64 x.par, .int .u64 x.size, .slice x.ao x.rs.length x.cp] :: L, []⟩) (fun k => k ≤ 2) (fun k => 2 - k) (0) (Nat.zero_le _) (Ent.of (by repeat (first | exact SubE.nil | refine SubE.cons (by first | rfl | (show some _ = some _; simp; done)) ?_)) (by repeat (first | exact SubL.refl | refine SubL.cons (by repeat (first | exact Pick.here | apply Pick.there)) ?_ | refine SubL.skip ?_ | exact SubL.nil))) (fun k hk => ?_)
      refine At.seq ?_
      refine At.reg rfl ?_
      refine Run.lt (h := ?_)
      refine Run.fin ?_
      refine At.seq ?_
      refine At.cnd' (ht := fun hc61 => ?_) (hf := fun hc61 => ?_)
      · skip
        have hrk : RdA w0 L (avK x y k) := by unfold avK; split; exact hrx; exact hry
        refine At.skip ?_
        refine At.seq ?_
        refine At.block ?_
        refine At.seq ?_
        refine At.reg rfl ?_
        refine Run.mv (h := ?_)
        refine Run.ixv  ix107 (hj := rfl) (hjn := by omega) (h := ?_)
        refine Run.eqv (v' := .agg #[.int .u64 (avK x y k).id, .int .u64 (avK x y k).par, .int .u64 (avK x y k).size, .slice (avK x y k).ao (avK x y k).rs.length (avK x y k).cp]) (by rcases (show k = 0 ∨ k = 1 by omega) with rfl | rfl <;> rfl) ?_
        refine Run.al Tb.Z28 (h := fun g10 => ?_)
        refine Run.as (h := ?_)
        refine Run.st Tb.S28 (h := ?_)
        refine Run.fin ?_
        refine At.seq ?_
        refine At.reg rfl ?_
        refine Run.fa Tb.F28_3 (h := ?_)
        refine Run.ld Tb.A26 (h := ?_)
        refine Run.len Tb.L26 (h := ?_)
        refine Run.mv (h := ?_)
        refine Run.fin ?_
        refine At.block ?_
        refine At.loop (α := Nat) (fun n => ⟨[(2, .pointer (some ⟨g2, 0, none⟩)), (3, .pointer (some ⟨g3, 0, none⟩)), (4, .pointer (some ⟨g4, 0, none⟩)), (6, .pointer (some ⟨g6, 0, none⟩)), (7, .pointer (some ⟨mb, 0, none⟩)), (59, .agg ([.int .u64 x.id, .int .u64 x.par, .int .u64 x.size, .slice x.ao x.rs.length x.cp, .int .u64 y.id, .int .u64 y.par, .int .u64 y.size, .slice y.ao y.rs.length y.cp] : List Value).toArray), (60, .int .i64 k), (9, .int .i64 k), (65, .slice (avK x y k).ao (avK x y k).rs.length (avK x y k).cp), (66, .int .i64 (avK x y k).rs.length), (67, .int .i64 n)], mapE mb x.size (putX x.size k (arK x.ar y.ar k).runs (mK x.ar y.ar k) (n)) :: cel g6 107 [.int .u64 x.id, .int .u64 x.par, .int .u64 x.size, .slice x.ao x.rs.length x.cp, .int .u64 y.id, .int .u64 y.par, .int .u64 y.size, .slice y.ao y.rs.length y.cp] :: cel g4 28 [.int .u64 0, .int .u64 0, .int .u64 0, .slice none 0 0] :: cel g3 28 [.int .u64 y.id, .int .u64 y.par, .int .u64 y.size, .slice y.ao y.rs.length y.cp] :: cel g2 28 [.int .u64 x.id, .int .u64 x.par, .int .u64 x.size, .slice x.ao x.rs.length x.cp] :: L, []⟩) (fun n => n ≤ (avK x y k).rs.length) (fun n => (avK x y k).rs.length - n) (0) (Nat.zero_le _) (Ent.of (by repeat (first | exact SubE.nil | refine SubE.cons (by first | rfl | (show some _ = some _; simp; done)) ?_)) (by repeat (first | exact SubL.refl | refine SubL.cons (by repeat (first | exact Pick.here | apply Pick.there)) ?_ | refine SubL.skip ?_ | exact SubL.nil))) (fun n hn => ?_)
        refine At.seq ?_
        refine At.reg rfl ?_
        refine Run.lt (h := ?_)
        refine Run.fin ?_
        refine At.seq ?_
        refine At.cnd' (ht := fun hc68 => ?_) (hf := fun hc68 => ?_)
        · skip
          obtain ⟨rv, hrv⟩ : ∃ rv, (avK x y k).rs[n]? = some rv := ⟨_, List.getElem?_eq_getElem (by omega)⟩
          have hrx2 : (arK x.ar y.ar k).runs[n]? = some rv.1 := by rw [arK_av]; exact pures_at hrv
          obtain ⟨f1, f2, f3⟩ := hfit.2 k rv.1 (by omega) (List.mem_of_getElem? hrx2)
          have f4 : rv.1.off + rv.1.len ≤ x.size := f3
          obtain ⟨m1, m2, m3⟩ := mK_til hfit k (by omega)
          have hti : Til 0 x.size (putX x.size k (arK x.ar y.ar k).runs (mK x.ar y.ar k) (n)) := (put_til hfit (k := k) (by omega) m1 m2 m3 n).1
          have hokl : (avK x y k).rs.length ≤ 1099511627776 := by unfold avK; split; exact hx.2.2.2.1; exact hy.2.2.2.1
          have hl2 : ((putX x.size k (arK x.ar y.ar k).runs (mK x.ar y.ar k) (n)).length : Int) ≤ x.size - 0 := hti.le.2
          refine At.skip ?_
          refine At.seq ?_
          refine At.block ?_
          refine At.seq ?_
          refine At.reg rfl ?_
          refine Run.mv (h := ?_)
          refine Run.iaR (ht := Tb.L26) (hR := hrk.1.sub) (hj := rfl) (h1 := by simp; omega) (hn := by omega) (h := ?_)
          refine Run.ldrA (ht := Tb.A76) (hn := Tb.S76) (hR := hrk.1.sub) (hj := cells_at hrv) (h := ?_)
          refine Run.al Tb.Z76 (h := fun g12 => ?_)
          refine Run.as (h := ?_)
          refine Run.st Tb.S76 (h := ?_)
          refine Run.fin ?_
          refine At.reg rfl ?_
          refine Run.mv (h := ?_)
          refine Run.fa Tb.F76_0 (h := ?_)
          refine Run.ld Tb.A22 (h := ?_)
          refine Run.cvf Tb.I22 Tb.I2 (hw := by first | exact wi64 (by omega) (by omega) | exact wu64 (by omega) (by omega)) (h := ?_)
          refine Run.fa Tb.F76_0 (h := ?_)
          refine Run.ld Tb.A22 (h := ?_)
          refine Run.fa Tb.F76_1 (h := ?_)
          refine Run.ld Tb.A22 (h := ?_)
          refine Run.add (h := ?_)
          refine Run.eqi (b := rv.1.off + rv.1.len) (wu64 (by omega) (by omega)) ?_
          refine Run.cvf Tb.I22 Tb.I2 (hw := by first | exact wi64 (by omega) (by omega) | exact wu64 (by omega) (by omega)) (h := ?_)
          refine Run.mv (h := ?_)
          refine Run.mv (h := ?_)
          refine Run.bd Tb.B112 (h := ?_)
          refine Run.call Tb.N56 (hc := setx (r := exK k n rv.1) (by repeat (first | exact Pick.here | apply Pick.there)) ⟨f1, by show rv.1.off ≤ rv.1.off + rv.1.len; omega, f4⟩ (by omega) hti.srt (by omega)) (h := ?_)
          rintro _ _ rfl
          refine Run.fin ?_
          refine At.inb_norm ?_
          refine At.reg rfl ?_
          refine Run.add (h := ?_)
          refine Run.eqi (b := ((n + 1 : Nat) : Int)) (by rw [wi64 (by omega) (by omega)]; omega) ?_
          refine Run.mv (h := ?_)
          refine Run.fin ?_
          rw [← putX_succ (size := x.size) (k := k) (l := mK x.ar y.ar k) hrx2]
          exact At.again (n + 1) (by omega) (by omega)
        · skip
          refine At.exit ?_
          refine At.then_exit ?_
          refine At.then_exit ?_
          refine At.inb_hit ?_
          refine At.inb_norm ?_
          refine At.reg rfl ?_
          refine Run.add (h := ?_)
          refine Run.eqi (b := ((k + 1 : Nat) : Int)) (by rw [wi64 (by omega) (by omega)]; omega) ?_
          refine Run.mv (h := ?_)
          refine Run.fin ?_
          have hmk : putX x.size k (arK x.ar y.ar k).runs (mK x.ar y.ar k) (n) = mK x.ar y.ar (k + 1) := by
            rw [show n = (avK x y k).rs.length by omega]
            show _ = putX x.size k (arK x.ar y.ar k).runs (mK x.ar y.ar k) (arK x.ar y.ar k).runs.length
            rw [show (arK x.ar y.ar k).runs.length = (avK x y k).rs.length by rw [arK_av]; simp [AV.ar, pures]]
          rw [hmk]
          exact At.again (k + 1) (by omega) (by omega)
      · skip
        refine At.exit ?_
        refine At.then_exit ?_
        refine At.then_exit ?_
        refine At.inb_hit ?_
        refine At.seq ?_
        have hk2 : k = 2 := by omega
        subst hk2
        have h2t := (mK_til hfit 2 (Nat.le_refl _)).1
        have h2l : ((mK x.ar y.ar 2).length : Int) ≤ x.size - 0 := h2t.le.2
        refine At.reg rfl ?_
        refine Run.fa Tb.F28_0 (h := ?_)
        refine Run.ld Tb.A22 (h := ?_)
        refine Run.fa Tb.F28_1 (h := ?_)
        refine Run.ld Tb.A22 (h := ?_)
        refine Run.fa Tb.F28_2 (h := ?_)
        refine Run.ld Tb.A22 (h := ?_)
        refine Run.bd Tb.B28 (h := ?_)
        refine Run.al Tb.Z28 (h := fun g13 => ?_)
        refine Run.st Tb.S28 (h := ?_)
        refine Run.fin ?_
        refine At.seq ?_
        refine At.seq ?_
        refine At.sm (L' := fun q : Option Addr × Nat => cel mb 138 [.bool true, .int .i64 x.size, .slice q.1 (mK x.ar y.ar 2).length q.2] :: row 118 4 q.1 q.2 ((mK x.ar y.ar 2).map cellsX) :: cel g13 28 [.int .u64 y.id, .int .u64 x.par, .int .u64 x.size, .slice none 0 0] :: cel g6 107 [.int .u64 x.id, .int .u64 x.par, .int .u64 x.size, .slice x.ao x.rs.length x.cp, .int .u64 y.id, .int .u64 y.par, .int .u64 y.size, .slice y.ao y.rs.length y.cp] :: cel g4 28 [.int .u64 0, .int .u64 0, .int .u64 0, .slice none 0 0] :: cel g3 28 [.int .u64 y.id, .int .u64 y.par, .int .u64 y.size, .slice y.ao y.rs.length y.cp] :: cel g2 28 [.int .u64 x.id, .int .u64 x.par, .int .u64 x.size, .slice x.ao x.rs.length x.cp] :: L) (fun _ hf => Star.exi_elim (SubL.star (L' := mapE mb x.size (mK x.ar y.ar 2) :: cel g13 28 [.int .u64 y.id, .int .u64 x.par, .int .u64 x.size, .slice none 0 0] :: cel g6 107 [.int .u64 x.id, .int .u64 x.par, .int .u64 x.size, .slice x.ao x.rs.length x.cp, .int .u64 y.id, .int .u64 y.par, .int .u64 y.size, .slice y.ao y.rs.length y.cp] :: cel g4 28 [.int .u64 0, .int .u64 0, .int .u64 0, .slice none 0 0] :: cel g3 28 [.int .u64 y.id, .int .u64 y.par, .int .u64 y.size, .slice y.ao y.rs.length y.cp] :: cel g2 28 [.int .u64 x.id, .int .u64 x.par, .int .u64 x.size, .slice x.ao x.rs.length x.cp] :: L) (by repeat (first | exact SubL.refl | refine SubL.cons (by repeat (first | exact Pick.here | apply Pick.there)) ?_ | refine SubL.skip ?_ | exact SubL.nil)) hf)) (fun q => ?_)
        obtain ⟨ao, cp⟩ := q
        dsimp only
        refine At.reg rfl ?_
        refine Run.mv (h := ?_)
        refine Run.fa Tb.F28_2 (h := ?_)
        refine Run.ld Tb.A22 (h := ?_)
        refine Run.cvf Tb.I22 Tb.I2 (hw := by first | exact wi64 (by omega) (by omega) | exact wu64 (by omega) (by omega)) (h := ?_)
        refine Run.call Tb.N57 (hc := runsx) (h := ?_)
        rintro _ _ ⟨p1, p2, p3, rfl, rfl⟩
        refine Run.fin ?_
        refine At.block ?_
        refine At.chunks (L' := resJ g13 y.id x.par x.size ([]) (0) :: cel g6 107 [.int .u64 x.id, .int .u64 x.par, .int .u64 x.size, .slice x.ao x.rs.length x.cp, .int .u64 y.id, .int .u64 y.par, .int .u64 y.size, .slice y.ao y.rs.length y.cp] :: pack L :: cel p3 2 [.int .i64 x.size] :: cel p2 2 [.int .i64 0] :: cel p1 108 [.pointer (some ⟨mb, 0, none⟩)] :: cel mb 138 [.bool true, .int .i64 x.size, .slice ao (mK x.ar y.ar 2).length cp] :: row 118 4 ao cp ((mK x.ar y.ar 2).map cellsX) :: cel g4 28 [.int .u64 0, .int .u64 0, .int .u64 0, .slice none 0 0] :: cel g3 28 [.int .u64 y.id, .int .u64 y.par, .int .u64 y.size, .slice y.ao y.rs.length y.cp] :: [cel g2 28 [.int .u64 x.id, .int .u64 x.par, .int .u64 x.size, .slice x.ao x.rs.length x.cp]]) (fun _ hf => resJ_close (rs := []) (ra := none) (rc := 0) (by simp [pures]) (Nat.le_refl _) (SubL.star (L' := cel g13 28 [.int .u64 y.id, .int .u64 x.par, .int .u64 x.size, .slice none 0 0] :: Rns none 0 [] :: cel g6 107 [.int .u64 x.id, .int .u64 x.par, .int .u64 x.size, .slice x.ao x.rs.length x.cp, .int .u64 y.id, .int .u64 y.par, .int .u64 y.size, .slice y.ao y.rs.length y.cp] :: pack L :: cel p3 2 [.int .i64 x.size] :: cel p2 2 [.int .i64 0] :: cel p1 108 [.pointer (some ⟨mb, 0, none⟩)] :: cel mb 138 [.bool true, .int .i64 x.size, .slice ao (mK x.ar y.ar 2).length cp] :: row 118 4 ao cp ((mK x.ar y.ar 2).map cellsX) :: cel g4 28 [.int .u64 0, .int .u64 0, .int .u64 0, .slice none 0 0] :: cel g3 28 [.int .u64 y.id, .int .u64 y.par, .int .u64 y.size, .slice y.ao y.rs.length y.cp] :: [cel g2 28 [.int .u64 x.id, .int .u64 x.par, .int .u64 x.size, .slice x.ao x.rs.length x.cp]]) (by repeat (first | exact SubL.refl | refine SubL.cons (by repeat (first | exact Pick.here | apply Pick.there)) ?_ | refine SubL.skip ?_ | exact SubL.nil)) (tailpack [cel g13 28 [.int .u64 y.id, .int .u64 x.par, .int .u64 x.size, .slice none 0 0], Rns none 0 [], cel g6 107 [.int .u64 x.id, .int .u64 x.par, .int .u64 x.size, .slice x.ao x.rs.length x.cp, .int .u64 y.id, .int .u64 y.par, .int .u64 y.size, .slice y.ao y.rs.length y.cp], cel p3 2 [.int .i64 x.size], cel p2 2 [.int .i64 0], cel p1 108 [.pointer (some ⟨mb, 0, none⟩)], cel mb 138 [.bool true, .int .i64 x.size, .slice ao (mK x.ar y.ar 2).length cp], row 118 4 ao cp ((mK x.ar y.ar 2).map cellsX), cel g4 28 [.int .u64 0, .int .u64 0, .int .u64 0, .slice none 0 0], cel g3 28 [.int .u64 y.id, .int .u64 y.par, .int .u64 y.size, .slice y.ao y.rs.length y.cp], cel g2 28 [.int .u64 x.id, .int .u64 x.par, .int .u64 x.size, .slice x.ao x.rs.length x.cp]] (SubL.star (L' := [cel g13 28 [.int .u64 y.id, .int .u64 x.par, .int .u64 x.size, .slice none 0 0], Rns none 0 [], cel g6 107 [.int .u64 x.id, .int .u64 x.par, .int .u64 x.size, .slice x.ao x.rs.length x.cp, .int .u64 y.id, .int .u64 y.par, .int .u64 y.size, .slice y.ao y.rs.length y.cp], cel p3 2 [.int .i64 x.size], cel p2 2 [.int .i64 0], cel p1 108 [.pointer (some ⟨mb, 0, none⟩)], cel mb 138 [.bool true, .int .i64 x.size, .slice ao (mK x.ar y.ar 2).length cp], row 118 4 ao cp ((mK x.ar y.ar 2).map cellsX), cel g4 28 [.int .u64 0, .int .u64 0, .int .u64 0, .slice none 0 0], cel g3 28 [.int .u64 y.id, .int .u64 y.par, .int .u64 y.size, .slice y.ao y.rs.length y.cp], cel g2 28 [.int .u64 x.id, .int .u64 x.par, .int .u64 x.size, .slice x.ao x.rs.length x.cp]] ++ L) (by repeat (first | exact SubL.refl | refine SubL.cons (by repeat (first | exact Pick.here | apply Pick.there)) ?_ | refine SubL.skip ?_ | exact SubL.nil)) (Rns_nil hf))))) ?_
        refine At.range (Lit := cel p3 2 [.int .i64 x.size] :: cel p2 2 [.int .i64 0] :: cel p1 108 [.pointer (some ⟨mb, 0, none⟩)] :: cel mb 138 [.bool true, .int .i64 x.size, .slice ao (mK x.ar y.ar 2).length cp] :: row 118 4 ao cp ((mK x.ar y.ar 2).map cellsX) :: cel g4 28 [.int .u64 0, .int .u64 0, .int .u64 0, .slice none 0 0] :: cel g3 28 [.int .u64 y.id, .int .u64 y.par, .int .u64 y.size, .slice y.ao y.rs.length y.cp] :: [cel g2 28 [.int .u64 x.id, .int .u64 x.par, .int .u64 x.size, .slice x.ao x.rs.length x.cp]]) ((fin2 x.ar y.ar).map argE) (fun j => [resJ g13 y.id x.par x.size (((fin2 x.ar y.ar).take j).foldl (jstep x.ar y.ar) []) (j), cel g6 107 [.int .u64 x.id, .int .u64 x.par, .int .u64 x.size, .slice x.ao x.rs.length x.cp, .int .u64 y.id, .int .u64 y.par, .int .u64 y.size, .slice y.ao y.rs.length y.cp], pack L]) (fun _ _ => False) rfl (by kernel_rfl) (hps := argE_len) (he := fun _ hf => hf) (hit := seqx (size := x.size) (lo := 0) (hi := x.size) (by omega) h2t.srt) (hround := fun l j args fr frb X hj turn => ?_) (hdone := fun D18 => ?_) (hstop := fun _ _ _ h => h.elim)
        · skip
          rw [List.getElem?_map] at hj
          obtain ⟨e, he, rfl⟩ := Option.map_eq_some_iff.1 hj
          have hfa := fin_at hfit (List.mem_of_getElem? he)
          have hjl := (List.getElem?_eq_some_iff.1 he).1
          have hfl : ((fin2 x.ar y.ar).length : Int) ≤ x.size - 0 := (fin_til hfit).1.le.2
          obtain ⟨hfa1, hfa2⟩ := hfa
          have hfa3 : e.hi ≤ x.size := hfa1.2.2
          show At _ _ ⟨(100, .agg #[.int .i64 e.lo, .int .i64 e.hi, .int .i64 e.a, .int .i64 e.r]) :: _, [resJ g13 y.id x.par x.size (((fin2 x.ar y.ar).take j).foldl (jstep x.ar y.ar) []) (j), cel g6 107 [.int .u64 x.id, .int .u64 x.par, .int .u64 x.size, .slice x.ao x.rs.length x.cp, .int .u64 y.id, .int .u64 y.par, .int .u64 y.size, .slice y.ao y.rs.length y.cp], pack L, fr], []⟩ _
          refine At.reg rfl ?_
          refine Run.al Tb.Z118 (h := fun g14 => ?_)
          refine Run.st Tb.S118 (h := ?_)
          refine Run.fin ?_
          refine turn _ _ (by repeat (first | exact Repl.here | apply Repl.there)) rfl ?_
          refine At.block ?_
          refine At.seq ?_
          refine At.seq ?_
          refine At.reg rfl ?_
          refine Run.fa Tb.F118_2 (h := ?_)
          refine Run.fa Tb.F112_0 (h := ?_)
          refine Run.ld Tb.A3 (h := ?_)
          refine Run.lt (h := ?_)
          refine Run.fin ?_
          refine At.cnd' (ht := fun hc104 => ?_) (hf := fun hc104 => ?_)
          · skip
            refine At.exit ?_
            refine At.then_exit ?_
            refine At.inb_hit ?_
            rw [jfold_succ he, jstep_skip hc104]
            refine At.chunks (L' := resJ g13 y.id x.par x.size (((fin2 x.ar y.ar).take j).foldl (jstep x.ar y.ar) []) (j + 1) :: cel g6 107 [.int .u64 x.id, .int .u64 x.par, .int .u64 x.size, .slice x.ao x.rs.length x.cp, .int .u64 y.id, .int .u64 y.par, .int .u64 y.size, .slice y.ao y.rs.length y.cp] :: pack L :: [frb]) (fun _ hf => resJ_up (SubL.star (L' := resJ g13 y.id x.par x.size (((fin2 x.ar y.ar).take j).foldl (jstep x.ar y.ar) []) (j) :: cel g6 107 [.int .u64 x.id, .int .u64 x.par, .int .u64 x.size, .slice x.ao x.rs.length x.cp, .int .u64 y.id, .int .u64 y.par, .int .u64 y.size, .slice y.ao y.rs.length y.cp] :: pack L :: [frb]) (by repeat (first | exact SubL.refl | refine SubL.cons (by repeat (first | exact Pick.here | apply Pick.there)) ?_ | refine SubL.skip ?_ | exact SubL.nil)) hf)) ?_
            exact At.rnorm
          · skip
            rcases hfa2 with h9 | ⟨k, n, rr, hk, hrr, ha, hn, ho1, ho2⟩
            · omega
            obtain ⟨rv, hrv, rfl⟩ : ∃ rv, (avK x y k).rs[n]? = some rv ∧ rv.1 = rr := by
              have h9 := hrr
              rw [arK_av] at h9
              simpa [AV.ar, pures] using h9
            have hrk : RdA w0 L (avK x y k) := by unfold avK; split; exact hrx; exact hry
            have hok : AvOk (avK x y k) := by unfold avK; split; exact hx; exact hy
            have hmk : May (avK x y k).ar := by unfold avK; split; exact hmx; exact hmy
            have hck : ∀ r ∈ (avK x y k).rs, r.1.data.length ≤ r.2.2 := by unfold avK; split; exact hcx; exact hcy
            have hcap := hck rv (List.mem_of_getElem? hrv)
            have hrd := hrk.2 rv (List.mem_of_getElem? hrv)
            obtain ⟨q1, q2, q3, q4, q5, q6⟩ := hok.2.2.2.2 rv (List.mem_of_getElem? hrv)
            obtain ⟨w1, w2⟩ := data_len hmk hok hrv
            have hpB : RnB x.size (pieceJ e rv.1) := piece_B ⟨hfa1.1, hfa1.2.1, hfa3⟩ hsz ⟨ho1, ho2⟩ w2 q6
            have hnl := (List.getElem?_eq_some_iff.1 hrv).1
            have hv110 : ([.int .u64 x.id, .int .u64 x.par, .int .u64 x.size, .slice x.ao x.rs.length x.cp, .int .u64 y.id, .int .u64 y.par, .int .u64 y.size, .slice y.ao y.rs.length y.cp] : List Value)[0 + e.a.toNat * 4 + 3]? = some (.slice (avK x y k).ao (avK x y k).rs.length (avK x y k).cp) := by
              rw [ha]
              rcases (show k = 0 ∨ k = 1 by omega) with rfl | rfl <;> rfl
            refine At.skip ?_
            refine At.seq ?_
            refine At.sm (L' := fun q : { q : Option Addr × Nat × List RV // pures q.2.2 = ((fin2 x.ar y.ar).take j).foldl (jstep x.ar y.ar) [] ∧ (∀ r ∈ ((fin2 x.ar y.ar).take j).foldl (jstep x.ar y.ar) [], RnB x.size r) ∧ q.2.2.length ≤ j } => cel g13 28 [.int .u64 y.id, .int .u64 x.par, .int .u64 x.size, .slice q.1.1 q.1.2.2.length q.1.2.1] :: Rns q.1.1 q.1.2.1 q.1.2.2 :: cel g14 118 [.int .i64 e.lo, .int .i64 e.hi, .int .i64 e.a, .int .i64 e.r] :: cel g6 107 [.int .u64 x.id, .int .u64 x.par, .int .u64 x.size, .slice x.ao x.rs.length x.cp, .int .u64 y.id, .int .u64 y.par, .int .u64 y.size, .slice y.ao y.rs.length y.cp] :: pack L :: [frb]) (fun _ hf => resJ_open (SubL.star (L' := resJ g13 y.id x.par x.size (((fin2 x.ar y.ar).take j).foldl (jstep x.ar y.ar) []) (j) :: cel g14 118 [.int .i64 e.lo, .int .i64 e.hi, .int .i64 e.a, .int .i64 e.r] :: cel g6 107 [.int .u64 x.id, .int .u64 x.par, .int .u64 x.size, .slice x.ao x.rs.length x.cp, .int .u64 y.id, .int .u64 y.par, .int .u64 y.size, .slice y.ao y.rs.length y.cp] :: pack L :: [frb]) (by repeat (first | exact SubL.refl | refine SubL.cons (by repeat (first | exact Pick.here | apply Pick.there)) ?_ | refine SubL.skip ?_ | exact SubL.nil)) hf)) (fun q => ?_)
            obtain ⟨⟨ra, rc, rs⟩, hpu, hB, hrl⟩ := q
            dsimp only at hpu hB hrl ⊢
            refine At.draw [(0, 0), (1, 0), (6, 0), (7, 0), (2, 1), (3, 0), (4, 0), (5, 1), (8, 1), (9, 0), (10, 1), (11, 2), (12, 3)] Tb.mixed (by kernel_rfl) ?_
            refine Run.fa Tb.F118_2 (h := ?_)
            refine Run.fa Tb.F112_0 (h := ?_)
            refine Run.fa Tb.F118_2 (h := ?_)
            refine Run.fa Tb.F112_1 (h := ?_)
            refine Run.ld Tb.A3 (h := ?_)
            refine Run.iaA Tb.Y107 (h0 := by omega) (h1 := by omega) (h := ?_)
            refine Run.fa Tb.F28_3 (h := ?_)
            refine Run.ld Tb.A26 (hv := hv110) (h := ?_)
            refine Run.ld Tb.A3 (h := ?_)
            refine Run.iaR (ht := Tb.L26) (hR := RdS.packed hrk.1 (by repeat (first | exact Pick.here | apply Pick.there))) (j := n) (hj := hn) (h1 := by simp; omega) (hn := by omega) (h := ?_)
            refine Run.ldrA (ht := Tb.A76) (hn := Tb.S76) (hR := RdS.packed hrk.1 (by repeat (first | exact Pick.here | apply Pick.there))) (hj := cells_at hrv) (h := ?_)
            refine Run.al Tb.Z76 (h := fun g15 => ?_)
            refine Run.st Tb.S76 (hk := noun (by kernel_rfl)) (h := ?_)
            refine Run.fin ?_
            refine At.seq ?_
            refine At.reg rfl ?_
            refine Run.fa Tb.F118_0 (h := ?_)
            refine Run.ld Tb.A2 (h := ?_)
            refine Run.cvf Tb.I2 Tb.I22 (hw := by first | exact wi64 (by omega) (by omega) | exact wu64 (by omega) (by omega)) (h := ?_)
            refine Run.fa Tb.F118_1 (h := ?_)
            refine Run.ld Tb.A2 (h := ?_)
            refine Run.fa Tb.F118_0 (h := ?_)
            refine Run.ld Tb.A2 (h := ?_)
            refine Run.sub (h := ?_)
            refine Run.eqi (b := e.hi - e.lo) (wi64 (by omega) (by omega)) ?_
            refine Run.cvf Tb.I2 Tb.I22 (hw := by first | exact wi64 (by omega) (by omega) | exact wu64 (by omega) (by omega)) (h := ?_)
            refine Run.fa Tb.F76_2 (h := ?_)
            refine Run.ld Tb.A4 (h := ?_)
            refine Run.bd Tb.B76 (h := ?_)
            refine Run.al Tb.Z76 (h := fun g16 => ?_)
            refine Run.st Tb.S76 (h := ?_)
            refine Run.fin ?_
            refine At.seq ?_
            refine At.seq ?_
            refine At.reg rfl ?_
            refine Run.fa Tb.F76_2 (h := ?_)
            refine Run.ld Tb.A4 (h := ?_)
            refine Run.not (h := ?_)
            refine Run.fin ?_
            refine At.cnd' (ht := fun hc130 => ?_) (hf := fun hc130 => ?_)
            · skip
              refine At.reg rfl ?_
              refine Run.fa Tb.F76_3 (h := ?_)
              refine Run.ld Tb.A23 (h := ?_)
              refine Run.fa Tb.F76_0 (h := ?_)
              refine Run.ld Tb.A22 (h := ?_)
              refine Run.fa Tb.F76_0 (h := ?_)
              refine Run.ld Tb.A22 (h := ?_)
              refine Run.sub (h := ?_)
              refine Run.eqi (b := e.lo - rv.1.off) (wu64 (by omega) (by omega)) ?_
              refine Run.fa Tb.F76_0 (h := ?_)
              refine Run.ld Tb.A22 (h := ?_)
              refine Run.fa Tb.F76_0 (h := ?_)
              refine Run.ld Tb.A22 (h := ?_)
              refine Run.sub (h := ?_)
              refine Run.eqi (b := e.lo - rv.1.off) (wu64 (by omega) (by omega)) ?_
              refine Run.fa Tb.F76_1 (h := ?_)
              refine Run.ld Tb.A22 (h := ?_)
              refine Run.add (h := ?_)
              refine Run.eqi (b := e.lo - rv.1.off + (e.hi - e.lo)) (wu64 (by omega) (by omega)) ?_
              refine Run.sl Tb.L23 (h0 := by omega) (h1 := by omega) (h2 := by have := w2 (by simpa using hc130); omega) (hs := hrd.plain (by have := w2 (by simpa using hc130); simp; omega)) (hr := ?_)
              have hd1 : (pieceJ e rv.1).data = part rv.1.data (e.lo - rv.1.off).toNat (e.hi - e.lo).toNat := by simp [pieceJ, hc130]
              have hw2 := w2 (by simpa using hc130)
              have hpl : (part rv.1.data (e.lo - rv.1.off).toNat (e.hi - e.lo).toNat).length = (e.hi - e.lo).toNat := part_length (by omega)
              refine Run.eqv (v' := .slice (cutA rv.2.1 (e.lo - rv.1.off).toNat 1 rv.2.2) (pieceJ e rv.1).data.length (rv.2.2 - (e.lo - rv.1.off).toNat)) (by rw [hd1, hpl]; congr 1; omega) ?_
              refine Run.fa Tb.F76_3 (h := ?_)
              refine Run.st Tb.S23 (h := ?_)
              refine Run.fin ?_
              refine At.reg rfl ?_
              refine Run.fa Tb.F28_3 (h := ?_)
              refine Run.ld Tb.A26 (h := ?_)
              refine Run.ldA Tb.A76 Tb.S76 (h := ?_)
              refine Run.call Tb.N35 (hc := lay_ (r := pieceJ e rv.1) (by repeat (first | exact Pick.here | apply Pick.there)) (by rw [hd1, part, ← ints_drop, ← ints_take, show (e.lo - rv.1.off).toNat + (e.hi - e.lo).toNat = (e.lo - rv.1.off + (e.hi - e.lo)).toNat by omega]; exact RdS.packed (hrd.cut (by simp; omega) (by simp; omega)) (by repeat (first | exact Pick.here | apply Pick.there))) hpB.1 (fun z hz => by obtain ⟨c1, c2, c3⟩ := hB z.1 (by rw [← hpu]; exact List.mem_map.2 ⟨z, hz, rfl⟩); obtain ⟨b1, b2, b3, b4, b5, b6⟩ := c1; have e1 : (pieceJ e rv.1).len = e.hi - e.lo := rfl; obtain ⟨_, d2, d3⟩ := hpB; rw [e1] at d3 ⊢; exact ⟨⟨b1, b2, b3, b4, b5, b6⟩, by omega, by omega, by omega⟩) (by omega) rfl) (h := ?_)
              rintro _ _ ⟨a2, c2, rs2, hrs2, rfl, rfl⟩
              refine Run.fa Tb.F28_3 (h := ?_)
              refine Run.st Tb.S26 (h := ?_)
              refine Run.fin ?_
              refine At.inb_norm ?_
              rw [jfold_succ he, jstep_lay ha hn hrr, ← hpu, ← hrs2]
              refine At.chunks (L' := resJ g13 y.id x.par x.size (pures rs2) (j + 1) :: cel g6 107 [.int .u64 x.id, .int .u64 x.par, .int .u64 x.size, .slice x.ao x.rs.length x.cp, .int .u64 y.id, .int .u64 y.par, .int .u64 y.size, .slice y.ao y.rs.length y.cp] :: pack L :: [frb]) (fun _ hf => resJ_close (fun r h => by rw [hrs2] at h; exact layP_B (by rw [hpu]; exact hB) hpB hsz r h) (by have h1 := congrArg List.length hrs2; have h2 := layP_len (l := pures rs) (r := pieceJ e rv.1); simp only [pures, List.length_map] at h1 h2; omega) (SubL.star (L' := cel g13 28 [.int .u64 y.id, .int .u64 x.par, .int .u64 x.size, .slice a2 rs2.length c2] :: Rns a2 c2 rs2 :: cel g6 107 [.int .u64 x.id, .int .u64 x.par, .int .u64 x.size, .slice x.ao x.rs.length x.cp, .int .u64 y.id, .int .u64 y.par, .int .u64 y.size, .slice y.ao y.rs.length y.cp] :: pack L :: [frb]) (by repeat (first | exact SubL.refl | refine SubL.cons (by repeat (first | exact Pick.here | apply Pick.there)) ?_ | refine SubL.skip ?_ | exact SubL.nil)) hf)) ?_
              exact At.rnorm
            · skip
              have hh : rv.1.hole = true := by simpa using hc130
              have hd0 : (pieceJ e rv.1).data = [] := by simp [pieceJ, hh]
              refine At.chunks (L' := cel g16 76 [.int .u64 e.lo, .int .u64 (e.hi - e.lo), .bool rv.1.hole, .slice none (pieceJ e rv.1).data.length 0] :: cel g13 28 [.int .u64 y.id, .int .u64 x.par, .int .u64 x.size, .slice ra rs.length rc] :: Rns ra rc rs :: cel g6 107 [.int .u64 x.id, .int .u64 x.par, .int .u64 x.size, .slice x.ao x.rs.length x.cp, .int .u64 y.id, .int .u64 y.par, .int .u64 y.size, .slice y.ao y.rs.length y.cp] :: pack L :: [frb]) (fun _ hf => by rw [hd0]; exact SubL.star (L' := cel g16 76 [.int .u64 e.lo, .int .u64 (e.hi - e.lo), .bool rv.1.hole, .slice none 0 0] :: cel g13 28 [.int .u64 y.id, .int .u64 x.par, .int .u64 x.size, .slice ra rs.length rc] :: Rns ra rc rs :: cel g6 107 [.int .u64 x.id, .int .u64 x.par, .int .u64 x.size, .slice x.ao x.rs.length x.cp, .int .u64 y.id, .int .u64 y.par, .int .u64 y.size, .slice y.ao y.rs.length y.cp] :: pack L :: [frb]) (by repeat (first | exact SubL.refl | refine SubL.cons (by repeat (first | exact Pick.here | apply Pick.there)) ?_ | refine SubL.skip ?_ | exact SubL.nil)) hf) ?_
              refine At.skip ?_
              refine At.reg rfl ?_
              refine Run.fa Tb.F28_3 (h := ?_)
              refine Run.ld Tb.A26 (h := ?_)
              refine Run.ldA Tb.A76 Tb.S76 (h := ?_)
              refine Run.call Tb.N35 (hc := lay_ (r := pieceJ e rv.1) (by repeat (first | exact Pick.here | apply Pick.there)) (by rw [hd0]; exact RdS.nil) hpB.1 (fun z hz => by obtain ⟨c1, c2, c3⟩ := hB z.1 (by rw [← hpu]; exact List.mem_map.2 ⟨z, hz, rfl⟩); obtain ⟨b1, b2, b3, b4, b5, b6⟩ := c1; have e1 : (pieceJ e rv.1).len = e.hi - e.lo := rfl; obtain ⟨_, d2, d3⟩ := hpB; rw [e1] at d3 ⊢; exact ⟨⟨b1, b2, b3, b4, b5, b6⟩, by omega, by omega, by omega⟩) (by omega) rfl) (h := ?_)
              rintro _ _ ⟨a2, c2, rs2, hrs2, rfl, rfl⟩
              refine Run.fa Tb.F28_3 (h := ?_)
              refine Run.st Tb.S26 (h := ?_)
              refine Run.fin ?_
              refine At.inb_norm ?_
              rw [jfold_succ he, jstep_lay ha hn hrr, ← hpu, ← hrs2]
              refine At.chunks (L' := resJ g13 y.id x.par x.size (pures rs2) (j + 1) :: cel g6 107 [.int .u64 x.id, .int .u64 x.par, .int .u64 x.size, .slice x.ao x.rs.length x.cp, .int .u64 y.id, .int .u64 y.par, .int .u64 y.size, .slice y.ao y.rs.length y.cp] :: pack L :: [frb]) (fun _ hf => resJ_close (fun r h => by rw [hrs2] at h; exact layP_B (by rw [hpu]; exact hB) hpB hsz r h) (by have h1 := congrArg List.length hrs2; have h2 := layP_len (l := pures rs) (r := pieceJ e rv.1); simp only [pures, List.length_map] at h1 h2; omega) (SubL.star (L' := cel g13 28 [.int .u64 y.id, .int .u64 x.par, .int .u64 x.size, .slice a2 rs2.length c2] :: Rns a2 c2 rs2 :: cel g6 107 [.int .u64 x.id, .int .u64 x.par, .int .u64 x.size, .slice x.ao x.rs.length x.cp, .int .u64 y.id, .int .u64 y.par, .int .u64 y.size, .slice y.ao y.rs.length y.cp] :: pack L :: [frb]) (by repeat (first | exact SubL.refl | refine SubL.cons (by repeat (first | exact Pick.here | apply Pick.there)) ?_ | refine SubL.skip ?_ | exact SubL.nil)) hf)) ?_
              exact At.rnorm
        · skip
          show At _ _ ⟨_, dfb D18 :: resJ g13 y.id x.par x.size (((fin2 x.ar y.ar).take ((fin2 x.ar y.ar).map argE).length).foldl (jstep x.ar y.ar) []) (((fin2 x.ar y.ar).map argE).length) :: cel g6 107 [.int .u64 x.id, .int .u64 x.par, .int .u64 x.size, .slice x.ao x.rs.length x.cp, .int .u64 y.id, .int .u64 y.par, .int .u64 y.size, .slice y.ao y.rs.length y.cp] :: pack L :: cel p3 2 [.int .i64 x.size] :: cel p2 2 [.int .i64 0] :: cel p1 108 [.pointer (some ⟨mb, 0, none⟩)] :: cel mb 138 [.bool true, .int .i64 x.size, .slice ao (mK x.ar y.ar 2).length cp] :: row 118 4 ao cp ((mK x.ar y.ar 2).map cellsX) :: cel g4 28 [.int .u64 0, .int .u64 0, .int .u64 0, .slice none 0 0] :: cel g3 28 [.int .u64 y.id, .int .u64 y.par, .int .u64 y.size, .slice y.ao y.rs.length y.cp] :: [cel g2 28 [.int .u64 x.id, .int .u64 x.par, .int .u64 x.size, .slice x.ao x.rs.length x.cp]], _⟩ _
          rw [take_arg]
          refine At.inb_norm ?_
          refine At.seq ?_
          refine At.sm (L' := fun q : { q : Option Addr × Nat × List RV // pures q.2.2 = (fin2 x.ar y.ar).foldl (jstep x.ar y.ar) [] ∧ (∀ r ∈ (fin2 x.ar y.ar).foldl (jstep x.ar y.ar) [], RnB x.size r) ∧ q.2.2.length ≤ ((fin2 x.ar y.ar).map argE).length } => cel g13 28 [.int .u64 y.id, .int .u64 x.par, .int .u64 x.size, .slice q.1.1 q.1.2.2.length q.1.2.1] :: Rns q.1.1 q.1.2.1 q.1.2.2 :: dfb D18 :: cel g4 28 [.int .u64 0, .int .u64 0, .int .u64 0, .slice none 0 0] :: cel g3 28 [.int .u64 y.id, .int .u64 y.par, .int .u64 y.size, .slice y.ao y.rs.length y.cp] :: cel g2 28 [.int .u64 x.id, .int .u64 x.par, .int .u64 x.size, .slice x.ao x.rs.length x.cp] :: [pack L]) (fun _ hf => resJ_open (SubL.star (L' := resJ g13 y.id x.par x.size ((fin2 x.ar y.ar).foldl (jstep x.ar y.ar) []) (((fin2 x.ar y.ar).map argE).length) :: dfb D18 :: cel g4 28 [.int .u64 0, .int .u64 0, .int .u64 0, .slice none 0 0] :: cel g3 28 [.int .u64 y.id, .int .u64 y.par, .int .u64 y.size, .slice y.ao y.rs.length y.cp] :: cel g2 28 [.int .u64 x.id, .int .u64 x.par, .int .u64 x.size, .slice x.ao x.rs.length x.cp] :: [pack L]) (by repeat (first | exact SubL.refl | refine SubL.cons (by repeat (first | exact Pick.here | apply Pick.there)) ?_ | refine SubL.skip ?_ | exact SubL.nil)) hf)) (fun q => ?_)
          obtain ⟨⟨ra, rc, rs⟩, hpu, hB, hrl⟩ := q
          dsimp only at hpu hB hrl ⊢
          refine At.reg rfl ?_
          refine Run.ldA Tb.A28 Tb.S28 (h := ?_)
          refine Run.st Tb.S28 (h := ?_)
          refine Run.as (h := ?_)
          refine Run.fin ?_
          refine At.ret ?_
          refine At.chunks (L' := dfb D18 :: cel g4 28 [.int .u64 y.id, .int .u64 x.par, .int .u64 x.size, .slice ra rs.length rc] :: Rns ra rc rs :: L) (fun _ hf => tailunpack [dfb D18, cel g4 28 [.int .u64 y.id, .int .u64 x.par, .int .u64 x.size, .slice ra rs.length rc], Rns ra rc rs] (SubL.star (L' := [dfb D18, cel g4 28 [.int .u64 y.id, .int .u64 x.par, .int .u64 x.size, .slice ra rs.length rc], Rns ra rc rs, pack L]) (by repeat (first | exact SubL.refl | refine SubL.cons (by repeat (first | exact Pick.here | apply Pick.there)) ?_ | refine SubL.skip ?_ | exact SubL.nil)) hf)) ?_
          exact At.doneM (hΦ := by exact .inr (.inr ⟨⟨hmx, hmy⟩, hc27, ra, rc, rs, hpu, by rw [hpu]; exact hB, rfl, rfl⟩)) (hm := MarksIn.cons (by repeat (first | exact Pick.here | apply Pick.there)) .nil) (hres := ResR.block (ht := Tb.A28) (hn := Tb.S28) (k := ResR.tmp rfl ResR.nil))
end Go.Proofs.Ytllpfpdanonhkaa
