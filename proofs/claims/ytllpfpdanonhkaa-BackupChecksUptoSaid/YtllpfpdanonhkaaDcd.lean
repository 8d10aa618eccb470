/- Walks: Decode, and what it defers. No condition. -/
import Derived.Test.YtllpfpdanonhkaaRns
set_option maxRecDepth 8000
set_option maxHeartbeats 4000000
set_option linter.unusedVariables false
set_option linter.unusedSimpArgs false
namespace Go.Proofs.Ytllpfpdanonhkaa
open Go.Sx Go.RowKit

instance {par size a : Int} {prev : Option Bool} {r : Rn} : Decidable (okRun par size a prev r) := by unfold okRun; infer_instance
def decMayGo (par size : Int) : (a : Int) → (prev : Option Bool) → (l : List Rn) → Decidable (MayGo par size a prev l)
  | a, _, [] => inferInstanceAs (Decidable (par = 0 → a = size))
  | a, prev, r :: rs => @instDecidableAnd _ _ inferInstance (decMayGo par size (r.off + r.len) (some r.hole) rs)
instance {par size a : Int} {prev : Option Bool} {l : List Rn} : Decidable (MayGo par size a prev l) := decMayGo par size a prev l
instance {a : Ar} : Decidable (May a) := by unfold May; infer_instance
def decRuns (bs : List Int) : Nat → Nat → Sum Int (List Rn × Nat)
  | 0, p => .inr ([], p)
  | n + 1, p => match decRun bs p with
    | .inl e => .inl e
    | .inr (r, p') => match decRuns bs n p' with
      | .inl e => .inl e
      | .inr (l, q) => .inr (r :: l, q)
def hdP (bs : List Int) (k : Nat) : Int := bval (part (part bs 0 40) k 8)
def dec (bs : List Int) : Sum Int Ar :=
  if short bs 0 40 then .inl 252
  else if bval (part bs 0 8) ≠ 6003378903737058097 then .inl 253
  else match bytesE bs 0 40 with
    | some e => .inl e
    | none => match decRuns bs (hdP bs 32).toNat 44 with
      | .inl e => .inl e
      | .inr (l, q) => if q < bs.length then .inl 252 else if May ⟨hdP bs 8, hdP bs 16, hdP bs 24, l⟩ then .inr ⟨hdP bs 8, hdP bs 16, hdP bs 24, l⟩ else .inl 250
/-- What has been read, and what is still to be. -/
def goOn (l : List Rn) : Sum Int (List Rn × Nat) → Sum Int (List Rn × Nat)
  | .inl e => .inl e
  | .inr (m, q) => .inr (l ++ m, q)
theorem goOn_nil (x : Sum Int (List Rn × Nat)) : goOn [] x = x := by cases x <;> rfl
theorem goOn_err {bs : List Int} {l : List Rn} {k p : Nat} {e : Int} (h : decRun bs p = .inl e) : goOn l (decRuns bs (k + 1) p) = .inl e := by simp [decRuns, h, goOn]
theorem goOn_run {bs : List Int} {l : List Rn} {k p q : Nat} {r : Rn} (h : decRun bs p = .inr (r, q)) : goOn l (decRuns bs (k + 1) p) = goOn (l ++ [r]) (decRuns bs k q) := by
  simp only [decRuns, h]
  cases decRuns bs k q <;> simp [goOn]
def decPost (w0 : World) (bs : List Int) (L : List HP) : Value → List HP → Prop := fun u L' => (∃ e, dec bs = .inl e ∧ u = .tuple #[.agg #[.int .u64 0, .int .u64 0, .int .u64 0, .slice none 0 0], .int .i64 e] ∧ L' = L) ∨
  ∃ (a : Ar) (ao : Option Addr) (cp : Nat) (rs : List RV), dec bs = .inr a ∧ pures rs = a.runs ∧ (∀ r ∈ rs, RnOk r.1) ∧ u = .tuple #[.agg #[.int .u64 a.id, .int .u64 a.par, .int .u64 a.size, .slice ao rs.length cp], .int .i64 0] ∧ L' = Rns ao cp rs :: L

theorem decDef0 {w0 : World} {L : List HP} {p2 p3 : Nat} :
    DefOk Tb.P w0 L 45 [.pointer (some ⟨p2, 0, none⟩), .pointer (some ⟨p3, 0, none⟩)] .returning (fun u' L' => u' = .returning ∧ ∃ v, (fun (_ : Value) (L' : List HP) => L' = L) v L') := by
  refine enterRec (x := .nilIface) Try.func45 rfl Try.ntmps45 (Nat.le_of_ble_eq_true rfl) (by decide) (by decide) (.inl ⟨rfl, rfl, rfl⟩) ?_
  refine At.seq ?_
  refine At.reg rfl ?_
  refine Run.mv (h := ?_)
  refine Run.neN0 Tb.J20 (h := ?_)
  refine Run.fin ?_
  refine At.condF (hx := by rfl) ?_
  refine At.skip ?_
  exact At.doneN (hΦ := by exact rfl)
theorem decDef1 {w0 : World} {p2 p3 : Nat} {a1 a2 a3 a4 v3 : Value} {F : List HP} {e : Int} :
    DefOk Tb.P w0 (cel p2 28 [a1, a2, a3, a4] :: cel p3 29 [v3] :: F) 45 [.pointer (some ⟨p2, 0, none⟩), .pointer (some ⟨p3, 0, none⟩)] (.panicking (refu e)) (fun u' L' => u' = .panicking [{ v := .iface 93 (.agg #[.int .i64 e]), recovered := true }] ∧ ∃ v, (fun (_ : Value) (L' : List HP) => L' = cel p2 28 [.int .u64 0, .int .u64 0, .int .u64 0, .slice none 0 0] :: cel p3 29 [.int .i64 e] :: F) v L') := by
  refine enterRec (x := .iface 93 (.agg #[.int .i64 e])) Try.func45 rfl Try.ntmps45 (Nat.le_of_ble_eq_true rfl) (by decide) (by decide) (.inr ⟨[], rfl, rfl⟩) ?_
  refine At.seq ?_
  refine At.reg rfl ?_
  refine Run.mv (h := ?_)
  refine Run.neN1 Tb.J20 (h := ?_)
  refine Run.fin ?_
  refine At.condT (hx := by rfl) ?_
  refine At.seq ?_
  refine At.reg rfl ?_
  refine Run.mv (h := ?_)
  refine Run.ta Tb.C93 (h := ?_)
  refine Run.mv (h := ?_)
  refine Run.ex (h := ?_)
  refine Run.ex (h := ?_)
  refine Run.al Tb.Z93 (h := fun g3 => ?_)
  refine Run.st Tb.S93 (h := ?_)
  refine Run.as (h := ?_)
  refine Run.fin ?_
  refine At.seq ?_
  refine At.seq ?_
  refine At.reg rfl ?_
  refine Run.mv (h := ?_)
  refine Run.not (h := ?_)
  refine Run.fin ?_
  refine At.condF (hx := by rfl) ?_
  refine At.skip ?_
  refine At.draw [(0, 0), (1, 0), (2, 1), (3, 3), (4, 3)] Tb.mixed (by kernel_rfl) ?_
  refine Run.bd Tb.B28 (h := ?_)
  refine Run.fa Tb.F93_0 (h := ?_)
  refine Run.ld Tb.A29 (h := ?_)
  refine Run.st Tb.S28 (hk := hkUse (fun w hs => ld_fact hs Tb.A29 (Cel.own (g := g3) (k := 0) (by repeat (first | exact Pick.here | apply Pick.there)) rfl)) hkNil) (h := ?_)
  refine Run.st Tb.S29 (hk := noun (by kernel_rfl)) (h := ?_)
  refine Run.fin ?_
  exact At.doneN (hΦ := by exact rfl)
theorem decLeave {w0 w : World} {L : List HP} {bs : List Int} {a : Act} {p2 p3 : Nat} {a1 a2 a3 a4 v3 : Value} {e : Int} (he : dec bs = .inl e) (hda : a.defers = [dcl 45 [.pointer (some ⟨p2, 0, none⟩), .pointer (some ⟨p3, 0, none⟩)]]) (h2 : a.tmps[2]? = some (.pointer (some ⟨p2, 0, none⟩))) (h3 : a.tmps[3]? = some (.pointer (some ⟨p3, 0, none⟩)))
    (hs : Sat w0 w (cel p2 28 [a1, a2, a3, a4] :: cel p3 29 [v3] :: L)) : LeavesIn (FW none) 0 Tb.P Try.f22 a.tmps (Post w0 (decPost w0 bs L) fun _ _ => False) a.defers (.panicking (refu e)) w :=
  leave1 [(2, .pointer (some ⟨p2, 0, none⟩)), (3, .pointer (some ⟨p3, 0, none⟩))] (by simp) hda (fun t v h => by
    by_cases e2 : 2 = t
    · subst e2; rw [look_cons_same] at h; cases h; exact h2
    · rw [look_cons_ne e2] at h
      by_cases e3 : 3 = t
      · subst e3; rw [look_cons_same] at h; cases h; exact h3
      · rw [look_cons_ne e3] at h; cases h) Tb.N45
    (fun w hs => CallsDIn.mono (decDef1 (e := e) w hs) fun _ u' w' ⟨h1, L', ⟨h2, _, h3⟩, h4⟩ => ⟨h1, L', ⟨by rw [h2]; rfl, h3⟩, h4⟩) hs rfl
    (ResR.block (ht := Tb.A28) (hn := Tb.S28) (k := ResR.block1 (ht := Tb.A29) (k := ResR.nil))) ⟨L, .inl ⟨e, he, rfl, rfl⟩, .skip (.skip .refl)⟩
theorem decOk {w0 : World} {L L1 : List HP} {p2 p3 : Nat} (h : L1 = L) : DefOk Tb.P w0 L 45 [.pointer (some ⟨p2, 0, none⟩), .pointer (some ⟨p3, 0, none⟩)] .returning (fun u' L' => settle u' = .returning ∧ L' = L1) := fun w hs => CallsDIn.mono (decDef0 w hs) fun _ u' w' ⟨h1, L', ⟨h2, _, h3⟩, h4⟩ => ⟨h1, L', ⟨by rw [h2]; rfl, by rw [h]; exact h3⟩, h4⟩

theorem decode {w0 : World} {L : List HP} {bs : List Int} {ao : Option Addr} {n cp : Nat} (hb : RdS w0 L 1 ao (ints .u8 bs)) (hn : n = bs.length) (hcp : n ≤ cp) (hle : bs.length ≤ 549755813888) (hy : Byt bs) :
    CallOkE Tb.P w0 L 22 [.slice ao n cp] (decPost w0 bs L) (fun _ _ => False) := by
  refine enterD Try.func22 rfl Try.ntmps22 (Nat.le_of_ble_eq_true rfl) ?_
  refine At.seq ?_
  refine At.reg rfl ?_
  refine Run.al Tb.Z28 (h := fun g2 => ?_)
  refine Run.al Tb.Z29 (h := fun g3 => ?_)
  refine Run.fin ?_
  refine At.seq ?_
  refine At.reg rfl ?_
  refine Run.mf (h := ?_)
  refine Run.df (h := ?_)
  refine Run.fin ?_
  refine At.seq ?_
  refine At.reg rfl ?_
  refine Run.mv (h := ?_)
  refine Run.call Tb.N46 (hc := newReader hb.sub hn (by omega)) (h := ?_)
  rintro _ _ ⟨gr, rfl, rfl⟩
  refine Run.bd Tb.B98 (h := ?_)
  refine Run.al Tb.Z98 (h := fun g4 => ?_)
  refine Run.st Tb.S98 (h := ?_)
  refine Run.fin ?_
  refine At.seq ?_
  refine At.reg rfl ?_
  refine Run.ldA Tb.A98 Tb.S98 (h := ?_)
  refine Run.callE Tb.N47 (hc := have_ (n := 40) (by repeat (first | exact Pick.here | apply Pick.there)) (by omega) (Nat.zero_le _) ⟨by omega, by omega⟩) (hE := fun ch w he a hda hk => by obtain ⟨h1, h2, h3⟩ := he; subst h2; exact decLeave (by rw [dec, if_pos h1]) hda (hk 2 _ ⟨rfl, rfl⟩) (hk 3 _ ⟨rfl, rfl⟩) h3.sub) (h := ?_)
  rintro _ _ ⟨hs1, rfl, rfl⟩
  have hs2 := hs1
  unfold short at hs2
  refine Run.fin ?_
  refine At.seq ?_
  refine At.reg rfl ?_
  refine Run.mv (h := ?_)
  refine Run.slH Tb.L23 (h1 := by omega) (h2 := by omega) (hs := hb.plain (by simp; omega)) (hr := ?_)
  refine Run.call Tb.N46 (hc := newReader (bs := part bs 0 8) (by rw [part, ← ints_drop, ← ints_take]; exact (hb.cut (a := 0) (b := 0 + 8) (by simp; omega) (by simp; omega)).sub) (by rw [part_length (by omega)]; rfl) (by decide)) (h := ?_)
  rintro _ _ ⟨gf, rfl, rfl⟩
  refine Run.as (h := ?_)
  refine Run.fin ?_
  refine At.seq ?_
  refine At.seq ?_
  refine At.reg rfl ?_
  refine Run.mv (h := ?_)
  refine Run.call Tb.N48 (hc := rU64 (p := 0) (bs := part bs 0 8) (by repeat (first | exact Pick.here | apply Pick.there)) (part_byt hy) (by rw [part_length (by omega)]; omega) (by rw [part_length (by omega)]; omega)) (h := ?_)
  rintro _ _ ⟨rfl, rfl⟩
  refine Run.mv (h := ?_)
  refine Run.ex (h := ?_)
  refine Run.ex (h := ?_)
  refine Run.as (h := ?_)
  refine Run.as (h := ?_)
  refine Run.fin ?_
  refine At.seq ?_
  refine At.reg rfl ?_
  refine Run.mv (h := ?_)
  refine Run.ne (h := ?_)
  refine Run.eqv (v' := .bool (decide (bval (part bs 0 8) ≠ 6003378903737058097))) (by rw [show bval (((part bs 0 8).take (0 + 8)).drop 0) = bval (part bs 0 8) by rw [List.drop_zero, List.take_of_length_le (by rw [part_length (by omega)]; omega)]]) ?_
  refine Run.fin ?_
  refine At.cnd' (ht := fun hc26 => ?_) (hf := fun hc26 => ?_)
  · skip
    refine At.reg rfl ?_
    refine Run.bd Tb.B93 (h := ?_)
    refine Run.mi Tb.C93 (h := ?_)
    exact Run.pan (hE := fun w hs => fun a hda hk => decLeave (by rw [dec, if_neg hs1, if_pos hc26]) hda (hk 2 _ ⟨rfl, rfl⟩) (hk 3 _ ⟨rfl, rfl⟩) hs.sub)
  · skip
    refine At.skip ?_
    refine At.seq ?_
    refine At.reg rfl ?_
    refine Run.ldA Tb.A98 Tb.S98 (h := ?_)
    refine Run.callE Tb.N49 (hc := bytes_ (n := 40) (p := 0) (by repeat (first | exact Pick.here | apply Pick.there)) (by omega) (Nat.zero_le _) ⟨by omega, by omega⟩ hy) (hE := fun ch w he a hda hk => by obtain ⟨e, h1, h2, h3⟩ := he; subst h2; exact decLeave (by rw [dec, if_neg hs1, if_neg hc26, h1]) hda (hk 2 _ ⟨rfl, rfl⟩) (hk 3 _ ⟨rfl, rfl⟩) h3.sub) (h := ?_)
    rintro _ _ ⟨hb40, q, rfl, rfl, _⟩
    have hl40 : (part bs 0 40).length = 40 := part_length (by omega)
    have hy40 : Byt (part bs 0 40) := part_byt hy
    refine Run.call Tb.N46 (hc := newReader (bs := part bs 0 40) .one (by rw [hl40]; rfl) (by decide)) (h := ?_)
    rintro _ _ ⟨gh, rfl, rfl⟩
    refine Run.as (h := ?_)
    refine Run.fin ?_
    refine At.seq ?_
    refine At.reg rfl ?_
    refine Run.mv (h := ?_)
    refine Run.call Tb.N48 (hc := rU64 (p := 0) (bs := part bs 0 40) (by repeat (first | exact Pick.here | apply Pick.there)) hy40 (by omega) (by omega)) (h := ?_)
    rintro _ _ ⟨rfl, rfl⟩
    refine Run.fin ?_
    refine At.seq ?_
    refine At.reg rfl ?_
    refine Run.mv (h := ?_)
    refine Run.call Tb.N48 (hc := rU64 (p := 0 + 8) (bs := part bs 0 40) (by repeat (first | exact Pick.here | apply Pick.there)) hy40 (by omega) (by omega)) (h := ?_)
    rintro _ _ ⟨rfl, rfl⟩
    refine Run.mv (h := ?_)
    refine Run.ex (h := ?_)
    refine Run.ex (h := ?_)
    refine Run.fa Tb.F28_0 (h := ?_)
    refine Run.st Tb.S22 (h := ?_)
    refine Run.fin ?_
    refine At.seq ?_
    refine At.reg rfl ?_
    refine Run.mv (h := ?_)
    refine Run.call Tb.N48 (hc := rU64 (p := 0 + 8 + 8) (bs := part bs 0 40) (by repeat (first | exact Pick.here | apply Pick.there)) hy40 (by omega) (by omega)) (h := ?_)
    rintro _ _ ⟨rfl, rfl⟩
    refine Run.mv (h := ?_)
    refine Run.ex (h := ?_)
    refine Run.ex (h := ?_)
    refine Run.fa Tb.F28_1 (h := ?_)
    refine Run.st Tb.S22 (h := ?_)
    refine Run.fin ?_
    refine At.seq ?_
    refine At.reg rfl ?_
    refine Run.mv (h := ?_)
    refine Run.call Tb.N48 (hc := rU64 (p := 0 + 8 + 8 + 8) (bs := part bs 0 40) (by repeat (first | exact Pick.here | apply Pick.there)) hy40 (by omega) (by omega)) (h := ?_)
    rintro _ _ ⟨rfl, rfl⟩
    refine Run.mv (h := ?_)
    refine Run.ex (h := ?_)
    refine Run.ex (h := ?_)
    refine Run.fa Tb.F28_2 (h := ?_)
    refine Run.st Tb.S22 (h := ?_)
    refine Run.fin ?_
    refine At.seq ?_
    refine At.reg rfl ?_
    refine Run.mv (h := ?_)
    refine Run.call Tb.N48 (hc := rU64 (p := 0 + 8 + 8 + 8 + 8) (bs := part bs 0 40) (by repeat (first | exact Pick.here | apply Pick.there)) hy40 (by omega) (by omega)) (h := ?_)
    rintro _ _ ⟨rfl, rfl⟩
    refine Run.mv (h := ?_)
    refine Run.ex (h := ?_)
    refine Run.ex (h := ?_)
    refine Run.as (h := ?_)
    refine Run.as (h := ?_)
    refine Run.fin ?_
    refine At.seq ?_
    refine At.block ?_
    have hN : 0 ≤ hdP bs 32 ∧ hdP bs 32 < 18446744073709551616 := bval_u64 (part_byt (p := 32) (n := 8) hy40) (by rw [part_length (by omega)]; omega)
    refine At.say 9 (.int .u64 ((hdP bs 32).toNat : Nat)) (e := by rw [Int.toNat_of_nonneg (show 0 ≤ hdP bs 32 from hN.1)]; rfl) (h := ?_)
    refine At.chunks (fun _ hf => Rns_nil hf) ?_
    refine At.loop (α := Nat × Nat × List RV × Option Addr × Nat) (fun x => ⟨[(2, .pointer (some ⟨g2, 0, none⟩)), (3, .pointer (some ⟨g3, 0, none⟩)), (4, .pointer (some ⟨g4, 0, none⟩)), (9, .int .u64 (x.1 : Nat))], cel g2 28 [.int .u64 (hdP bs 8), .int .u64 (hdP bs 16), .int .u64 (hdP bs 24), .slice x.2.2.2.1 x.2.2.1.length x.2.2.2.2] :: cel g3 29 [.int .i64 0] :: Rns x.2.2.2.1 x.2.2.2.2 x.2.2.1 :: Rdr gr bs x.2.1 :: cel g4 98 [.pointer (some ⟨gr, 0, none⟩)] :: L, [dcl 45 [.pointer (some ⟨g2, 0, none⟩), .pointer (some ⟨g3, 0, none⟩)]]⟩) (fun x => x.1 < 18446744073709551616 ∧ x.2.1 ≤ bs.length ∧ 44 + 21 * x.2.2.1.length ≤ x.2.1 ∧ (∀ r ∈ x.2.2.1, RnOk r.1) ∧ decRuns bs (hdP bs 32).toNat 44 = goOn (pures x.2.2.1) (decRuns bs x.1 x.2.1)) (fun x => x.1) (((hdP bs 32).toNat, 44, [], none, 0)) (⟨by dsimp only; omega, by dsimp only; omega, by simp, by simp, (goOn_nil _).symm⟩) (Ent.of (by repeat (first | exact SubE.nil | refine SubE.cons (by first | rfl | (show some _ = some _; simp; done)) ?_)) (by repeat (first | exact SubL.refl | refine SubL.cons (by repeat (first | exact Pick.here | apply Pick.there)) ?_ | refine SubL.skip ?_ | exact SubL.nil))) (fun x hx => ?_)
    obtain ⟨k, p, rs, a1, c1⟩ := x
    dsimp only at hx ⊢
    obtain ⟨hk64, hp1, hp2, hok, hgo⟩ := hx
    refine At.seq ?_
    refine At.seq ?_
    refine At.reg rfl ?_
    refine Run.mv (h := ?_)
    refine Run.gt (h := ?_)
    refine Run.fin ?_
    refine At.cnd' (ht := fun hc58 => ?_) (hf := fun hc58 => ?_)
    · skip
      obtain ⟨k, rfl⟩ : ∃ m, k = m + 1 := ⟨k - 1, by omega⟩
      refine At.chunks (L' := row 76 4 a1 c1 (rs.map cellsV) :: pack (rs.map dat) :: cel g2 28 [.int .u64 (hdP bs 8), .int .u64 (hdP bs 16), .int .u64 (hdP bs 24), .slice a1 rs.length c1] :: cel g3 29 [.int .i64 0] :: Rdr gr bs p :: cel g4 98 [.pointer (some ⟨gr, 0, none⟩)] :: L) (fun _ hf => Rns_open.1 ((Pick.there (.there .here)).star hf)) ?_
      refine At.skip ?_
      refine At.seq ?_
      refine At.block ?_
      refine At.draw [(0, 0), (1, 1), (2, 1), (3, 3), (4, 2), (5, 3), (6, 0), (7, 3)] Tb.mixed (by kernel_rfl) ?_
      refine Run.fa Tb.F28_3 (h := ?_)
      refine Run.ld Tb.A26 (h := ?_)
      refine Run.ldA Tb.A98 Tb.S98 (h := ?_)
      refine Run.callE Tb.N50 (hc := run_ (by repeat (first | exact Pick.here | apply Pick.there)) (by omega) hp1 hy) (hE := fun ch w he a hda hk => by obtain ⟨e, h1, h2, h3⟩ := he; subst h2; exact decLeave (by rw [dec, if_neg hs1, if_neg hc26, hb40]; dsimp only; rw [hgo, goOn_err h1]) hda (hk 2 _ ⟨rfl, rfl⟩) (hk 3 _ ⟨rfl, rfl⟩) h3.sub) (hk := hkSkip (by kernel_rfl) (hkUse (fun u L' hPhi w hs => by obtain ⟨r, p', d, _, _, _, _, _, hL⟩ := hPhi; subst hL; exact ld_fact hs Tb.A26 (Cel.own (g := g2) (k := 3) (by repeat (first | exact Pick.here | apply Pick.there)) rfl)) hkNil)) (hin := nost (by kernel_rfl)) (h := ?_)
      rintro _ _ ⟨r, p', d, hr1, hr2, hr3, hr4, rfl, rfl⟩
      refine Run.bs Tb.G26 (h := fun g65 => ?_)
      refine Run.ap (ht := Tb.G26) (hR := .one) (hn := by simp) (n2 := (rs ++ [(r, d)]).length) (l2 := rs.map cellsV ++ [cellsV (r, d)]) (hn2 := by simp) (hlen := by simp [maxLen]; omega) (hby := by simp; omega) (hk := noun (by kernel_rfl)) (h := fun ao66 cp66 => ?_)
      refine Run.fa Tb.F28_3 (h := ?_)
      refine Run.st Tb.S26 (hk := noun (by kernel_rfl)) (h := ?_)
      refine Run.fin ?_
      refine At.inb_norm ?_
      refine At.reg rfl ?_
      refine Run.mv (h := ?_)
      refine Run.sub (h := ?_)
      refine Run.eqi (b := ((k : Nat) : Int)) (by rw [wu64 (by omega) (by omega)]; omega) ?_
      refine Run.as (h := ?_)
      refine Run.fin ?_
      refine At.chunks (L' := cel g2 28 [.int .u64 (hdP bs 8), .int .u64 (hdP bs 16), .int .u64 (hdP bs 24), .slice ao66 (rs ++ [(r, d)]).length cp66] :: cel g3 29 [.int .i64 0] :: Rns ao66 cp66 (rs ++ [(r, d)]) :: Rdr gr bs p' :: cel g4 98 [.pointer (some ⟨gr, 0, none⟩)] :: L) (fun _ hf => (Pick.there (.there .here)).unstar (Rns_snoc (SubL.star (by repeat (first | exact SubL.refl | refine SubL.cons (by repeat (first | exact Pick.here | apply Pick.there)) ?_ | refine SubL.skip ?_ | exact SubL.nil)) hf))) ?_
      exact At.again ((k, p', rs ++ [(r, d)], ao66, cp66)) (⟨by dsimp only; omega, hr3, by simp; omega, fun q hq => by rcases List.mem_append.1 hq with hq | hq; exact hok q hq; rw [List.mem_singleton.1 hq]; exact hr4, by rw [hgo, goOn_run hr1]; simp [pures]⟩) (by dsimp only; omega)
    · skip
      refine At.exit ?_
      refine At.then_exit ?_
      refine At.then_exit ?_
      refine At.inb_hit ?_
      refine At.seq ?_
      refine At.seq ?_
      obtain rfl : k = 0 := by omega
      have hfin : decRuns bs (hdP bs 32).toNat 44 = .inr (pures rs, p) := by rw [hgo]; simp [decRuns, goOn]
      refine At.reg rfl ?_
      refine Run.fa Tb.F98_0 (h := ?_)
      refine Run.ld Tb.A95 (h := ?_)
      refine Run.call Tb.N51 (hc := rleft (by repeat (first | exact Pick.here | apply Pick.there)) (by omega) hp1) (h := ?_)
      rintro _ _ ⟨rfl, rfl⟩
      refine Run.gt (h := ?_)
      refine Run.fin ?_
      refine At.cnd' (ht := fun hc71 => ?_) (hf := fun hc71 => ?_)
      · skip
        refine At.reg rfl ?_
        refine Run.bd Tb.B93 (h := ?_)
        refine Run.mi Tb.C93 (h := ?_)
        exact Run.pan (hE := fun w hs => fun a hda hk => decLeave (by rw [dec, if_neg hs1, if_neg hc26, hb40]; dsimp only; rw [hfin]; dsimp only; rw [if_pos (by omega)]) hda (hk 2 _ ⟨rfl, rfl⟩) (hk 3 _ ⟨rfl, rfl⟩) hs.sub)
      · skip
        refine At.skip ?_
        refine At.seq ?_
        refine At.seq ?_
        refine At.rns (h := fun hrd _ _ => ?_)
        refine At.reg rfl ?_
        refine Run.ldA Tb.A28 Tb.S28 (h := ?_)
        refine Run.call Tb.N37 (hc := may (hrd (by repeat (first | exact Pick.here | apply Pick.there))).1 rfl (by omega) hok (bval_u64 (part_byt hy40) (by rw [part_length (by omega)]; omega))) (h := ?_)
        rintro _ _ ⟨bm, rfl, hbm, rfl⟩
        refine Run.not (h := ?_)
        refine Run.fin ?_
        refine At.cnd' (ht := fun hc76 => ?_) (hf := fun hc76 => ?_)
        · skip
          refine At.reg rfl ?_
          refine Run.bd Tb.B93 (h := ?_)
          refine Run.mi Tb.C93 (h := ?_)
          exact Run.pan (hE := fun w hs => fun a hda hk => decLeave (by rw [dec, if_neg hs1, if_neg hc26, hb40]; dsimp only; rw [hfin]; dsimp only; rw [if_neg (by omega)]; exact if_neg (fun h => hc76 (hbm.2 h))) hda (hk 2 _ ⟨rfl, rfl⟩) (hk 3 _ ⟨rfl, rfl⟩) hs.sub)
        · skip
          refine At.skip ?_
          refine At.seq ?_
          refine At.reg rfl ?_
          refine Run.ldA Tb.A28 Tb.S28 (h := ?_)
          refine Run.st Tb.S28 (h := ?_)
          refine Run.st Tb.S29 (h := ?_)
          refine Run.fin ?_
          refine At.ret ?_
          exact At.leave (hF := Tb.N45) (hd := decOk rfl) (hres := ResR.block (ht := Tb.A28) (hn := Tb.S28) (k := ResR.block1 (ht := Tb.A29) (k := ResR.nil))) (hΦ := ⟨Rns a1 c1 rs :: L, .inr ⟨⟨hdP bs 8, hdP bs 16, hdP bs 24, pures rs⟩, a1, c1, rs, by rw [dec, if_neg hs1, if_neg hc26, hb40]; dsimp only; rw [hfin]; dsimp only; rw [if_neg (by omega)]; exact if_pos (hbm.1 (by simpa using hc76)), rfl, hok, rfl, rfl⟩, by repeat (first | exact SubL.refl | refine SubL.cons (by repeat (first | exact Pick.here | apply Pick.there)) ?_ | refine SubL.skip ?_ | exact SubL.nil)⟩)
end Go.Proofs.Ytllpfpdanonhkaa
