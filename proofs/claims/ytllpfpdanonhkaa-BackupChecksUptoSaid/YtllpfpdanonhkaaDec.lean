/- Walks: an archive is read (backup). No condition. -/
import Derived.Test.YtllpfpdanonhkaaEnc
set_option maxRecDepth 8000
set_option maxHeartbeats 4000000
set_option linter.unusedVariables false
set_option linter.unusedSimpArgs false
namespace Go.Proofs.Ytllpfpdanonhkaa
open Go.Sx Go.RowKit

/-! ### Reading, plainly -/
def part (bs : List Int) (p n : Nat) : List Int := (bs.take (p + n)).drop p
theorem part_byt {bs : List Int} {p n : Nat} (h : Byt bs) : Byt (part bs p n) := h.take.drop
theorem part_length {bs : List Int} {p n : Nat} (h : p + n ≤ bs.length) : (part bs p n).length = n := by simp [part]; omega
/-- Not so many bytes and a sum are left. -/
def short (bs : List Int) (p : Nat) (n : Int) : Prop := bs.length < p + 4 ∨ (bs.length : Int) - p - 4 < n
instance {bs : List Int} {p : Nat} {n : Int} : Decidable (short bs p n) := by unfold short; infer_instance
def bytesE (bs : List Int) (p : Nat) (n : Int) : Option Int := if short bs p n then some 252 else if bval (part bs (p + n.toNat) 4) = crcv (part bs p n.toNat) then none else some 253
def decRun (bs : List Int) (p : Nat) : Sum Int (Rn × Nat) :=
  match bytesE bs p 17 with
  | some e => .inl e
  | none =>
    if 1 < bval (part (part bs p 17) 16 1) then .inl 250
    else if bval (part (part bs p 17) 16 1) = 0 then .inr (⟨bval (part (part bs p 17) 0 8), bval (part (part bs p 17) 8 8), true, []⟩, p + 21)
    else match bytesE bs (p + 21) (bval (part (part bs p 17) 8 8)) with
      | some e => .inl e
      | none => .inr (⟨bval (part (part bs p 17) 0 8), bval (part (part bs p 17) 8 8), false, part bs (p + 21) (bval (part (part bs p 17) 8 8)).toNat⟩, p + 21 + (bval (part (part bs p 17) 8 8)).toNat + 4)
/-- What reading gives up with. -/
def refu (e : Int) : List PanicEntry := [{ v := .iface 93 (.agg #[.int .i64 e]), recovered := false }]

theorem part_part {bs : List Int} {p n i k : Nat} : part (part bs p n) i k = (List.take (i + k) ((bs.take (p + n)).drop p)).drop i := rfl
theorem bytesE_none {bs : List Int} {p : Nat} {n : Int} (h : bytesE bs p n = none) : ¬ short bs p n := fun hs => by rw [bytesE, if_pos hs] at h; cases h

theorem have_ {w0 : World} {L : List HP} {g p : Nat} {bs : List Int} {F : List HP} {n : Int} (hp : Pick L (Rdr g bs p) F) (hle : bs.length ≤ 1099511627776) (hat : p ≤ bs.length) (hn : 0 ≤ n ∧ n < 18446744073709551616) :
    CallOkE Tb.P w0 L 47 [.agg #[.pointer (some ⟨g, 0, none⟩)], .int .u64 n] (fun u L' => ¬ short bs p n ∧ u = .tuple #[] ∧ L' = Rdr g bs p :: F) (fun ch w => short bs p n ∧ ch = refu 252 ∧ Sat w0 w F) := by
  refine enterE Try.func47 rfl Try.ntmps47 (Nat.le_of_ble_eq_true rfl) ?_
  refine At.seq ?_
  refine At.reg rfl ?_
  refine Run.bx (h := fun g2 => ?_)
  refine Run.fin ?_
  refine At.seq ?_
  refine At.reg rfl ?_
  refine Run.fa Tb.F98_0 (h := ?_)
  refine Run.ld Tb.A95 (h := ?_)
  refine Run.call Tb.N51 (hc := rleft (by repeat (first | exact Pick.here | exact hp | apply Pick.there)) hle hat) (h := ?_)
  rintro _ _ ⟨rfl, rfl⟩
  refine Run.cvf Tb.I3 Tb.I22 (hw := by exact wu64 (by omega) (by omega)) (h := ?_)
  refine Run.as (h := ?_)
  refine Run.fin ?_
  refine At.seq ?_
  refine At.reg rfl ?_
  refine Run.mv (h := ?_)
  refine Run.lt (h := ?_)
  refine Run.mv (h := ?_)
  refine Run.orB 4 2 (ht := fun hg16 => by
      refine Run.mv (h := ?_)
      refine Run.mv (h := ?_)
      refine Run.sub (h := ?_)
      refine Run.eqi (b := ((bs.length - p - 4 : Nat) : Int)) (by rw [wu64 (by omega) (by omega)]; omega) ?_
      refine Run.gt (h := ?_)
      exact Run.fin_sc ScEnd.here) (hrest := ?_)
  refine Run.fin ?_
  refine At.cnd' (ht := fun hc16 => ?_) (hf := fun hc16 => ?_)
  · skip
    refine At.reg rfl ?_
    refine Run.bd Tb.B93 (h := ?_)
    refine Run.mi Tb.C93 (h := ?_)
    exact Run.pan (hE := fun w hs => fun a hda _ => ⟨hda, .inr ⟨_, rfl, by unfold short; omega, rfl, hs.sub⟩⟩)
  · skip
    refine At.skip ?_
    exact At.doneN (hΦ := by exact ⟨by unfold short; omega, rfl, rfl⟩)
theorem bytes_ {w0 : World} {L : List HP} {g p : Nat} {bs : List Int} {F : List HP} {n : Int} (hp : Pick L (Rdr g bs p) F) (hle : bs.length ≤ 1099511627776) (hat : p ≤ bs.length) (hn : 0 ≤ n ∧ n < 18446744073709551616) (hy : Byt bs) :
    CallOkE Tb.P w0 L 49 [.agg #[.pointer (some ⟨g, 0, none⟩)], .int .u64 n] (fun u L' => bytesE bs p n = none ∧ ∃ q, u = .slice (some ⟨q, 0, none⟩) n.toNat n.toNat ∧ L' = row 5 1 (some ⟨q, 0, none⟩) n.toNat (ints .u8 (part bs p n.toNat)) :: Rdr g bs (p + n.toNat + 4) :: F ∧ ¬ short bs p n) (fun ch w => ∃ e, bytesE bs p n = some e ∧ ch = refu e ∧ Sat w0 w F) := by
  refine enterE Try.func49 rfl Try.ntmps49 (Nat.le_of_ble_eq_true rfl) ?_
  refine At.seq ?_
  refine At.reg rfl ?_
  refine Run.bx (h := fun g2 => ?_)
  refine Run.as (h := ?_)
  refine Run.fin ?_
  refine At.seq ?_
  refine At.reg rfl ?_
  refine Run.ldA Tb.A98 Tb.S98 (h := ?_)
  refine Run.mv (h := ?_)
  refine Run.callE Tb.N47 (hc := have_ (by repeat (first | exact Pick.here | exact hp | apply Pick.there)) hle hat hn) (hE := fun ch w he => fun a hda _ => ⟨hda, .inr ⟨_, rfl, by obtain ⟨h1, h2, h3⟩ := he; exact ⟨252, by rw [bytesE, if_pos h1], h2, h3.sub⟩⟩⟩) (h := ?_)
  rintro _ _ ⟨hsh, rfl, rfl⟩
  have hsh2 := hsh
  unfold short at hsh2
  refine Run.fin ?_
  refine At.seq ?_
  refine At.reg rfl ?_
  refine Run.fa Tb.F98_0 (h := ?_)
  refine Run.ld Tb.A95 (h := ?_)
  refine Run.mv (h := ?_)
  refine Run.cv Tb.I22 Tb.I3 (h := ?_)
  refine Run.eqi (b := ((n.toNat : Nat) : Int)) (by rw [wi64 (by omega) (by omega)]; omega) ?_
  refine Run.call Tb.N68 (hc := rraw (n := n.toNat) (by repeat (first | exact Pick.here | exact hp | apply Pick.there)) hle (by omega)) (h := ?_)
  rintro _ _ ⟨q, rfl, rfl⟩
  refine Run.mv (h := ?_)
  refine Run.ex (h := ?_)
  refine Run.ex (h := ?_)
  refine Run.as (h := ?_)
  refine Run.as (h := ?_)
  refine Run.fin ?_
  refine At.seq ?_
  refine At.seq ?_
  refine At.reg rfl ?_
  refine Run.fa Tb.F98_0 (h := ?_)
  refine Run.ld Tb.A95 (h := ?_)
  refine Run.call Tb.N69 (hc := rU32 (by repeat (first | exact Pick.here | exact hp | apply Pick.there)) hy hle (by omega)) (h := ?_)
  rintro _ _ ⟨rfl, rfl⟩
  refine Run.mv (h := ?_)
  refine Run.ex (h := ?_)
  refine Run.ex (h := ?_)
  refine Run.as (h := ?_)
  refine Run.as (h := ?_)
  refine Run.fin ?_
  refine At.seq ?_
  refine At.reg rfl ?_
  refine Run.mv (h := ?_)
  refine Run.mv (h := ?_)
  refine Run.bs Tb.G39 (h := fun g28 => ?_)
  refine Run.call Tb.N64 (hc := crc (bs := part bs p n.toNat) .one .one (by rw [part_length (by omega)]) (by omega) (part_byt hy)) (h := ?_)
  rintro _ _ ⟨rfl, rfl⟩
  refine Run.ne (h := ?_)
  refine Run.fin ?_
  refine At.cnd' (ht := fun hc30 => ?_) (hf := fun hc30 => ?_)
  · skip
    refine At.reg rfl ?_
    refine Run.bd Tb.B93 (h := ?_)
    refine Run.mi Tb.C93 (h := ?_)
    exact Run.pan (hE := fun w hs => fun a hda _ => ⟨hda, .inr ⟨_, rfl, 253, by rw [bytesE, if_neg hsh]; exact if_neg hc30, rfl, hs.sub⟩⟩)
  · skip
    refine At.skip ?_
    refine At.seq ?_
    refine At.reg rfl ?_
    refine Run.mv (h := ?_)
    refine Run.as (h := ?_)
    refine Run.fin ?_
    refine At.ret ?_
    exact At.done (hΦ := by exact ⟨by rw [bytesE, if_neg hsh]; exact if_pos (Decidable.not_not.1 hc30), q, rfl, rfl, hsh⟩)
theorem run_ {w0 : World} {L : List HP} {g p : Nat} {bs : List Int} {F : List HP} (hp : Pick L (Rdr g bs p) F) (hle : bs.length ≤ 1099511627776) (hat : p ≤ bs.length) (hy : Byt bs) :
    CallOkE Tb.P w0 L 50 [.agg #[.pointer (some ⟨g, 0, none⟩)]] (fun u L' => ∃ (r : Rn) (p' : Nat) (d : Option Addr × Nat), decRun bs p = .inr (r, p') ∧ p + 21 ≤ p' ∧ p' ≤ bs.length ∧ RnOk r ∧ u = .agg #[.int .u64 r.off, .int .u64 r.len, .bool r.hole, .slice d.1 r.data.length d.2] ∧ L' = row 5 1 d.1 d.2 (ints .u8 r.data) :: Rdr g bs p' :: F) (fun ch w => ∃ e, decRun bs p = .inl e ∧ ch = refu e ∧ Sat w0 w F) := by
  refine enterE Try.func50 rfl Try.ntmps50 (Nat.le_of_ble_eq_true rfl) ?_
  refine At.seq ?_
  refine At.reg rfl ?_
  refine Run.bx (h := fun g1 => ?_)
  refine Run.al Tb.Z76 (h := fun g2 => ?_)
  refine Run.fin ?_
  refine At.seq ?_
  refine At.reg rfl ?_
  refine Run.ldA Tb.A98 Tb.S98 (h := ?_)
  refine Run.callE Tb.N49 (hc := bytes_ (n := 17) (by repeat (first | exact Pick.here | exact hp | apply Pick.there)) hle hat ⟨by omega, by omega⟩ hy) (hE := fun ch w he => fun a hda _ => ⟨hda, .inr ⟨_, rfl, by obtain ⟨e, h1, h2, h3⟩ := he; exact ⟨e, by rw [decRun, h1], h2, h3.sub⟩⟩⟩) (h := ?_)
  rintro _ _ ⟨hb1, q, rfl, rfl, hs1⟩
  have hs2 := hs1
  unfold short at hs2
  have hl17 : (part bs p 17).length = 17 := part_length (by omega)
  have hy17 : Byt (part bs p 17) := part_byt hy
  refine Run.call Tb.N46 (hc := newReader (bs := part bs p 17) .one (by rw [hl17]; rfl) (by decide)) (h := ?_)
  rintro _ _ ⟨gh, rfl, rfl⟩
  refine Run.as (h := ?_)
  refine Run.fin ?_
  refine At.seq ?_
  refine At.reg rfl ?_
  refine Run.al Tb.Z76 (h := fun g4 => ?_)
  refine Run.fin ?_
  refine At.seq ?_
  refine At.reg rfl ?_
  refine Run.mv (h := ?_)
  refine Run.call Tb.N48 (hc := rU64 (p := 0) (bs := part bs p 17) (by repeat (first | exact Pick.here | exact hp | apply Pick.there)) hy17 (by omega) (by omega)) (h := ?_)
  rintro _ _ ⟨rfl, rfl⟩
  refine Run.mv (h := ?_)
  refine Run.ex (h := ?_)
  refine Run.ex (h := ?_)
  refine Run.fa Tb.F76_0 (h := ?_)
  refine Run.st Tb.S22 (h := ?_)
  refine Run.fin ?_
  refine At.seq ?_
  refine At.reg rfl ?_
  refine Run.mv (h := ?_)
  refine Run.call Tb.N48 (hc := rU64 (p := 0 + 8) (bs := part bs p 17) (by repeat (first | exact Pick.here | exact hp | apply Pick.there)) hy17 (by omega) (by omega)) (h := ?_)
  rintro _ _ ⟨rfl, rfl⟩
  refine Run.mv (h := ?_)
  refine Run.ex (h := ?_)
  refine Run.ex (h := ?_)
  refine Run.fa Tb.F76_1 (h := ?_)
  refine Run.st Tb.S22 (h := ?_)
  refine Run.fin ?_
  refine At.seq ?_
  refine At.reg rfl ?_
  refine Run.mv (h := ?_)
  refine Run.call Tb.N70 (hc := rU8 (p := 0 + 8 + 8) (bs := part bs p 17) (by repeat (first | exact Pick.here | exact hp | apply Pick.there)) hy17 (by omega) (by omega)) (h := ?_)
  rintro _ _ ⟨rfl, rfl⟩
  refine Run.mv (h := ?_)
  refine Run.ex (h := ?_)
  refine Run.ex (h := ?_)
  refine Run.as (h := ?_)
  refine Run.as (h := ?_)
  refine Run.fin ?_
  refine At.seq ?_
  refine At.seq ?_
  refine At.reg rfl ?_
  refine Run.mv (h := ?_)
  refine Run.gt (h := ?_)
  refine Run.eqv (v' := .bool (decide (1 < bval (part (part bs p 17) 16 1)))) rfl ?_
  refine Run.fin ?_
  refine At.cnd' (ht := fun hc28 => ?_) (hf := fun hc28 => ?_)
  · skip
    refine At.reg rfl ?_
    refine Run.bd Tb.B93 (h := ?_)
    refine Run.mi Tb.C93 (h := ?_)
    exact Run.pan (hE := fun w hs => fun a hda _ => ⟨hda, .inr ⟨_, rfl, 250, by rw [decRun, hb1]; dsimp only; rw [if_pos hc28], rfl, hs.sub⟩⟩)
  · skip
    refine At.skip ?_
    refine At.seq ?_
    have hr1 := bval_u64 (part_byt (p := 0) (n := 8) hy17) (by rw [part_length (by omega)]; omega)
    have hr2 := bval_u64 (part_byt (p := 8) (n := 8) hy17) (by rw [part_length (by omega)]; omega)
    refine At.reg rfl ?_
    refine Run.mv (h := ?_)
    refine Run.eq (h := ?_)
    refine Run.eqv (v' := .bool (decide (bval (part (part bs p 17) 16 1) = 0))) rfl ?_
    refine Run.fa Tb.F76_2 (h := ?_)
    refine Run.st Tb.S4 (h := ?_)
    refine Run.fin ?_
    refine At.seq ?_
    refine At.seq ?_
    refine At.reg rfl ?_
    refine Run.fa Tb.F76_2 (h := ?_)
    refine Run.ld Tb.A4 (h := ?_)
    refine Run.not (h := ?_)
    refine Run.fin ?_
    refine At.cnd' (ht := fun hc36 => ?_) (hf := fun hc36 => ?_)
    · skip
      refine At.reg rfl ?_
      refine Run.ldA Tb.A98 Tb.S98 (h := ?_)
      refine Run.fa Tb.F76_1 (h := ?_)
      refine Run.ld Tb.A22 (h := ?_)
      refine Run.callE Tb.N49 (hc := bytes_ (p := p + 21) (n := bval (part (part bs p 17) 8 8)) (by repeat (first | exact Pick.here | exact hp | apply Pick.there)) hle (by omega) (bval_u64 (part_byt hy17) (by rw [part_length (by omega)]; omega)) hy) (hE := fun ch w he => fun a hda _ => ⟨hda, .inr ⟨_, rfl, by obtain ⟨e, h1, h2, h3⟩ := he; exact ⟨e, by rw [decRun, hb1]; dsimp only; rw [if_neg hc28, if_neg hc36, h1], h2, h3.sub⟩⟩⟩) (h := ?_)
      rintro _ _ ⟨hb2, q2, rfl, rfl, hs3⟩
      have hs4 := hs3
      unfold short at hs4
      refine Run.fa Tb.F76_3 (h := ?_)
      refine Run.st Tb.S23 (h := ?_)
      refine Run.fin ?_
      refine At.seq ?_
      refine At.reg rfl ?_
      refine Run.ldA Tb.A76 Tb.S76 (h := ?_)
      refine Run.st Tb.S76 (h := ?_)
      refine Run.fin ?_
      refine At.ret ?_
      have hN : (bval (part (part bs p 17) 8 8)).toNat = (part bs (p + 21) (bval (part (part bs p 17) 8 8)).toNat).length := (part_length (by omega)).symm
      exact At.done (hΦ := by exact ⟨⟨bval (part (part bs p 17) 0 8), bval (part (part bs p 17) 8 8), false, part bs (p + 21) (bval (part (part bs p 17) 8 8)).toNat⟩, p + 21 + (bval (part (part bs p 17) 8 8)).toNat + 4, (some ⟨q2, 0, none⟩, (bval (part (part bs p 17) 8 8)).toNat), by rw [decRun, hb1]; dsimp only; rw [if_neg hc28, if_neg hc36, hb2], by omega, by omega, ⟨hr1.1, hr1.2, hr2.1, hr2.2, by dsimp only; rw [← hN]; omega, part_byt hy⟩, by rw [decide_eq_false hc36]; dsimp only; rw [← hN]; rfl, rfl⟩) (hres := ResR.block (ht := Tb.A76) (hn := Tb.S76) (k := ResR.nil))
    · skip
      refine At.skip ?_
      refine At.seq ?_
      refine At.reg rfl ?_
      refine Run.ldA Tb.A76 Tb.S76 (h := ?_)
      refine Run.st Tb.S76 (h := ?_)
      refine Run.fin ?_
      refine At.ret ?_
      refine At.chunks (fun _ h => Star.nilRow (e := 5) (sz := 1) h) ?_
      exact At.done (hΦ := by exact ⟨⟨bval (part (part bs p 17) 0 8), bval (part (part bs p 17) 8 8), true, []⟩, p + 21, (none, 0), by rw [decRun, hb1]; dsimp only; rw [if_neg hc28, if_pos (Decidable.not_not.1 hc36)], by omega, by omega, ⟨hr1.1, hr1.2, hr2.1, hr2.2, by simp, fun _ h => by cases h⟩, by rw [decide_eq_true (Decidable.not_not.1 hc36)]; rfl, rfl⟩) (hres := ResR.block (ht := Tb.A76) (hn := Tb.S76) (k := ResR.nil))
end Go.Proofs.Ytllpfpdanonhkaa
