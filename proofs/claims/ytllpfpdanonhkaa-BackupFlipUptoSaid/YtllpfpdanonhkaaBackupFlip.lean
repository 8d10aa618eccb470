/- The function BackupFlip returns true, its arguments read as before; where what it reads is of bulk at most 1048576. -/
import Derived.Test.YtllpfpdanonhkaaPlArg
namespace Go.Proofs.Ytllpfpdanonhkaa.backupFlip
open Go.Sx Go.RowKit Go.ChangeShapes Go.WideShapes Go.ChangeAt Go.ChangeMaps
set_option linter.unusedVariables false
theorem own : ownKnob Try.prog.godebug = none := by kernel_rfl
theorem laidOut : laidOutB Try.prog = true := by kernel_rfl
theorem parOk : (Try.f6.params.toList.all fun t => Try.prog.readableRec t && decide (t < Try.prog.types.size)) = true := by kernel_rfl
theorem contract (H : Type) (enc : TypeId × Value → H) (W : World) (base : Nat) (args : Array Value) (ds gs : List (DataW H)) (before : List MemPlace)
    (hval : ArgsOk Try.prog W base Try.f6.params args)
    (hW : DataW.Whole enc Try.prog Try.f6.params.toList Rows.backupFlipSpec.vars false W args.toList ds gs before) (hk : Rows.uptoSmall H (ds ++ gs) = true) :
    Calls Try.prog 6 args W fun e W' => ∃ v, e = .returned v ∧ Rows.backupFlipSpec.post enc Try.prog Try.f6 false true false false W args v W' := by
  have hW' := hW
  obtain ⟨p, q, hA0, hV, hbef, hfz, hnd⟩ := hW
  have hA : DataW.TrodAll enc Try.prog W 0 (fun _ => true) true Try.f6.params.toList args.toList ds p := hA0
  rw [Try.params6] at hA hval
  obtain ⟨v0, vs0, d0, ds0, p0, q0, hargs, rfl, _, h0, r0⟩ := trodAll_cons hA
  obtain ⟨v1, vs1, d1, ds1, p1, q1, rfl, rfl, _, h1, r1⟩ := trodAll_cons r0
  obtain ⟨v2, vs2, d2, ds2, p2, q2, rfl, rfl, _, h2, r2⟩ := trodAll_cons r1
  obtain ⟨rfl, rfl, _⟩ := trodAll_nil r2
  obtain rfl : args = #[v0, v1, v2] := by cases args; simp_all
  obtain ⟨rfl, _⟩ := trodVars_none hV
  obtain ⟨fu0, hf0⟩ := h0
  obtain ⟨id0, par0, size0, ao0, n0, cp0, rs0, hc0, ha0⟩ := read_arch hf0
  obtain ⟨cs0, hv0⟩ := agg_at fs28 hval 0 rfl rfl
  have hv20 : v0 = .agg #[.int .u64 id0, .int .u64 par0, .int .u64 size0, .slice ao0 n0 cp0] := by
    subst hv0
    rw [val_agg] at hc0
    congr 1
    apply Array.ext'
    simpa using hc0
  subst hv20
  obtain ⟨i1, rfl, rfl, _, hw1⟩ := int_at Try.underlying3 hval 1 rfl rfl h1
  obtain ⟨i2, rfl, rfl, _, hw2⟩ := int_at Try.underlying5 hval 2 rfl rfl h2
  have hB := small_of hk
  simp only [List.append_nil, Rows.uptoBulkAll] at hB
  have hB0 : Rows.uptoBulk d0 ≤ 1048576 := by omega
  have hok0 := ha0.ok hB0
  have hle0 := ha0.le hB0
  have hbig0 := ha0.big hB0
  have hw2' := wf_int hw2
  have hm2 : 0 ≤ i2 ∧ i2 < 256 := by simp [IntKind.min, IntKind.max, IntKind.signed, IntKind.bits] at hw2'; omega
  have hwalk : CallOk Tb.P W [] 6 [.agg #[.int .u64 id0, .int .u64 par0, .int .u64 size0, .slice ao0 n0 cp0], .int .i64 i1, .int .u8 i2] fun u L' => u = .bool true ∧ L' = [] := by
    by_cases hm : May ⟨id0, par0, size0, pures rs0⟩
    · exact flip1 ha0.rd ha0.hn hle0 hok0 ha0.hid ha0.hpar ha0.hsz ha0.dt (by omega) hm hm2
    · exact flip0 ha0.rd ha0.hn hle0 hok0 ha0.hid ha0.hpar ha0.hsz ha0.dt (by omega) hm
  refine (CallOk.start (hwalk)).mono fun e W' ⟨u, L', he, hu, hbel⟩ => ?_
  obtain ⟨hu, _⟩ := hu
  subst he hu
  exact ⟨_, rfl, finish laidOut parOk rfl Try.underlying4 hW' rfl rfl rfl rfl hbel⟩
set_option maxRecDepth 100000 in
theorem lifted (os : Os) (started : os.Started) (H : Type) (enc : TypeId × Value → H) (F : Stop.Interp) :
    ReturnsInHanded {} Try.checked os 6 .any ((Rows.OpenSpec.upto Rows.backupFlipSpec).pre6 enc Try.prog Try.f6 Rows.backupFlipUptoRow.domain false) (((Rows.OpenSpec.upto Rows.backupFlipSpec).at F).post enc Try.prog Try.f6 false true false false) := by
  refine returnsInHanded_of_cond (C := Try.checked) (s := Rows.OpenSpec.upto Rows.backupFlipSpec) (k := Rows.uptoSmall) rfl own started (by kernel_rfl) Try.func6
    (OpenSpec.witness (enc := enc) (C := Try.checked) (s := Rows.OpenSpec.upto Rows.backupFlipSpec) (k := Rows.uptoSmall) rfl false ⟨#[], #[.agg #[.int .u64 0, .int .u64 0, .int .u64 0, .slice none 0 0], .int .i64 0, .int .u8 0], []⟩ 8 (by kernel_rfl) (by kernel_rfl) (by kernel_rfl)
      (x := ([.agg [.lit (.int .u64 0), .lit (.int .u64 0), .lit (.int .u64 0), .nil], .lit (.int .i64 0), .lit (.int .u8 0)], [], [])) (by kernel_rfl) rfl (by kernel_rfl)) ?_
  intro W base args ds gs before hval hW _ hk _
  exact contract H enc W base args ds gs before ⟨hval⟩ hW hk
/-- The statement. -/
theorem proved : Rows.BackupFlipUptoSaid :=
  OpenClaim.holds_of_cond 6 Try.f6 rfl rfl rfl rfl rfl rfl rfl ⟨rfl, rfl, rfl, rfl, rfl⟩ rfl rfl rfl rfl rfl (by kernel_rfl) Try.func6 (by kernel_rfl)
    (of_decide_eq_true (by kernel_rfl)) (by unfold Func.isWrapper; first | (rw [if_pos (by decide +kernel)]; kernel_rfl) | (rw [if_neg (by decide +kernel)]; exact ⟨rfl, rfl⟩))
    (fun os started H enc _ F => lifted os started H enc F)
#print axioms proved
end Go.Proofs.Ytllpfpdanonhkaa.backupFlip
