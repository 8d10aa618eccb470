/- The function BackupChecks returns true, its argument read as before; where what it reads is of bulk at most 1048576. -/
import Derived.Test.YtllpfpdanonhkaaPlArg
import Derived.Test.YtllpfpdanonhkaaChecks
namespace Go.Proofs.Ytllpfpdanonhkaa.backupChecks
open Go.Sx Go.RowKit Go.ChangeShapes Go.WideShapes Go.ChangeAt Go.ChangeMaps
set_option linter.unusedVariables false
theorem own : ownKnob Try.prog.godebug = none := by kernel_rfl
theorem laidOut : laidOutB Try.prog = true := by kernel_rfl
theorem parOk : (Try.f10.params.toList.all fun t => Try.prog.readableRec t && decide (t < Try.prog.types.size)) = true := by kernel_rfl
theorem contract (H : Type) (enc : TypeId × Value → H) (W : World) (base : Nat) (args : Array Value) (ds gs : List (DataW H)) (before : List MemPlace)
    (hval : ArgsOk Try.prog W base Try.f10.params args)
    (hW : DataW.Whole enc Try.prog Try.f10.params.toList Rows.backupChecksSpec.vars false W args.toList ds gs before) (hk : Rows.uptoSmall H (ds ++ gs) = true) :
    Calls Try.prog 10 args W fun e W' => ∃ v, e = .returned v ∧ Rows.backupChecksSpec.post enc Try.prog Try.f10 false true false false W args v W' := by
  have hW' := hW
  obtain ⟨p, q, hA0, hV, hbef, hfz, hnd⟩ := hW
  have hA : DataW.TrodAll enc Try.prog W 0 (fun _ => true) true Try.f10.params.toList args.toList ds p := hA0
  rw [Try.params10] at hA hval
  obtain ⟨v0, vs0, d0, ds0, p0, q0, hargs, rfl, _, h0, r0⟩ := trodAll_cons hA
  obtain ⟨rfl, rfl, _⟩ := trodAll_nil r0
  obtain rfl : args = #[v0] := by cases args; simp_all
  obtain ⟨rfl, _⟩ := trodVars_none hV
  obtain ⟨fu0, hf0⟩ := h0
  obtain ⟨id0, par0, size0, ao0, n0, cp0, rs0, hc0, ha0⟩ := read_arch hf0
  obtain ⟨cs0, hv0⟩ := agg_at fs28 hval 0 rfl rfl
  have hv20 : v0 = .agg #[.int .u64 id0, .int .u64 par0, .int .u64 size0, .slice ao0 n0 cp0] := by
    subst hv0
    rw [val_agg] at hc0
    congr 1
    apply Array.ext'
    simpa using hc0
  subst hv20
  have hB := small_of hk
  simp only [List.append_nil, Rows.uptoBulkAll] at hB
  have hB0 : Rows.uptoBulk d0 ≤ 1048576 := by omega
  have hok0 := ha0.ok hB0
  have hle0 := ha0.le hB0
  have hbig0 := ha0.big hB0
  refine (CallOk.start (checks ha0.rd ha0.hn hle0 hok0 ha0.hid ha0.hpar ha0.hsz ha0.dt)).mono fun e W' ⟨u, L', he, hu, hbel⟩ => ?_
  obtain ⟨hu, _⟩ := hu
  subst he hu
  exact ⟨_, rfl, finish laidOut parOk rfl Try.underlying4 hW' rfl rfl rfl rfl hbel⟩
set_option maxRecDepth 100000 in
theorem lifted (os : Os) (started : os.Started) (H : Type) (enc : TypeId × Value → H) (F : Stop.Interp) :
    ReturnsInHanded {} Try.checked os 10 .any ((Rows.OpenSpec.upto Rows.backupChecksSpec).pre6 enc Try.prog Try.f10 Rows.backupChecksUptoRow.domain false) (((Rows.OpenSpec.upto Rows.backupChecksSpec).at F).post enc Try.prog Try.f10 false true false false) := by
  refine returnsInHanded_of_cond (C := Try.checked) (s := Rows.OpenSpec.upto Rows.backupChecksSpec) (k := Rows.uptoSmall) rfl own started (by kernel_rfl) Try.func10
    (OpenSpec.witness (enc := enc) (C := Try.checked) (s := Rows.OpenSpec.upto Rows.backupChecksSpec) (k := Rows.uptoSmall) rfl false ⟨#[], #[.agg #[.int .u64 0, .int .u64 0, .int .u64 0, .slice none 0 0]], []⟩ 8 (by kernel_rfl) (by kernel_rfl) (by kernel_rfl)
      (x := ([.agg [.lit (.int .u64 0), .lit (.int .u64 0), .lit (.int .u64 0), .nil]], [], [])) (by kernel_rfl) rfl (by kernel_rfl)) ?_
  intro W base args ds gs before hval hW _ hk _
  exact contract H enc W base args ds gs before ⟨hval⟩ hW hk
/-- The statement. -/
theorem proved : Rows.BackupChecksUptoSaid :=
  OpenClaim.holds_of_cond 10 Try.f10 rfl rfl rfl rfl rfl rfl rfl ⟨rfl, rfl, rfl, rfl, rfl⟩ rfl rfl rfl rfl rfl (by kernel_rfl) Try.func10 (by kernel_rfl)
    (of_decide_eq_true (by kernel_rfl)) (by unfold Func.isWrapper; first | (rw [if_pos (by decide +kernel)]; kernel_rfl) | (rw [if_neg (by decide +kernel)]; exact ⟨rfl, rfl⟩))
    (fun os started H enc _ F => lifted os started H enc F)
#print axioms proved
end Go.Proofs.Ytllpfpdanonhkaa.backupChecks
