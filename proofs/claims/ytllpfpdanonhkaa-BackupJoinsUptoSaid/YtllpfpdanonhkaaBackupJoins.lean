/- The function BackupJoins returns true, its arguments read as before; where what it reads is of bulk at most 1048576. -/
import Derived.Test.YtllpfpdanonhkaaPlArg2
import Derived.Test.YtllpfpdanonhkaaJoins
namespace Go.Proofs.Ytllpfpdanonhkaa.backupJoins
open Go.Sx Go.RowKit Go.ChangeShapes Go.WideShapes Go.ChangeAt Go.ChangeMaps
set_option linter.unusedVariables false
theorem own : ownKnob Try.prog.godebug = none := by kernel_rfl
theorem laidOut : laidOutB Try.prog = true := by kernel_rfl
theorem parOk : (Try.f8.params.toList.all fun t => Try.prog.readableRec t && decide (t < Try.prog.types.size)) = true := by kernel_rfl
theorem contract (H : Type) (enc : TypeId × Value → H) (W : World) (base : Nat) (args : Array Value) (ds gs : List (DataW H)) (before : List MemPlace)
    (hval : ArgsOk Try.prog W base Try.f8.params args)
    (hW : DataW.Whole enc Try.prog Try.f8.params.toList Rows.backupJoinsSpec.vars false W args.toList ds gs before) (hk : Rows.uptoSmall H (ds ++ gs) = true) :
    Calls Try.prog 8 args W fun e W' => ∃ v, e = .returned v ∧ Rows.backupJoinsSpec.post enc Try.prog Try.f8 false true false false W args v W' := by
  have hW' := hW
  obtain ⟨p, q, hA0, hV, hbef, hfz, hnd⟩ := hW
  have hA : DataW.TrodAll enc Try.prog W 0 (fun _ => true) true Try.f8.params.toList args.toList ds p := hA0
  rw [Try.params8] at hA hval
  obtain ⟨v0, vs0, d0, ds0, p0, q0, hargs, rfl, _, h0, r0⟩ := trodAll_cons hA
  obtain ⟨v1, vs1, d1, ds1, p1, q1, rfl, rfl, _, h1, r1⟩ := trodAll_cons r0
  obtain ⟨rfl, rfl, _⟩ := trodAll_nil r1
  obtain rfl : args = #[v0, v1] := by cases args; simp_all
  obtain ⟨rfl, _⟩ := trodVars_none hV
  obtain ⟨fu0, hf0⟩ := h0
  obtain ⟨id0, par0, size0, ao0, n0, cp0, rs0, hc0, ha0⟩ := read_arch hf0
  obtain ⟨cs0, hv0⟩ := agg_at fs28 hval 0 rfl rfl
  have hv20 : v0 = .agg #[.int .u64 id0, .int .u64 par0, .int .u64 size0, .slice ao0 n0 cp0] := by
    subst hv0
    rw [val_agg] at hc0
    congr 1
    apply Array.ext'
    simpa using hc0
  subst hv20
  obtain ⟨fu1, hf1⟩ := h1
  obtain ⟨id1, par1, size1, ao1, n1, cp1, rs1, hc1, ha1⟩ := read_arch hf1
  obtain ⟨cs1, hv1⟩ := agg_at fs28 hval 1 rfl rfl
  have hv21 : v1 = .agg #[.int .u64 id1, .int .u64 par1, .int .u64 size1, .slice ao1 n1 cp1] := by
    subst hv1
    rw [val_agg] at hc1
    congr 1
    apply Array.ext'
    simpa using hc1
  subst hv21
  have hB := small_of hk
  simp only [List.append_nil, Rows.uptoBulkAll] at hB
  have hB0 : Rows.uptoBulk d0 ≤ 1048576 := by omega
  obtain rfl := ha0.hn
  have ho0 : AvOk ⟨id0, par0, size0, ao0, cp0, rs0⟩ := avOk_arg hB0 ha0
  have hr0 : RdA W [] ⟨id0, par0, size0, ao0, cp0, rs0⟩ := ⟨ha0.rd, ha0.dt⟩
  have hz0 : rs0.length ≤ 1048576 := by
    have h1 : (rs0.map fun r : RV => r.1.data.length + 5).sum + 5 ≤ Rows.uptoBulk d0 := ha0.bulk
    have h2 := sum_len (f := fun r : RV => r.1.data.length + 5) (c := 5) (l := rs0) (fun a _ => by omega)
    omega
  have hB1 : Rows.uptoBulk d1 ≤ 1048576 := by omega
  obtain rfl := ha1.hn
  have ho1 : AvOk ⟨id1, par1, size1, ao1, cp1, rs1⟩ := avOk_arg hB1 ha1
  have hr1 : RdA W [] ⟨id1, par1, size1, ao1, cp1, rs1⟩ := ⟨ha1.rd, ha1.dt⟩
  have hz1 : rs1.length ≤ 1048576 := by
    have h1 : (rs1.map fun r : RV => r.1.data.length + 5).sum + 5 ≤ Rows.uptoBulk d1 := ha1.bulk
    have h2 := sum_len (f := fun r : RV => r.1.data.length + 5) (c := 5) (l := rs1) (fun a _ => by omega)
    omega
  refine (CallOk.start (joinsL (x := ⟨id0, par0, size0, ao0, cp0, rs0⟩) (y := ⟨id1, par1, size1, ao1, cp1, rs1⟩) ho0 ho1 hr0 hr1 hz0 hz1)).mono fun e W' ⟨u, L', he, hu, hbel⟩ => ?_
  obtain ⟨hu, _⟩ := hu
  subst he hu
  exact ⟨_, rfl, finish laidOut parOk rfl Try.underlying4 hW' rfl rfl rfl rfl hbel⟩
set_option maxRecDepth 100000 in
theorem lifted (os : Os) (started : os.Started) (H : Type) (enc : TypeId × Value → H) (F : Stop.Interp) :
    ReturnsInHanded {} Try.checked os 8 .any ((Rows.OpenSpec.upto Rows.backupJoinsSpec).pre6 enc Try.prog Try.f8 Rows.backupJoinsUptoRow.domain false) (((Rows.OpenSpec.upto Rows.backupJoinsSpec).at F).post enc Try.prog Try.f8 false true false false) := by
  refine returnsInHanded_of_cond (C := Try.checked) (s := Rows.OpenSpec.upto Rows.backupJoinsSpec) (k := Rows.uptoSmall) rfl own started (by kernel_rfl) Try.func8
    (OpenSpec.witness (enc := enc) (C := Try.checked) (s := Rows.OpenSpec.upto Rows.backupJoinsSpec) (k := Rows.uptoSmall) rfl false ⟨#[], #[.agg #[.int .u64 0, .int .u64 0, .int .u64 0, .slice none 0 0], .agg #[.int .u64 0, .int .u64 0, .int .u64 0, .slice none 0 0]], []⟩ 8 (by kernel_rfl) (by kernel_rfl) (by kernel_rfl)
      (x := ([.agg [.lit (.int .u64 0), .lit (.int .u64 0), .lit (.int .u64 0), .nil], .agg [.lit (.int .u64 0), .lit (.int .u64 0), .lit (.int .u64 0), .nil]], [], [])) (by kernel_rfl) rfl (by kernel_rfl)) ?_
  intro W base args ds gs before hval hW _ hk _
  exact contract H enc W base args ds gs before ⟨hval⟩ hW hk
/-- The statement. -/
theorem proved : Rows.BackupJoinsUptoSaid :=
  OpenClaim.holds_of_cond 8 Try.f8 rfl rfl rfl rfl rfl rfl rfl ⟨rfl, rfl, rfl, rfl, rfl⟩ rfl rfl rfl rfl rfl (by kernel_rfl) Try.func8 (by kernel_rfl)
    (of_decide_eq_true (by kernel_rfl)) (by unfold Func.isWrapper; first | (rw [if_pos (by decide +kernel)]; kernel_rfl) | (rw [if_neg (by decide +kernel)]; exact ⟨rfl, rfl⟩))
    (fun os started H enc _ F => lifted os started H enc F)
#print axioms proved
end Go.Proofs.Ytllpfpdanonhkaa.backupJoins
