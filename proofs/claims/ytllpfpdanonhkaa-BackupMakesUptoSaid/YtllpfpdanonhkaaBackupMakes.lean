/- The function BackupMakes returns true, its arguments read as before; where what it reads is of bulk at most 1048576. -/
import Derived.Test.YtllpfpdanonhkaaPlArg2
import Derived.Test.YtllpfpdanonhkaaMakes
namespace Go.Proofs.Ytllpfpdanonhkaa.backupMakes
open Go.Sx Go.RowKit Go.ChangeShapes Go.WideShapes Go.ChangeAt Go.ChangeMaps
set_option linter.unusedVariables false
theorem own : ownKnob Try.prog.godebug = none := by kernel_rfl
theorem laidOut : laidOutB Try.prog = true := by kernel_rfl
theorem parOk : (Try.f3.params.toList.all fun t => Try.prog.readableRec t && decide (t < Try.prog.types.size)) = true := by kernel_rfl
theorem contract (H : Type) (enc : TypeId × Value → H) (W : World) (base : Nat) (args : Array Value) (ds gs : List (DataW H)) (before : List MemPlace)
    (hval : ArgsOk Try.prog W base Try.f3.params args)
    (hW : DataW.Whole enc Try.prog Try.f3.params.toList Rows.backupMakesSpec.vars false W args.toList ds gs before) (hk : Rows.uptoSmall H (ds ++ gs) = true) :
    Calls Try.prog 3 args W fun e W' => ∃ v, e = .returned v ∧ Rows.backupMakesSpec.post enc Try.prog Try.f3 false true false false W args v W' := by
  have hW' := hW
  obtain ⟨p, q, hA0, hV, hbef, hfz, hnd⟩ := hW
  have hA : DataW.TrodAll enc Try.prog W 0 (fun _ => true) true Try.f3.params.toList args.toList ds p := hA0
  rw [Try.params3] at hA hval
  obtain ⟨v0, vs0, d0, ds0, p0, q0, hargs, rfl, _, h0, r0⟩ := trodAll_cons hA
  obtain ⟨v1, vs1, d1, ds1, p1, q1, rfl, rfl, _, h1, r1⟩ := trodAll_cons r0
  obtain ⟨v2, vs2, d2, ds2, p2, q2, rfl, rfl, _, h2, r2⟩ := trodAll_cons r1
  obtain ⟨v3, vs3, d3, ds3, p3, q3, rfl, rfl, _, h3, r3⟩ := trodAll_cons r2
  obtain ⟨rfl, rfl, _⟩ := trodAll_nil r3
  obtain rfl : args = #[v0, v1, v2, v3] := by cases args; simp_all
  obtain ⟨rfl, _⟩ := trodVars_none hV
  obtain ⟨i0, rfl, rfl, _, hw0⟩ := int_at Try.underlying22 hval 0 rfl rfl h0
  have hu0 := u64_of hw0
  obtain ⟨i1, rfl, rfl, _, hw1⟩ := int_at Try.underlying22 hval 1 rfl rfl h1
  have hu1 := u64_of hw1
  obtain ⟨fu2, hf2⟩ := h2
  have hone2 := one_at Tb.I23 hval 2 rfl rfl
  obtain ⟨ao2, n2, cp2, bs2, dl2, sp2, hc2, hn2, hcp2, hmx2, hb2, hy2, hdl2, hx2⟩ := trod_nums Tb.I23 Tb.I5 (cells_of Tb.S5) hf2
  obtain rfl := val_cells hc2 hone2
  have hk12 : Rows.uptoBulkAll dl2 + 1 ≤ Rows.uptoBulk d2 := bulk_slice hx2
  have hk22 := bulk_len dl2
  have hby2 := byt_of hy2
  obtain ⟨fu3, hf3⟩ := h3
  have hone3 := one_at Tb.I24 hval 3 rfl rfl
  obtain ⟨ao3, n3, cp3, l3, hc3, hn3, hcp3, hl3, hok3, hbu3⟩ := read_ext hf3
  have hbu23 : l3.length + 1 ≤ Rows.uptoBulk d3 := hbu3
  obtain rfl := val_cells hc3 hone3
  have hB := small_of hk
  simp only [List.append_nil, Rows.uptoBulkAll] at hB
  have hl9 : bs2.length ≤ 1048576 := by omega
  refine (CallOk.start (makes hu0 hu1 hb2 hn2 hcp2 (by omega) hby2 hl3 hn3 (by omega) hok3)).mono fun e W' ⟨u, L', he, hu, hbel⟩ => ?_
  obtain ⟨hu, _⟩ := hu
  subst he hu
  exact ⟨_, rfl, finish laidOut parOk rfl Try.underlying4 hW' rfl rfl rfl rfl hbel⟩
set_option maxRecDepth 100000 in
theorem lifted (os : Os) (started : os.Started) (H : Type) (enc : TypeId × Value → H) (F : Stop.Interp) :
    ReturnsInHanded {} Try.checked os 3 .any ((Rows.OpenSpec.upto Rows.backupMakesSpec).pre6 enc Try.prog Try.f3 Rows.backupMakesUptoRow.domain false) (((Rows.OpenSpec.upto Rows.backupMakesSpec).at F).post enc Try.prog Try.f3 false true false false) := by
  refine returnsInHanded_of_cond (C := Try.checked) (s := Rows.OpenSpec.upto Rows.backupMakesSpec) (k := Rows.uptoSmall) rfl own started (by kernel_rfl) Try.func3
    (OpenSpec.witness (enc := enc) (C := Try.checked) (s := Rows.OpenSpec.upto Rows.backupMakesSpec) (k := Rows.uptoSmall) rfl false ⟨#[], #[.int .u64 0, .int .u64 0, .slice none 0 0, .slice none 0 0], []⟩ 8 (by kernel_rfl) (by kernel_rfl) (by kernel_rfl)
      (x := ([.lit (.int .u64 0), .lit (.int .u64 0), .nil, .nil], [], [])) (by kernel_rfl) rfl (by kernel_rfl)) ?_
  intro W base args ds gs before hval hW _ hk _
  exact contract H enc W base args ds gs before ⟨hval⟩ hW hk
/-- The statement. -/
theorem proved : Rows.BackupMakesUptoSaid :=
  OpenClaim.holds_of_cond 3 Try.f3 rfl rfl rfl rfl rfl rfl rfl ⟨rfl, rfl, rfl, rfl, rfl⟩ rfl rfl rfl rfl rfl (by kernel_rfl) Try.func3 (by kernel_rfl)
    (of_decide_eq_true (by kernel_rfl)) (by unfold Func.isWrapper; first | (rw [if_pos (by decide +kernel)]; kernel_rfl) | (rw [if_neg (by decide +kernel)]; exact ⟨rfl, rfl⟩))
    (fun os started H enc _ F => lifted os started H enc F)
#print axioms proved
end Go.Proofs.Ytllpfpdanonhkaa.backupMakes
