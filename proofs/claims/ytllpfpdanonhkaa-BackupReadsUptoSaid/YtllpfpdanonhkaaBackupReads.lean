/- The function BackupReads returns true, its argument read as before; where what it reads is of bulk at most 1048576. -/
import Derived.Test.YtllpfpdanonhkaaPlArg
import Derived.Test.YtllpfpdanonhkaaReads
namespace Go.Proofs.Ytllpfpdanonhkaa.backupReads
open Go.Sx Go.RowKit Go.ChangeShapes Go.WideShapes Go.ChangeAt Go.ChangeMaps
set_option linter.unusedVariables false
theorem own : ownKnob Try.prog.godebug = none := by kernel_rfl
theorem laidOut : laidOutB Try.prog = true := by kernel_rfl
theorem parOk : (Try.f5.params.toList.all fun t => Try.prog.readableRec t && decide (t < Try.prog.types.size)) = true := by kernel_rfl
theorem contract (H : Type) (enc : TypeId × Value → H) (W : World) (base : Nat) (args : Array Value) (ds gs : List (DataW H)) (before : List MemPlace)
    (hval : ArgsOk Try.prog W base Try.f5.params args)
    (hW : DataW.Whole enc Try.prog Try.f5.params.toList Rows.backupReadsSpec.vars false W args.toList ds gs before) (hk : Rows.uptoSmall H (ds ++ gs) = true) :
    Calls Try.prog 5 args W fun e W' => ∃ v, e = .returned v ∧ Rows.backupReadsSpec.post enc Try.prog Try.f5 false true false false W args v W' := by
  have hW' := hW
  obtain ⟨p, q, hA0, hV, hbef, hfz, hnd⟩ := hW
  have hA : DataW.TrodAll enc Try.prog W 0 (fun _ => true) true Try.f5.params.toList args.toList ds p := hA0
  rw [Try.params5] at hA hval
  obtain ⟨v0, vs0, d0, ds0, p0, q0, hargs, rfl, _, h0, r0⟩ := trodAll_cons hA
  obtain ⟨rfl, rfl, _⟩ := trodAll_nil r0
  obtain rfl : args = #[v0] := by cases args; simp_all
  obtain ⟨rfl, _⟩ := trodVars_none hV
  obtain ⟨fu0, hf0⟩ := h0
  have hone0 := one_at Tb.I23 hval 0 rfl rfl
  obtain ⟨ao0, n0, cp0, bs0, dl0, sp0, hc0, hn0, hcp0, hmx0, hb0, hy0, hdl0, hx0⟩ := trod_nums Tb.I23 Tb.I5 (cells_of Tb.S5) hf0
  obtain rfl := val_cells hc0 hone0
  have hk10 : Rows.uptoBulkAll dl0 + 1 ≤ Rows.uptoBulk d0 := bulk_slice hx0
  have hk20 := bulk_len dl0
  have hby0 := byt_of hy0
  have hB := small_of hk
  simp only [List.append_nil, Rows.uptoBulkAll] at hB
  have hl0 : bs0.length ≤ 1048576 := by omega
  have hwalk : CallOk Tb.P W [] 5 [.slice ao0 n0 cp0] fun u L' => u = .bool true ∧ L' = [] := by
    cases hd : dec bs0 with
    | inl e => exact reads0 hb0 hn0 hcp0 (by omega) hby0 hd
    | inr a => exact reads1 hb0 hn0 hcp0 (by omega) hby0 hd
  refine (CallOk.start (hwalk)).mono fun e W' ⟨u, L', he, hu, hbel⟩ => ?_
  obtain ⟨hu, _⟩ := hu
  subst he hu
  exact ⟨_, rfl, finish laidOut parOk rfl Try.underlying4 hW' rfl rfl rfl rfl hbel⟩
set_option maxRecDepth 100000 in
theorem lifted (os : Os) (started : os.Started) (H : Type) (enc : TypeId × Value → H) (F : Stop.Interp) :
    ReturnsInHanded {} Try.checked os 5 .any ((Rows.OpenSpec.upto Rows.backupReadsSpec).pre6 enc Try.prog Try.f5 Rows.backupReadsUptoRow.domain false) (((Rows.OpenSpec.upto Rows.backupReadsSpec).at F).post enc Try.prog Try.f5 false true false false) := by
  refine returnsInHanded_of_cond (C := Try.checked) (s := Rows.OpenSpec.upto Rows.backupReadsSpec) (k := Rows.uptoSmall) rfl own started (by kernel_rfl) Try.func5
    (OpenSpec.witness (enc := enc) (C := Try.checked) (s := Rows.OpenSpec.upto Rows.backupReadsSpec) (k := Rows.uptoSmall) rfl false ⟨#[], #[.slice none 0 0], []⟩ 8 (by kernel_rfl) (by kernel_rfl) (by kernel_rfl)
      (x := ([.nil], [], [])) (by kernel_rfl) rfl (by kernel_rfl)) ?_
  intro W base args ds gs before hval hW _ hk _
  exact contract H enc W base args ds gs before ⟨hval⟩ hW hk
/-- The statement. -/
theorem proved : Rows.BackupReadsUptoSaid :=
  OpenClaim.holds_of_cond 5 Try.f5 rfl rfl rfl rfl rfl rfl rfl ⟨rfl, rfl, rfl, rfl, rfl⟩ rfl rfl rfl rfl rfl (by kernel_rfl) Try.func5 (by kernel_rfl)
    (of_decide_eq_true (by kernel_rfl)) (by unfold Func.isWrapper; first | (rw [if_pos (by decide +kernel)]; kernel_rfl) | (rw [if_neg (by decide +kernel)]; exact ⟨rfl, rfl⟩))
    (fun os started H enc _ F => lifted os started H enc F)
#print axioms proved
end Go.Proofs.Ytllpfpdanonhkaa.backupReads
