/- The function BackupRestores returns true, its argument read as before; where what it reads is of bulk at most 1048576. -/
import Derived.Test.YtllpfpdanonhkaaPlArg2
namespace Go.Proofs.Ytllpfpdanonhkaa.backupRestores
open Go.Sx Go.RowKit Go.ChangeShapes Go.WideShapes Go.ChangeAt Go.ChangeMaps
set_option linter.unusedVariables false
theorem own : ownKnob Try.prog.godebug = none := by kernel_rfl
theorem laidOut : laidOutB Try.prog = true := by kernel_rfl
theorem parOk : (Try.f7.params.toList.all fun t => Try.prog.readableRec t && decide (t < Try.prog.types.size)) = true := by kernel_rfl
theorem contract (H : Type) (enc : TypeId × Value → H) (W : World) (base : Nat) (args : Array Value) (ds gs : List (DataW H)) (before : List MemPlace)
    (hval : ArgsOk Try.prog W base Try.f7.params args)
    (hW : DataW.Whole enc Try.prog Try.f7.params.toList Rows.backupRestoresSpec.vars false W args.toList ds gs before) (hk : Rows.uptoSmall H (ds ++ gs) = true) :
    Calls Try.prog 7 args W fun e W' => ∃ v, e = .returned v ∧ Rows.backupRestoresSpec.post enc Try.prog Try.f7 false true false false W args v W' := by
  have hW' := hW
  obtain ⟨p, q, hA0, hV, hbef, hfz, hnd⟩ := hW
  have hA : DataW.TrodAll enc Try.prog W 0 (fun _ => true) true Try.f7.params.toList args.toList ds p := hA0
  rw [Try.params7] at hA hval
  obtain ⟨v0, vs0, d0, ds0, p0, q0, hargs, rfl, _, h0, r0⟩ := trodAll_cons hA
  obtain ⟨rfl, rfl, _⟩ := trodAll_nil r0
  obtain rfl : args = #[v0] := by cases args; simp_all
  obtain ⟨rfl, _⟩ := trodVars_none hV
  obtain ⟨fu0, hf0⟩ := h0
  have hone0 := one_at Tb.I53 hval 0 rfl rfl
  obtain ⟨ao0, n0, cp0, l0, hc0, hn0, hl0, hA0, hbu0⟩ := read_chain hf0
  have hbu20 : l0.length + 1 ≤ Rows.uptoBulk d0 := hbu0
  have hA20 : ∀ v ∈ l0, ∃ B, B ≤ Rows.uptoBulk d0 ∧ ArgA W v.id v.par v.size v.ao v.rs.length v.cp v.rs B := hA0
  obtain rfl := val_cells hc0 hone0
  have hB := small_of hk
  simp only [List.append_nil, Rows.uptoBulkAll] at hB
  have hok0 : ∀ v ∈ l0, AvOk v := fun v hv => by
    obtain ⟨B, h1, h2⟩ := hA20 v hv
    exact avOk_arg (by omega) h2
  have hrd0 : ∀ v ∈ l0, RdA W [] v := fun v hv => by
    obtain ⟨B, h1, h2⟩ := hA20 v hv
    exact ⟨h2.hr, h2.hdt⟩
  refine (CallOk.start (restores hl0 hn0 (by omega) hok0 hrd0)).mono fun e W' ⟨u, L', he, hu, hbel⟩ => ?_
  obtain ⟨hu, _⟩ := hu
  subst he hu
  exact ⟨_, rfl, finish laidOut parOk rfl Try.underlying4 hW' rfl rfl rfl rfl hbel⟩
set_option maxRecDepth 100000 in
theorem lifted (os : Os) (started : os.Started) (H : Type) (enc : TypeId × Value → H) (F : Stop.Interp) :
    ReturnsInHanded {} Try.checked os 7 .any ((Rows.OpenSpec.upto Rows.backupRestoresSpec).pre6 enc Try.prog Try.f7 Rows.backupRestoresUptoRow.domain false) (((Rows.OpenSpec.upto Rows.backupRestoresSpec).at F).post enc Try.prog Try.f7 false true false false) := by
  refine returnsInHanded_of_cond (C := Try.checked) (s := Rows.OpenSpec.upto Rows.backupRestoresSpec) (k := Rows.uptoSmall) rfl own started (by kernel_rfl) Try.func7
    (OpenSpec.witness (enc := enc) (C := Try.checked) (s := Rows.OpenSpec.upto Rows.backupRestoresSpec) (k := Rows.uptoSmall) rfl false ⟨#[], #[.slice none 0 0], []⟩ 8 (by kernel_rfl) (by kernel_rfl) (by kernel_rfl)
      (x := ([.nil], [], [])) (by kernel_rfl) rfl (by kernel_rfl)) ?_
  intro W base args ds gs before hval hW _ hk _
  exact contract H enc W base args ds gs before ⟨hval⟩ hW hk
/-- The statement. -/
theorem proved : Rows.BackupRestoresUptoSaid :=
  OpenClaim.holds_of_cond 7 Try.f7 rfl rfl rfl rfl rfl rfl rfl ⟨rfl, rfl, rfl, rfl, rfl⟩ rfl rfl rfl rfl rfl (by kernel_rfl) Try.func7 (by kernel_rfl)
    (of_decide_eq_true (by kernel_rfl)) (by unfold Func.isWrapper; first | (rw [if_pos (by decide +kernel)]; kernel_rfl) | (rw [if_neg (by decide +kernel)]; exact ⟨rfl, rfl⟩))
    (fun os started H enc _ F => lifted os started H enc F)
#print axioms proved
end Go.Proofs.Ytllpfpdanonhkaa.backupRestores
