/- The function BackupChain returns true, its arguments read as before; where what it reads is of bulk at most 1048576. -/
import Derived.Test.YtllpfpdanonhkaaChain
namespace Go.Proofs.Ytllpfpdanonhkaa.backupChain
open Go.Sx Go.RowKit Go.ChangeShapes Go.WideShapes Go.ChangeAt Go.ChangeMaps
set_option linter.unusedVariables false
theorem own : ownKnob Try.prog.godebug = none := by kernel_rfl
theorem laidOut : laidOutB Try.prog = true := by kernel_rfl
theorem parOk : (Try.f9.params.toList.all fun t => Try.prog.readableRec t && decide (t < Try.prog.types.size)) = true := by kernel_rfl
theorem contract (H : Type) (enc : TypeId × Value → H) (W : World) (base : Nat) (args : Array Value) (ds gs : List (DataW H)) (before : List MemPlace)
    (hval : ArgsOk Try.prog W base Try.f9.params args)
    (hW : DataW.Whole enc Try.prog Try.f9.params.toList Rows.backupChainSpec.vars false W args.toList ds gs before) (hk : Rows.uptoSmall H (ds ++ gs) = true) :
    Calls Try.prog 9 args W fun e W' => ∃ v, e = .returned v ∧ Rows.backupChainSpec.post enc Try.prog Try.f9 false true false false W args v W' := by
  have hW' := hW
  obtain ⟨p, q, hA0, hV, hbef, hfz, hnd⟩ := hW
  have hA : DataW.TrodAll enc Try.prog W 0 (fun _ => true) true Try.f9.params.toList args.toList ds p := hA0
  rw [Try.params9] at hA hval
  obtain ⟨v0, vs0, d0, ds0, p0, q0, hargs, rfl, _, h0, r0⟩ := trodAll_cons hA
  obtain ⟨v1, vs1, d1, ds1, p1, q1, rfl, rfl, _, h1, r1⟩ := trodAll_cons r0
  obtain ⟨rfl, rfl, _⟩ := trodAll_nil r1
  obtain rfl : args = #[v0, v1] := by cases args; simp_all
  obtain ⟨rfl, _⟩ := trodVars_none hV
  obtain ⟨fu0, hf0⟩ := h0
  have hone0 := one_at Tb.I62 hval 0 rfl rfl
  obtain ⟨ao0, n0, cp0, l0, hc0, hn0, hl0, hA0, hbu0⟩ := read_states hf0
  have hbu20 : l0.length + 1 ≤ Rows.uptoBulk d0 := hbu0
  have hA20 : ∀ v ∈ l0, RdSt W [] v ∧ Byt v.b ∧ v.b.length ≤ v.bc ∧ v.b.length + v.h.length ≤ Rows.uptoBulk d0 := hA0
  obtain rfl := val_cells hc0 hone0
  obtain ⟨i1, rfl, rfl, _, hw1⟩ := int_at Try.underlying3 hval 1 rfl rfl h1
  have hB := small_of hk
  simp only [List.append_nil, Rows.uptoBulkAll] at hB
  have hok0 : ∀ v ∈ l0, StOk v := fun v hv => by
    obtain ⟨_, h2, h3, h4⟩ := hA20 v hv
    exact ⟨h2, h3, by omega, by omega⟩
  have hw1' := wf_int hw1
  have hm1 : -9223372036854775808 ≤ i1 ∧ i1 < 9223372036854775808 := by simp [IntKind.min, IntKind.max, IntKind.signed, IntKind.bits] at hw1'; omega
  refine (CallOk.start (chainL hl0 hn0 (by omega) hok0 (fun v hv => (hA20 v hv).1) hm1)).mono fun e W' ⟨u, L', he, hu, hbel⟩ => ?_
  obtain ⟨hu, _⟩ := hu
  subst he hu
  exact ⟨_, rfl, finish laidOut parOk rfl Try.underlying4 hW' rfl rfl rfl rfl hbel⟩
set_option maxRecDepth 100000 in
theorem lifted (os : Os) (started : os.Started) (H : Type) (enc : TypeId × Value → H) (F : Stop.Interp) :
    ReturnsInHanded {} Try.checked os 9 .any ((Rows.OpenSpec.upto Rows.backupChainSpec).pre6 enc Try.prog Try.f9 Rows.backupChainUptoRow.domain false) (((Rows.OpenSpec.upto Rows.backupChainSpec).at F).post enc Try.prog Try.f9 false true false false) := by
  refine returnsInHanded_of_cond (C := Try.checked) (s := Rows.OpenSpec.upto Rows.backupChainSpec) (k := Rows.uptoSmall) rfl own started (by kernel_rfl) Try.func9
    (OpenSpec.witness (enc := enc) (C := Try.checked) (s := Rows.OpenSpec.upto Rows.backupChainSpec) (k := Rows.uptoSmall) rfl false ⟨#[], #[.slice none 0 0, .int .i64 0], []⟩ 8 (by kernel_rfl) (by kernel_rfl) (by kernel_rfl)
      (x := ([.nil, .lit (.int .i64 0)], [], [])) (by kernel_rfl) rfl (by kernel_rfl)) ?_
  intro W base args ds gs before hval hW _ hk _
  exact contract H enc W base args ds gs before ⟨hval⟩ hW hk
/-- The statement. -/
theorem proved : Rows.BackupChainUptoSaid :=
  OpenClaim.holds_of_cond 9 Try.f9 rfl rfl rfl rfl rfl rfl rfl ⟨rfl, rfl, rfl, rfl, rfl⟩ rfl rfl rfl rfl rfl (by kernel_rfl) Try.func9 (by kernel_rfl)
    (of_decide_eq_true (by kernel_rfl)) (by unfold Func.isWrapper; first | (rw [if_pos (by decide +kernel)]; kernel_rfl) | (rw [if_neg (by decide +kernel)]; exact ⟨rfl, rfl⟩))
    (fun os started H enc _ F => lifted os started H enc F)
#print axioms proved
end Go.Proofs.Ytllpfpdanonhkaa.backupChain
