/- Walks: the normal list of ranges (extent.Normal), what an archive changes, and the law of both (BackupChecks). No condition. -/
import Derived.Test.YtllpfpdanonhkaaPlRange
import Derived.Test.YtllpfpdanonhkaaWrites
import Derived.Test.YtllpfpdanonhkaaSxEqS
set_option maxRecDepth 8000
set_option maxHeartbeats 4000000
set_option linter.unusedVariables false
set_option linter.unusedSimpArgs false
namespace Go.Proofs.Ytllpfpdanonhkaa
open Go.Sx Go.RowKit

theorem eqs73 : eqsB Tb.P 73 = some [(2, 0), (2, 1)] := by kernel_rfl
open Classical in
noncomputable def chgA (a : Ar) : List (Int × Int) := if May a then chgG (a.runs.map rgR) else []
theorem chgA_not {a : Ar} (h : ¬ May a) : chgA a = [] := by unfold chgA; rw [if_neg h]
theorem chgA_may {a : Ar} (h : May a) : chgA a = chgG (a.runs.map rgR) := by unfold chgA; rw [if_pos h]
theorem chgA_len {a : Ar} : (chgA a).length ≤ a.runs.length := by
  by_cases h : May a
  · rw [chgA_may h]; have := chgG_len (l := a.runs.map rgR); simpa using this
  · rw [chgA_not h]; exact Nat.zero_le _
theorem may_runs {a : Ar} (hl : ∀ r ∈ a.runs, 0 ≤ r.len) (h : May a) : ∀ r ∈ a.runs, 0 ≤ r.off ∧ 0 ≤ r.len ∧ r.off + r.len ≤ 33554432 := fun r hr => by
  obtain ⟨h1, h2, h3, _⟩ := MayGo_mem hl (Int.le_refl _) h.2.2.2.2 r hr
  have := h.2.2.2.1
  exact ⟨h1, h2, by omega⟩

theorem normal_ {w0 : World} {L : List HP} {ao : Option Addr} {n cp : Nat} {l : List (Int × Int)} (hl : RdS w0 L 2 ao (l.map cellsG)) (hn : n = l.length) (hle : n ≤ 1099511627776) :
    CallOk Tb.P w0 L 58 [.slice ao n cp] fun u L' => ∃ l' ao' cp', SortOf (keepG l) l' ∧ (Els 2 ((nrmG l').map cellsG) ∧ ((nrmG l').map cellsG = [] ∨ ∃ a, ao' = some a) ∧ (∀ a, ao' = some a → a.spot = none)) ∧ u = .slice ao' (nrmG l').length cp' ∧ L' = row 73 2 ao' cp' ((nrmG l').map cellsG) :: L := by
  refine enter Try.func58 rfl Try.ntmps58 (Nat.le_of_ble_eq_true rfl) ?_
  refine At.seq ?_
  refine At.reg rfl ?_
  refine Run.as (h := ?_)
  refine Run.fin ?_
  refine At.seq ?_
  refine At.reg rfl ?_
  refine Run.al Tb.Z69 (h := fun g3 => ?_)
  refine Run.fin ?_
  refine At.seq ?_
  refine At.seq ?_
  refine At.reg rfl ?_
  refine Run.mv (h := ?_)
  refine Run.len Tb.L69 (h := ?_)
  refine Run.mv (h := ?_)
  refine Run.fin ?_
  refine At.block ?_
  refine At.chunks (fun _ hf => Star.nilRow (e := 73) (sz := 2) hf) ?_
  refine At.loop (α := Nat × List (Int × Int) × Option Addr × Nat) (fun x => ⟨[(0, .slice ao n cp), (3, .pointer (some ⟨g3, 0, none⟩)), (10, .slice ao n cp), (11, .int .i64 (n : Nat)), (12, .int .i64 (x.1 : Nat))], row 73 2 x.2.2.1 x.2.2.2 ((x.2.1).map cellsG) :: cel g3 69 [.slice x.2.2.1 x.2.1.length x.2.2.2] :: L, []⟩) (fun x => x.1 ≤ n ∧ x.2.1 = keepG (l.take x.1)) (fun x => n - x.1) ((0, [], none, 0)) (⟨Nat.zero_le _, rfl⟩) (Ent.of (by repeat (first | exact SubE.nil | refine SubE.cons (by first | rfl | (show some _ = some _; simp; done)) ?_)) (by repeat (first | exact SubL.refl | refine SubL.cons (by repeat (first | exact Pick.here | apply Pick.there)) ?_ | refine SubL.skip ?_ | exact SubL.nil))) (fun x hx => ?_)
  obtain ⟨k, c, a1, c1⟩ := x
  dsimp only at hx ⊢
  obtain ⟨hk, hc⟩ := hx
  have hcl : c.length ≤ k := by rw [hc]; exact keepG_len
  refine At.seq ?_
  refine At.reg rfl ?_
  refine Run.lt (h := ?_)
  refine Run.fin ?_
  refine At.seq ?_
  refine At.cnd' (ht := fun hc13 => ?_) (hf := fun hc13 => ?_)
  · skip
    have hvk : l[k]? = some (l.getD k (0, 0)) := by rw [List.getD, List.getElem?_eq_getElem (show k < l.length by omega)]; rfl
    refine At.skip ?_
    refine At.seq ?_
    refine At.block ?_
    refine At.seq ?_
    refine At.reg rfl ?_
    refine Run.iaR (ht := Tb.L69) (hR := hl.sub) (j := k) (hj := rfl) (h1 := by simp; omega) (hn := by omega) (h := ?_)
    refine Run.ldrA (ht := Tb.A73) (hn := Tb.S73) (hR := hl.sub) (hj := cellsG_at hvk) (h := ?_)
    refine Run.al Tb.Z73 (h := fun g5 => ?_)
    refine Run.st Tb.S73 (h := ?_)
    refine Run.fin ?_
    refine At.seq ?_
    refine At.reg rfl ?_
    refine Run.fa Tb.F73_0 (h := ?_)
    refine Run.ld Tb.A2 (h := ?_)
    refine Run.max2 (h := ?_)
    refine Run.fa Tb.F73_1 (h := ?_)
    refine Run.ld Tb.A2 (h := ?_)
    refine Run.min2 (h := ?_)
    refine Run.fa Tb.F73_0 (h := ?_)
    refine Run.st Tb.S2 (h := ?_)
    refine Run.fa Tb.F73_1 (h := ?_)
    refine Run.st Tb.S2 (h := ?_)
    refine Run.fin ?_
    refine At.seq ?_
    refine At.reg rfl ?_
    refine Run.fa Tb.F73_0 (h := ?_)
    refine Run.ld Tb.A2 (h := ?_)
    refine Run.fa Tb.F73_1 (h := ?_)
    refine Run.ld Tb.A2 (h := ?_)
    refine Run.lt (h := ?_)
    refine Run.fin ?_
    refine At.cnd' (ht := fun hc28 => ?_) (hf := fun hc28 => ?_)
    · skip
      have hcc : (clipG (l.getD k (0, 0))).1 < (clipG (l.getD k (0, 0))).2 := hc28
      refine At.reg rfl ?_
      refine Run.ld Tb.A69 (h := ?_)
      refine Run.ldA Tb.A73 Tb.S73 (h := ?_)
      refine Run.bs Tb.G69 (h := fun g31 => ?_)
      refine Run.ap (ht := Tb.G69) (hR := .one (he := Els.nil.cons ⟨rfl, by simp [Value.oneCell']⟩)) (n2 := (c ++ [clipG (l.getD k (0, 0))]).length) (l2 := (c ++ [clipG (l.getD k (0, 0))]).map cellsG) (hl2 := by rw [List.map_append]; rfl) (hn2 := by simp) (hn := by simp) (hlen := by simp [maxLen]; omega) (hby := by simp; omega) (h := fun ao32 cp32 => ?_)
      refine Run.st Tb.S69 (h := ?_)
      refine Run.fin ?_
      refine At.inb_norm ?_
      refine At.reg rfl ?_
      refine Run.add (h := ?_)
      refine Run.eqi (b := ((k + 1 : Nat) : Int)) (by rw [wi64 (by omega) (by omega)]; omega) ?_
      refine Run.mv (h := ?_)
      refine Run.fin ?_
      exact At.again ((k + 1, c ++ [clipG (l.getD k (0, 0))], ao32, cp32)) (⟨by dsimp only; omega, by dsimp only; unfold keepG; rw [foldG_take hvk]; show _ = addG (keepG (l.take k)) _; rw [← hc, addG, if_pos hcc]⟩) (by dsimp only; omega)
    · skip
      have hcc : ¬ (clipG (l.getD k (0, 0))).1 < (clipG (l.getD k (0, 0))).2 := hc28
      refine At.skip ?_
      refine At.inb_norm ?_
      refine At.reg rfl ?_
      refine Run.add (h := ?_)
      refine Run.eqi (b := ((k + 1 : Nat) : Int)) (by rw [wi64 (by omega) (by omega)]; omega) ?_
      refine Run.mv (h := ?_)
      refine Run.fin ?_
      exact At.again ((k + 1, c, a1, c1)) (⟨by dsimp only; omega, by dsimp only; unfold keepG; rw [foldG_take hvk]; show _ = addG (keepG (l.take k)) _; rw [← hc, addG, if_neg hcc]⟩) (by dsimp only; omega)
  · skip
    refine At.exit ?_
    refine At.then_exit ?_
    refine At.then_exit ?_
    refine At.inb_hit ?_
    refine At.seq ?_
    have hck : c = keepG l := by rw [hc, List.take_of_length_le (by omega)]
    subst hck
    refine At.reg rfl ?_
    refine Run.ld Tb.A69 (h := ?_)
    refine Run.mi Tb.C69 (h := ?_)
    refine Run.mf (h := ?_)
    refine Run.call Tb.N76 (hc := srt_call (l := keepG l) (by omega)) (h := ?_)
    rintro _ _ ⟨rfl, q, hq, rfl⟩
    refine Run.fin ?_
    refine At.seq ?_
    refine At.reg rfl ?_
    refine Run.as (h := ?_)
    refine Run.fin ?_
    refine At.seq ?_
    refine At.seq ?_
    refine At.rows (ao := a1) (cp := c1) (l := q.map cellsG) (hp := by apply Pick.here) (h := fun hE hB hsp _ _ _ => ?_)
    have hql : q.length ≤ 1099511627776 := by rw [hq.1.length_eq]; omega
    refine At.reg rfl ?_
    refine Run.ld Tb.A69 (h := ?_)
    refine Run.len Tb.L69 (h := ?_)
    refine Run.mv (h := ?_)
    refine Run.fin ?_
    refine At.block ?_
    refine At.chunks (fun _ hf => Star.nilRow (e := 73) (sz := 2) hf) ?_
    refine At.loop (α := Nat × List (Int × Int) × Option Addr × Nat × Nat) (fun x => ⟨[(6, .slice x.2.2.1 x.2.2.2.2 x.2.2.2.1), (38, .slice a1 q.length c1), (39, .int .i64 (q.length : Nat)), (40, .int .i64 (x.1 : Nat))], row 73 2 x.2.2.1 x.2.2.2.1 ((x.2.1).map cellsG) :: row 73 2 a1 c1 ((q).map cellsG) :: L, []⟩) (fun x => x.1 ≤ q.length ∧ x.2.1 = (q.take x.1).foldl mstepG [] ∧ x.2.2.2.2 = x.2.1.length) (fun x => q.length - x.1) ((0, [], none, 0, 0)) (⟨Nat.zero_le _, rfl, rfl⟩) (Ent.of (by repeat (first | exact SubE.nil | refine SubE.cons (by first | rfl | (show some _ = some _; simp; done)) ?_)) (by repeat (first | exact SubL.refl | refine SubL.cons (by repeat (first | exact Pick.here | apply Pick.there)) ?_ | refine SubL.skip ?_ | exact SubL.nil))) (fun x hx => ?_)
    obtain ⟨k, o, a2, c2, m⟩ := x
    dsimp only at hx ⊢
    obtain ⟨hk, ho, rfl⟩ := hx
    have hol : o.length ≤ k := by
      rw [ho]
      have := foldG_len (f := mstepG) (fun _ _ => mstepG_len) (l := q.take k) (o := [])
      simp at this; omega
    refine At.rows (ao := a2) (cp := c2) (l := o.map cellsG) (hp := by apply Pick.here) (h := fun hE2 hB2 hsp2 _ _ _ => ?_)
    refine At.seq ?_
    refine At.reg rfl ?_
    refine Run.lt (h := ?_)
    refine Run.fin ?_
    refine At.seq ?_
    refine At.cnd' (ht := fun hc41 => ?_) (hf := fun hc41 => ?_)
    · skip
      obtain ⟨y, hyk⟩ : ∃ y, q[k]? = some y := ⟨q[k]'(by omega), List.getElem?_eq_getElem _⟩
      refine At.skip ?_
      refine At.seq ?_
      refine At.block ?_
      refine At.seq ?_
      refine At.reg rfl ?_
      refine Run.iaR (ht := Tb.L69) (hR := RdS.own (by repeat (first | exact Pick.here | apply Pick.there)) ⟨hE, hB, hsp⟩) (j := k) (hj := rfl) (h1 := by simp; omega) (hn := by omega) (h := ?_)
      refine Run.ldrA (ht := Tb.A73) (hn := Tb.S73) (hR := RdS.own (by repeat (first | exact Pick.here | apply Pick.there)) ⟨hE, hB, hsp⟩) (hj := cellsG_at hyk) (h := ?_)
      refine Run.al Tb.Z73 (h := fun g8 => ?_)
      refine Run.st Tb.S73 (h := ?_)
      refine Run.fin ?_
      refine At.seq ?_
      refine At.seq ?_
      refine At.reg rfl ?_
      refine Run.mv (h := ?_)
      refine Run.len Tb.L69 (h := ?_)
      refine Run.as (h := ?_)
      refine Run.fin ?_
      refine At.seq ?_
      refine At.draw [(0, 0), (1, 0), (2, 0), (3, 0), (4, 1), (5, 0), (6, 0), (7, 0), (8, 0), (9, 0), (10, 1), (11, 0), (12, 0)] Tb.mixed (by kernel_rfl) ?_
      refine Run.mv (h := ?_)
      refine Run.gt (h := ?_)
      refine Run.mv (h := ?_)
      refine Run.andB 9 2 (bq := decide (y.1 ≤ (o.getD (o.length - 1) (0, 0)).2)) (ht := fun hg58 => by
          refine Run.fa Tb.F73_0 (h := ?_)
          refine Run.ld Tb.A2 (h := ?_)
          refine Run.mv (h := ?_)
          refine Run.mv (h := ?_)
          refine Run.sub (h := ?_)
          refine Run.eqi (b := ((o.length - 1 : Nat) : Int)) (by rw [wi64 (by omega) (by omega)]; omega) ?_
          obtain ⟨z, hzk⟩ : ∃ z, o[o.length - 1]? = some z := ⟨o[o.length - 1]'(by omega), List.getElem?_eq_getElem _⟩
          have hz0 : o.getD (o.length - 1) (0, 0) = z := by simp [List.getD, hzk]
          rw [hz0]
          refine Run.iaR (ht := Tb.L69) (hR := RdS.own (by repeat (first | exact Pick.here | apply Pick.there)) ⟨hE2, hB2, hsp2⟩) (j := o.length - 1) (hj := rfl) (h1 := by simp; omega) (hn := by omega) (h := ?_)
          refine Run.fa Tb.F73_1 (h := ?_)
          refine Run.ldr (ht := Tb.A2) (hR := RdS.own (by repeat (first | exact Pick.here | apply Pick.there)) ⟨hE2, hB2, hsp2⟩) (hj := cellsG_at hzk) (h := ?_)
          refine Run.le (h := ?_)
          exact Run.fin_sc ScEnd.here) (hrest := ?_)
      refine Run.fin ?_
      refine At.cnd' (ht := fun hc58 => ?_) (hf := fun hc58 => ?_)
      · skip
        obtain ⟨z, hzk⟩ : ∃ z, o[o.length - 1]? = some z := ⟨o[o.length - 1]'(by omega), List.getElem?_eq_getElem _⟩
        have hz0 : o.getD (o.length - 1) (0, 0) = z := by simp [List.getD, hzk]
        rw [hz0] at hc58
        refine At.seq ?_
        refine At.draw [(0, 0), (1, 0), (2, 0), (3, 0), (4, 0), (5, 0), (6, 0), (7, 0), (9, 0), (8, 1), (10, 1), (11, 0), (12, 0), (13, 0), (14, 3)] Tb.mixed (by kernel_rfl) ?_
        refine Run.mv (h := ?_)
        refine Run.mv (h := ?_)
        refine Run.sub (h := ?_)
        refine Run.eqi (b := ((o.length - 1 : Nat) : Int)) (by rw [wi64 (by omega) (by omega)]; omega) ?_
        refine Run.mv (h := ?_)
        refine Run.mv (h := ?_)
        refine Run.sub (h := ?_)
        refine Run.eqi (b := ((o.length - 1 : Nat) : Int)) (by rw [wi64 (by omega) (by omega)]; omega) ?_
        refine Run.iaR (ht := Tb.L69) (hR := RdS.own (by repeat (first | exact Pick.here | apply Pick.there)) ⟨hE2, hB2, hsp2⟩) (j := o.length - 1) (hj := rfl) (h1 := by simp; omega) (hn := by omega) (h := ?_)
        refine Run.fa Tb.F73_1 (h := ?_)
        refine Run.fa Tb.F73_1 (h := ?_)
        refine Run.ldr (ht := Tb.A2) (hR := RdS.own (by repeat (first | exact Pick.here | apply Pick.there)) ⟨hE2, hB2, hsp2⟩) (hj := cellsG_at hzk) (h := ?_)
        refine Run.ld Tb.A2 (h := ?_)
        refine Run.max2 (h := ?_)
        refine Run.iaR (ht := Tb.L69) (hR := RdS.own (by repeat (first | exact Pick.here | apply Pick.there)) ⟨hE2, hB2, hsp2⟩) (j := o.length - 1) (hj := rfl) (h1 := by simp; omega) (hn := by omega) (h := ?_)
        refine Run.fa Tb.F73_1 (h := ?_)
        refine Run.str (hsz := Tb.S2) (hj := cellsG_at hzk) (hk := noun (by kernel_rfl)) (h := ?_)
        refine Run.chunks (L' := row 73 2 a2 c2 ((o.set (o.length - 1) (z.1, max z.2 y.2)).map cellsG) :: cel g8 73 [.int .i64 y.1, .int .i64 y.2] :: row 73 2 a1 c1 ((q).map cellsG) :: L) (fun _ hf => by rw [List.map_set]; exact hf) ?_
        refine Run.fin ?_
        refine At.exit ?_
        refine At.then_exit ?_
        refine At.inb_hit ?_
        refine At.reg rfl ?_
        refine Run.add (h := ?_)
        refine Run.eqi (b := ((k + 1 : Nat) : Int)) (by rw [wi64 (by omega) (by omega)]; omega) ?_
        refine Run.mv (h := ?_)
        refine Run.fin ?_
        exact At.again ((k + 1, o.set (o.length - 1) (z.1, max z.2 y.2), a2, c2, o.length)) (⟨by dsimp only; omega, by dsimp only; rw [foldG_take hyk, ← ho, mstepG, hzk]; dsimp only; rw [if_pos hc58.2], by dsimp only; rw [List.length_set]⟩) (by dsimp only; omega)
      · skip
        have hst : o ++ [y] = mstepG o y := by
          unfold mstepG
          cases hz : o[o.length - 1]? with
          | none => rfl
          | some z =>
            have hz0 : o.getD (o.length - 1) (0, 0) = z := by simp [List.getD, hz]
            have hz1 := (List.getElem?_eq_some_iff.1 hz).1
            rw [hz0] at hc58
            dsimp only
            rw [if_neg (fun h => hc58 ⟨by omega, h⟩)]
        refine At.skip ?_
        refine At.reg rfl ?_
        refine Run.mv (h := ?_)
        refine Run.ldA Tb.A73 Tb.S73 (h := ?_)
        refine Run.bs Tb.G69 (h := fun g75 => ?_)
        refine Run.ap (ht := Tb.G69) (hR := .one (he := Els.nil.cons ⟨rfl, by simp [Value.oneCell']⟩)) (n2 := (o ++ [y]).length) (l2 := (o ++ [y]).map cellsG) (hl2 := by rw [List.map_append]; rfl) (hn2 := by simp) (hn := by simp) (hlen := by simp [maxLen]; omega) (hby := by simp; omega) (h := fun ao76 cp76 => ?_)
        refine Run.as (h := ?_)
        refine Run.fin ?_
        refine At.inb_norm ?_
        refine At.reg rfl ?_
        refine Run.add (h := ?_)
        refine Run.eqi (b := ((k + 1 : Nat) : Int)) (by rw [wi64 (by omega) (by omega)]; omega) ?_
        refine Run.mv (h := ?_)
        refine Run.fin ?_
        exact At.again ((k + 1, o ++ [y], ao76, cp76, (o ++ [y]).length)) (⟨by dsimp only; omega, by dsimp only; rw [foldG_take hyk, ← ho]; exact hst, rfl⟩) (by dsimp only; omega)
    · skip
      refine At.exit ?_
      refine At.then_exit ?_
      refine At.then_exit ?_
      refine At.inb_hit ?_
      refine At.seq ?_
      have hoq : o = nrmG q := by rw [ho, List.take_of_length_le (by omega)]; rfl
      subst hoq
      refine At.reg rfl ?_
      refine Run.mv (h := ?_)
      refine Run.as (h := ?_)
      refine Run.fin ?_
      refine At.ret ?_
      exact At.done (hΦ := by exact ⟨q, a2, c2, hq, ⟨hE2, hB2, hsp2⟩, rfl, rfl⟩)
theorem check_ {w0 : World} {L : List HP} {id par size : Int} {ao : Option Addr} {n cp : Nat} {rs : List RV} (hr : RdS w0 L 4 ao (rs.map cellsV)) (hn : n = rs.length) (hle : n ≤ 1099511627776) (hok : ∀ r ∈ rs, RnOk r.1) (hid : 0 ≤ id ∧ id < 18446744073709551616) (hpar : 0 ≤ par ∧ par < 18446744073709551616) (hsz : 0 ≤ size ∧ size < 18446744073709551616) :
    CallOk Tb.P w0 L 30 [.agg #[.int .u64 id, .int .u64 par, .int .u64 size, .slice ao n cp]] fun u L' => ∃ e : Int, u = .int .i64 e ∧ (May ⟨id, par, size, pures rs⟩ → e = 0) ∧ (¬ May ⟨id, par, size, pures rs⟩ → e = 250) ∧ L' = L := by
  refine enter Try.func30 rfl Try.ntmps30 (Nat.le_of_ble_eq_true rfl) ?_
  refine At.seq ?_
  refine At.reg rfl ?_
  refine Run.bx (h := fun g1 => ?_)
  refine Run.as (h := ?_)
  refine Run.fin ?_
  refine At.seq ?_
  refine At.seq ?_
  refine At.reg rfl ?_
  refine Run.ldA Tb.A28 Tb.S28 (h := ?_)
  refine Run.call Tb.N37 (hc := may hr.sub hn hle hok hsz) (h := ?_)
  rintro _ _ ⟨bm, rfl, hbm, rfl⟩
  refine Run.not (h := ?_)
  refine Run.fin ?_
  refine At.cnd' (ht := fun hc5 => ?_) (hf := fun hc5 => ?_)
  · skip
    refine At.seq ?_
    refine At.reg rfl ?_
    refine Run.as (h := ?_)
    refine Run.fin ?_
    refine At.ret ?_
    refine At.then_ret ?_
    exact At.done (hΦ := by exact ⟨250, rfl, fun h => by have := hbm.2 h; simp_all, fun _ => rfl, rfl⟩)
  · skip
    refine At.skip ?_
    refine At.seq ?_
    refine At.reg rfl ?_
    refine Run.as (h := ?_)
    refine Run.fin ?_
    refine At.ret ?_
    exact At.done (hΦ := by exact ⟨0, rfl, fun _ => rfl, fun h => absurd (hbm.1 (by simpa using hc5)) h, rfl⟩)
theorem changed_ {w0 : World} {L : List HP} {id par size : Int} {ao : Option Addr} {n cp : Nat} {rs : List RV} (hr : RdS w0 L 4 ao (rs.map cellsV)) (hn : n = rs.length) (hle : n ≤ 1099511627776) (hok : ∀ r ∈ rs, RnOk r.1) (hid : 0 ≤ id ∧ id < 18446744073709551616) (hpar : 0 ≤ par ∧ par < 18446744073709551616) (hsz : 0 ≤ size ∧ size < 18446744073709551616) :
    CallOk Tb.P w0 L 31 [.agg #[.int .u64 id, .int .u64 par, .int .u64 size, .slice ao n cp]] fun u L' => ∃ ao' cp', (Els 2 ((chgA ⟨id, par, size, pures rs⟩).map cellsG) ∧ ((chgA ⟨id, par, size, pures rs⟩).map cellsG = [] ∨ ∃ a, ao' = some a) ∧ (∀ a, ao' = some a → a.spot = none)) ∧ u = .slice ao' (chgA ⟨id, par, size, pures rs⟩).length cp' ∧ L' = row 73 2 ao' cp' ((chgA ⟨id, par, size, pures rs⟩).map cellsG) :: L := by
  refine enter Try.func31 rfl Try.ntmps31 (Nat.le_of_ble_eq_true rfl) ?_
  refine At.seq ?_
  refine At.reg rfl ?_
  refine Run.bx (h := fun g1 => ?_)
  refine Run.as (h := ?_)
  refine Run.fin ?_
  refine At.seq ?_
  refine At.seq ?_
  refine At.reg rfl ?_
  refine Run.ldA Tb.A28 Tb.S28 (h := ?_)
  refine Run.call Tb.N37 (hc := may hr.sub hn hle hok hsz) (h := ?_)
  rintro _ _ ⟨bm, rfl, hbm, rfl⟩
  refine Run.not (h := ?_)
  refine Run.fin ?_
  refine At.cnd' (ht := fun hc8 => ?_) (hf := fun hc8 => ?_)
  · skip
    have hm : ¬ May ⟨id, par, size, pures rs⟩ := fun h => by have := hbm.2 h; simp_all
    refine At.seq ?_
    refine At.reg rfl ?_
    refine Run.as (h := ?_)
    refine Run.fin ?_
    refine At.ret ?_
    refine At.then_ret ?_
    refine At.chunks (fun _ hf => Star.nilRow (e := 73) (sz := 2) hf) ?_
    rw [chgA_not hm]
    exact At.done (hΦ := by exact ⟨none, 0, ⟨Els.nil, .inl rfl, fun a h => by cases h⟩, rfl, rfl⟩)
  · skip
    have hm : May ⟨id, par, size, pures rs⟩ := hbm.1 (by simpa using hc8)
    have hrun := may_runs (a := ⟨id, par, size, pures rs⟩) (fun r h => by obtain ⟨x, hx, rfl⟩ := List.mem_map.1 h; exact (hok x hx).2.2.1) hm
    refine At.skip ?_
    refine At.seq ?_
    refine At.reg rfl ?_
    refine Run.as (h := ?_)
    refine Run.fin ?_
    refine At.seq ?_
    refine At.seq ?_
    refine At.reg rfl ?_
    refine Run.fa Tb.F28_3 (h := ?_)
    refine Run.ld Tb.A26 (h := ?_)
    refine Run.len Tb.L26 (h := ?_)
    refine Run.mv (h := ?_)
    refine Run.fin ?_
    refine At.block ?_
    refine At.chunks (fun _ hf => Star.nilRow (e := 73) (sz := 2) hf) ?_
    refine At.loop (α := Nat × Option Addr × Nat) (fun x => ⟨[(1, .pointer (some ⟨g1, 0, none⟩)), (3, .slice x.2.1 x.1 x.2.2), (10, .slice ao n cp), (11, .int .i64 (n : Nat)), (12, .int .i64 (x.1 : Nat))], row 73 2 x.2.1 x.2.2 (((((pures rs).take x.1).map rgR)).map cellsG) :: cel g1 28 [.int .u64 id, .int .u64 par, .int .u64 size, .slice ao n cp] :: L, []⟩) (fun x => x.1 ≤ n) (fun x => n - x.1) ((0, none, 0)) (Nat.zero_le _) (Ent.of (by repeat (first | exact SubE.nil | refine SubE.cons (by first | rfl | (show some _ = some _; simp; done)) ?_)) (by repeat (first | exact SubL.refl | refine SubL.cons (by repeat (first | exact Pick.here | apply Pick.there)) ?_ | refine SubL.skip ?_ | exact SubL.nil))) (fun x hx => ?_)
    obtain ⟨k, a1, c1⟩ := x
    dsimp only at hx ⊢
    have hk := hx
    refine At.seq ?_
    refine At.reg rfl ?_
    refine Run.lt (h := ?_)
    refine Run.fin ?_
    refine At.seq ?_
    refine At.cnd' (ht := fun hc13 => ?_) (hf := fun hc13 => ?_)
    · skip
      obtain ⟨r, hrk⟩ : ∃ r, rs[k]? = some r := ⟨rs[k]'(by omega), List.getElem?_eq_getElem _⟩
      have hrp := pures_at hrk
      obtain ⟨q1, q2, q3⟩ := hrun r.1 (List.mem_of_getElem? hrp)
      refine At.skip ?_
      refine At.seq ?_
      refine At.block ?_
      refine At.seq ?_
      refine At.reg rfl ?_
      refine Run.iaR (ht := Tb.L26) (hR := hr.sub) (j := k) (hj := rfl) (h1 := by simp; omega) (hn := by omega) (h := ?_)
      refine Run.ldrA (ht := Tb.A76) (hn := Tb.S76) (hR := hr.sub) (hj := cells_at hrk) (h := ?_)
      refine Run.al Tb.Z76 (h := fun g5 => ?_)
      refine Run.st Tb.S76 (h := ?_)
      refine Run.fin ?_
      refine At.reg rfl ?_
      refine Run.mv (h := ?_)
      refine Run.fa Tb.F76_0 (h := ?_)
      refine Run.ld Tb.A22 (h := ?_)
      refine Run.cv Tb.I22 Tb.I2 (h := ?_)
      refine Run.eqi (b := r.1.off) (wi64 (by omega) (by omega)) ?_
      refine Run.fa Tb.F76_0 (h := ?_)
      refine Run.ld Tb.A22 (h := ?_)
      refine Run.fa Tb.F76_1 (h := ?_)
      refine Run.ld Tb.A22 (h := ?_)
      refine Run.add (h := ?_)
      refine Run.eqi (b := r.1.off + r.1.len) (wu64 (by omega) (by omega)) ?_
      refine Run.cv Tb.I22 Tb.I2 (h := ?_)
      refine Run.eqi (b := r.1.off + r.1.len) (wi64 (by omega) (by omega)) ?_
      refine Run.bd Tb.B73 (h := ?_)
      refine Run.bs Tb.G69 (h := fun g27 => ?_)
      refine Run.ap (ht := Tb.G69) (hR := .one (he := Els.nil.cons ⟨rfl, by simp [Value.oneCell']⟩)) (n2 := k + 1) (l2 := ((((pures rs).take (k + 1)).map rgR)).map cellsG) (hl2 := by rw [List.take_add_one, hrp, List.map_append, List.map_append]; rfl) (hn := by simp [pures]; omega) (hn2 := by simp [pures]; omega) (hlen := by simp [maxLen, pures]; omega) (hby := by simp [pures]; omega) (h := fun ao28 cp28 => ?_)
      refine Run.as (h := ?_)
      refine Run.fin ?_
      refine At.inb_norm ?_
      refine At.reg rfl ?_
      refine Run.add (h := ?_)
      refine Run.eqi (b := ((k + 1 : Nat) : Int)) (by rw [wi64 (by omega) (by omega)]; omega) ?_
      refine Run.mv (h := ?_)
      refine Run.fin ?_
      exact At.again ((k + 1, ao28, cp28)) (by dsimp only; omega) (by dsimp only; omega)
    · skip
      refine At.exit ?_
      refine At.then_exit ?_
      refine At.then_exit ?_
      refine At.inb_hit ?_
      refine At.seq ?_
      obtain rfl : k = rs.length := by omega
      rw [List.take_of_length_le (by simp [pures])]
      refine At.rows (ao := a1) (cp := c1) (l := ((pures rs).map rgR).map cellsG) (hp := by apply Pick.here) (h := fun hE hB hsp _ _ _ => ?_)
      refine At.reg rfl ?_
      refine Run.mv (h := ?_)
      refine Run.call Tb.N58 (hc := normal_ (l := (pures rs).map rgR) (RdS.own (by repeat (first | exact Pick.here | apply Pick.there)) ⟨hE, hB, hsp⟩) (by simp [pures]) (by omega)) (h := ?_)
      rintro _ _ ⟨q, ao31, cp31, hq, hsh, rfl, rfl⟩
      have hnq : nrmG q = chgA ⟨id, par, size, pures rs⟩ := by rw [chgA_may hm]; exact may_norm hm (fun r h => (hrun r h).2.1) hq
      rw [hnq] at hsh ⊢
      refine Run.as (h := ?_)
      refine Run.fin ?_
      refine At.ret ?_
      exact At.done (hΦ := by exact ⟨ao31, cp31, hsh, rfl, rfl⟩)
theorem rchanged_ {w0 : World} {L : List HP} {id par size : Int} {ao : Option Addr} {n cp : Nat} {rs : List RV} (hr : RdS w0 L 4 ao (rs.map cellsV)) (hn : n = rs.length) (hle : n ≤ 1099511627776) (hok : ∀ r ∈ rs, RnOk r.1) (hid : 0 ≤ id ∧ id < 18446744073709551616) (hpar : 0 ≤ par ∧ par < 18446744073709551616) (hsz : 0 ≤ size ∧ size < 18446744073709551616) :
    CallOk Tb.P w0 L 32 [.agg #[.int .u64 id, .int .u64 par, .int .u64 size, .slice ao n cp]] fun u L' => ∃ ao' cp', (Els 2 ((chgA ⟨id, par, size, pures rs⟩).map cellsG) ∧ ((chgA ⟨id, par, size, pures rs⟩).map cellsG = [] ∨ ∃ a, ao' = some a) ∧ (∀ a, ao' = some a → a.spot = none)) ∧ u = .slice ao' (chgA ⟨id, par, size, pures rs⟩).length cp' ∧ L' = row 73 2 ao' cp' ((chgA ⟨id, par, size, pures rs⟩).map cellsG) :: L := by
  refine enter Try.func32 rfl Try.ntmps32 (Nat.le_of_ble_eq_true rfl) ?_
  refine At.seq ?_
  refine At.reg rfl ?_
  refine Run.bx (h := fun g1 => ?_)
  refine Run.as (h := ?_)
  refine Run.fin ?_
  refine At.seq ?_
  refine At.seq ?_
  refine At.reg rfl ?_
  refine Run.ldA Tb.A28 Tb.S28 (h := ?_)
  refine Run.call Tb.N33 (hc := rcheck hr.sub hn hle hok hsz) (h := ?_)
  rintro _ _ ⟨bm, rfl, hbm, rfl⟩
  refine Run.ne (h := ?_)
  refine Run.fin ?_
  refine At.cnd' (ht := fun hc10 => ?_) (hf := fun hc10 => ?_)
  · skip
    have hm : ¬ May ⟨id, par, size, pures rs⟩ := fun h => by have := hbm.2 h; simp_all
    refine At.seq ?_
    refine At.reg rfl ?_
    refine Run.as (h := ?_)
    refine Run.fin ?_
    refine At.ret ?_
    refine At.then_ret ?_
    refine At.chunks (fun _ hf => Star.nilRow (e := 73) (sz := 2) hf) ?_
    rw [chgA_not hm]
    exact At.done (hΦ := by exact ⟨none, 0, ⟨Els.nil, .inl rfl, fun a h => by cases h⟩, rfl, rfl⟩)
  · skip
    have hm : May ⟨id, par, size, pures rs⟩ := hbm.1 (by cases bm <;> simp_all)
    have hrun := may_runs (a := ⟨id, par, size, pures rs⟩) (fun r h => by obtain ⟨x, hx, rfl⟩ := List.mem_map.1 h; exact (hok x hx).2.2.1) hm
    refine At.skip ?_
    refine At.seq ?_
    refine At.reg rfl ?_
    refine Run.as (h := ?_)
    refine Run.fin ?_
    refine At.seq ?_
    refine At.seq ?_
    refine At.reg rfl ?_
    refine Run.as (h := ?_)
    refine Run.fin ?_
    refine At.block ?_
    refine At.chunks (fun _ hf => Star.nilRow (e := 73) (sz := 2) hf) ?_
    refine At.loop (α := Nat × List (Int × Int) × Option Addr × Nat × Nat) (fun x => ⟨[(1, .pointer (some ⟨g1, 0, none⟩)), (3, .slice x.2.2.1 x.2.2.2.2 x.2.2.2.1), (4, .int .i64 (x.1 : Nat))], row 73 2 x.2.2.1 x.2.2.2.1 ((x.2.1).map cellsG) :: cel g1 28 [.int .u64 id, .int .u64 par, .int .u64 size, .slice ao n cp] :: L, []⟩) (fun x => x.1 ≤ n ∧ x.2.1 = (((pures rs).take x.1).map rgR).foldl jstepG [] ∧ x.2.2.2.2 = x.2.1.length) (fun x => n - x.1) ((0, [], none, 0, 0)) (⟨Nat.zero_le _, rfl, rfl⟩) (Ent.of (by repeat (first | exact SubE.nil | refine SubE.cons (by first | rfl | (show some _ = some _; simp; done)) ?_)) (by repeat (first | exact SubL.refl | refine SubL.cons (by repeat (first | exact Pick.here | apply Pick.there)) ?_ | refine SubL.skip ?_ | exact SubL.nil))) (fun x hx => ?_)
    obtain ⟨k, o, a2, c2, m⟩ := x
    dsimp only at hx ⊢
    obtain ⟨hk, ho, rfl⟩ := hx
    have hol : o.length ≤ k := by
      rw [ho]
      have h9 := foldG_len (f := jstepG) (fun _ _ => jstepG_len) (l := (((pures rs).take k).map rgR)) (o := [])
      rw [List.length_map, List.length_take, List.length_nil] at h9; omega
    refine At.rows (ao := a2) (cp := c2) (l := o.map cellsG) (hp := by apply Pick.here) (h := fun hE2 hB2 hsp2 _ _ _ => ?_)
    refine At.seq ?_
    refine At.seq ?_
    refine At.reg rfl ?_
    refine Run.mv (h := ?_)
    refine Run.fa Tb.F28_3 (h := ?_)
    refine Run.ld Tb.A26 (h := ?_)
    refine Run.len Tb.L26 (h := ?_)
    refine Run.lt (h := ?_)
    refine Run.fin ?_
    refine At.cnd' (ht := fun hc15 => ?_) (hf := fun hc15 => ?_)
    · skip
      obtain ⟨r, hrk⟩ : ∃ r, rs[k]? = some r := ⟨rs[k]'(by omega), List.getElem?_eq_getElem _⟩
      have hrp := pures_at hrk
      obtain ⟨q1, q2, q3⟩ := hrun r.1 (List.mem_of_getElem? hrp)
      have hfold : (((pures rs).take (k + 1)).map rgR).foldl jstepG [] = jstepG o (rgR r.1) := by rw [List.take_add_one, hrp, ho]; simp
      refine At.skip ?_
      refine At.seq ?_
      refine At.block ?_
      refine At.seq ?_
      refine At.draw [(0, 0), (2, 0), (7, 0), (9, 0), (13, 0), (15, 0), (1, 1), (3, 0), (4, 0), (5, 1), (6, 0), (21, 0), (8, 1), (10, 0), (11, 0), (12, 1), (14, 1), (16, 0), (17, 0), (18, 1), (19, 0), (20, 0), (22, 0)] Tb.mixed (by kernel_rfl) ?_
      refine Run.fa Tb.F28_3 (h := ?_)
      refine Run.mv (h := ?_)
      refine Run.fa Tb.F28_3 (h := ?_)
      refine Run.mv (h := ?_)
      refine Run.fa Tb.F28_3 (h := ?_)
      refine Run.mv (h := ?_)
      refine Run.ld Tb.A26 (h := ?_)
      refine Run.iaR (ht := Tb.L26) (hR := hr.sub) (j := k) (hj := rfl) (h1 := by simp; omega) (hn := by omega) (h := ?_)
      refine Run.fa Tb.F76_0 (h := ?_)
      refine Run.ldr (ht := Tb.A22) (hR := hr.sub) (hj := cells_at hrk) (h := ?_)
      refine Run.cv Tb.I22 Tb.I2 (h := ?_)
      refine Run.eqi (b := r.1.off) (wi64 (by omega) (by omega)) ?_
      refine Run.as (h := ?_)
      refine Run.ld Tb.A26 (h := ?_)
      refine Run.iaR (ht := Tb.L26) (hR := hr.sub) (j := k) (hj := rfl) (h1 := by simp; omega) (hn := by omega) (h := ?_)
      refine Run.fa Tb.F76_0 (h := ?_)
      refine Run.ldr (ht := Tb.A22) (hR := hr.sub) (hj := cells_at hrk) (h := ?_)
      refine Run.ld Tb.A26 (h := ?_)
      refine Run.iaR (ht := Tb.L26) (hR := hr.sub) (j := k) (hj := rfl) (h1 := by simp; omega) (hn := by omega) (h := ?_)
      refine Run.fa Tb.F76_1 (h := ?_)
      refine Run.ldr (ht := Tb.A22) (hR := hr.sub) (hj := cells_at hrk) (h := ?_)
      refine Run.add (h := ?_)
      refine Run.eqi (b := r.1.off + r.1.len) (wu64 (by omega) (by omega)) ?_
      refine Run.cv Tb.I22 Tb.I2 (h := ?_)
      refine Run.eqi (b := r.1.off + r.1.len) (wi64 (by omega) (by omega)) ?_
      refine Run.as (h := ?_)
      refine Run.fin ?_
      refine At.seq ?_
      refine At.reg rfl ?_
      refine Run.mv (h := ?_)
      refine Run.len Tb.L69 (h := ?_)
      refine Run.sub (h := ?_)
      refine Run.eqi (b := (o.length : Int) - 1) (wi64 (by omega) (by omega)) ?_
      refine Run.as (h := ?_)
      refine Run.fin ?_
      refine At.seq ?_
      refine At.reg rfl ?_
      refine Run.mv (h := ?_)
      refine Run.ge (h := ?_)
      refine Run.mv (h := ?_)
      refine Run.andB 7 2 (bq := decide ((o.getD (o.length - 1) (0, 0)).2 = r.1.off)) (ht := fun hg52 => by
          refine Run.mv (h := ?_)
          refine Run.mv (h := ?_)
          refine Run.eqi (b := ((o.length - 1 : Nat) : Int)) (by omega) ?_
          obtain ⟨z, hzk⟩ : ∃ z, o[o.length - 1]? = some z := ⟨o[o.length - 1]'(by omega), List.getElem?_eq_getElem _⟩
          have hz0 : o.getD (o.length - 1) (0, 0) = z := by simp [List.getD, hzk]
          rw [hz0]
          refine Run.iaR (ht := Tb.L69) (hR := RdS.own (by repeat (first | exact Pick.here | apply Pick.there)) ⟨hE2, hB2, hsp2⟩) (j := o.length - 1) (hj := rfl) (h1 := by simp; omega) (hn := by omega) (h := ?_)
          refine Run.fa Tb.F73_1 (h := ?_)
          refine Run.ldr (ht := Tb.A2) (hR := RdS.own (by repeat (first | exact Pick.here | apply Pick.there)) ⟨hE2, hB2, hsp2⟩) (hj := cellsG_at hzk) (h := ?_)
          refine Run.mv (h := ?_)
          refine Run.eq (h := ?_)
          exact Run.fin_sc ScEnd.here) (hrest := ?_)
      refine Run.fin ?_
      refine At.cnd' (ht := fun hc52 => ?_) (hf := fun hc52 => ?_)
      · skip
        obtain ⟨z, hzk⟩ : ∃ z, o[o.length - 1]? = some z := ⟨o[o.length - 1]'(by omega), List.getElem?_eq_getElem _⟩
        have hz0 : o.getD (o.length - 1) (0, 0) = z := by simp [List.getD, hzk]
        rw [hz0] at hc52
        refine At.reg rfl ?_
        refine Run.mv (h := ?_)
        refine Run.mv (h := ?_)
        refine Run.eqi (b := ((o.length - 1 : Nat) : Int)) (by omega) ?_
        refine Run.mv (h := ?_)
        refine Run.iaR (ht := Tb.L69) (hR := RdS.own (by repeat (first | exact Pick.here | apply Pick.there)) ⟨hE2, hB2, hsp2⟩) (j := o.length - 1) (hj := rfl) (h1 := by simp; omega) (hn := by omega) (h := ?_)
        refine Run.fa Tb.F73_1 (h := ?_)
        refine Run.str (hsz := Tb.S2) (hj := cellsG_at hzk) (h := ?_)
        refine Run.chunks (L' := row 73 2 a2 c2 ((o.set (o.length - 1) (z.1, r.1.off + r.1.len)).map cellsG) :: cel g1 28 [.int .u64 id, .int .u64 par, .int .u64 size, .slice ao n cp] :: L) (fun _ hf => by rw [List.map_set]; exact hf) ?_
        refine Run.fin ?_
        refine At.inb_norm ?_
        refine At.reg rfl ?_
        refine Run.mv (h := ?_)
        refine Run.add (h := ?_)
        refine Run.eqi (b := ((k + 1 : Nat) : Int)) (by rw [wi64 (by omega) (by omega)]; omega) ?_
        refine Run.as (h := ?_)
        refine Run.fin ?_
        exact At.again ((k + 1, o.set (o.length - 1) (z.1, r.1.off + r.1.len), a2, c2, o.length)) (⟨by dsimp only; omega, by dsimp only; rw [hfold, jstepG, hzk]; dsimp only; rw [if_pos (by exact hc52.2)]; rfl, by dsimp only; rw [List.length_set]⟩) (by dsimp only; omega)
      · skip
        have hst : o ++ [rgR r.1] = jstepG o (rgR r.1) := by
          unfold jstepG
          cases hz : o[o.length - 1]? with
          | none => rfl
          | some z =>
            have hz0 : o.getD (o.length - 1) (0, 0) = z := by simp [List.getD, hz]
            have hz1 := (List.getElem?_eq_some_iff.1 hz).1
            rw [hz0] at hc52
            dsimp only
            rw [if_neg (show ¬ z.2 = (rgR r.1).1 from fun h => hc52 ⟨by omega, h⟩)]
        refine At.reg rfl ?_
        refine Run.mv (h := ?_)
        refine Run.mv (h := ?_)
        refine Run.mv (h := ?_)
        refine Run.bd Tb.B73 (h := ?_)
        refine Run.bs Tb.G69 (h := fun g62 => ?_)
        refine Run.ap (ht := Tb.G69) (hR := .one (he := Els.nil.cons ⟨rfl, by simp [Value.oneCell']⟩)) (n2 := (o ++ [rgR r.1]).length) (l2 := (o ++ [rgR r.1]).map cellsG) (hl2 := by rw [List.map_append]; rfl) (hn2 := by simp) (hn := by simp) (hlen := by simp [maxLen]; omega) (hby := by simp; omega) (h := fun ao63 cp63 => ?_)
        refine Run.as (h := ?_)
        refine Run.fin ?_
        refine At.inb_norm ?_
        refine At.reg rfl ?_
        refine Run.mv (h := ?_)
        refine Run.add (h := ?_)
        refine Run.eqi (b := ((k + 1 : Nat) : Int)) (by rw [wi64 (by omega) (by omega)]; omega) ?_
        refine Run.as (h := ?_)
        refine Run.fin ?_
        exact At.again ((k + 1, o ++ [rgR r.1], ao63, cp63, (o ++ [rgR r.1]).length)) (⟨by dsimp only; omega, by dsimp only; rw [hfold]; exact hst, rfl⟩) (by dsimp only; omega)
    · skip
      refine At.exit ?_
      refine At.then_exit ?_
      refine At.then_exit ?_
      refine At.inb_hit ?_
      refine At.seq ?_
      have hkn : k = rs.length := by omega
      have hoq : o = chgA ⟨id, par, size, pures rs⟩ := by rw [ho, chgA_may hm, List.take_of_length_le (by simp [pures]; omega)]; rfl
      clear ho
      subst hoq
      refine At.reg rfl ?_
      refine Run.mv (h := ?_)
      refine Run.as (h := ?_)
      refine Run.fin ?_
      refine At.ret ?_
      exact At.done (hΦ := by exact ⟨a2, c2, ⟨hE2, hB2, hsp2⟩, rfl, rfl⟩)
theorem checks {w0 : World} {L : List HP} {id par size : Int} {ao : Option Addr} {n cp : Nat} {rs : List RV} (hr : RdS w0 L 4 ao (rs.map cellsV)) (hn : n = rs.length) (hle : n ≤ 1099511627776) (hok : ∀ r ∈ rs, RnOk r.1) (hid : 0 ≤ id ∧ id < 18446744073709551616) (hpar : 0 ≤ par ∧ par < 18446744073709551616) (hsz : 0 ≤ size ∧ size < 18446744073709551616) (hdt : ∀ r ∈ rs, RdS w0 L 1 r.2.1 (ints .u8 r.1.data)) :
    CallOk Tb.P w0 L 10 [.agg #[.int .u64 id, .int .u64 par, .int .u64 size, .slice ao n cp]] fun u L' => u = .bool true ∧ L' = L := by
  refine enter Try.func10 rfl Try.ntmps10 (Nat.le_of_ble_eq_true rfl) ?_
  subst hn
  refine At.seq ?_
  refine At.reg rfl ?_
  refine Run.bx (h := fun g1 => ?_)
  refine Run.as (h := ?_)
  refine Run.fin ?_
  refine At.seq ?_
  refine At.reg rfl ?_
  refine Run.ldA Tb.A28 Tb.S28 (h := ?_)
  refine Run.call Tb.N19 (hc := rcopyA hr.sub (fun r h => (hdt r h).sub) (by omega) (dl_ok hok)) (h := ?_)
  rintro _ _ ⟨ao1, cp1, rs1, hp1, rfl, rfl⟩
  refine Run.al Tb.Z28 (h := fun g3 => ?_)
  refine Run.st Tb.S28 (h := ?_)
  refine Run.fin ?_
  refine At.seq ?_
  refine At.rns (ao := ao1) (cp := cp1) (rs := rs1) (h := fun hr1 _ _ => ?_)
  have haa : (⟨id, par, size, pures rs1⟩ : Ar) = ⟨id, par, size, pures rs⟩ := by rw [hp1]
  have hok1 := ok_pures hp1 hok
  have hl1 := len_pures hp1
  refine At.reg rfl ?_
  refine Run.ldA Tb.A28 Tb.S28 (h := ?_)
  refine Run.call Tb.N30 (hc := check_ (hr1 (by repeat (first | exact Pick.here | apply Pick.there))).1 rfl (by omega) hok1 hid hpar hsz) (h := ?_)
  rintro _ _ ⟨e12, rfl, h12a, h12b, rfl⟩
  rw [haa] at h12a h12b
  refine Run.as (h := ?_)
  refine Run.fin ?_
  refine At.seq ?_
  refine At.reg rfl ?_
  refine Run.ldA Tb.A28 Tb.S28 (h := ?_)
  refine Run.call Tb.N31 (hc := changed_ (hr1 (by repeat (first | exact Pick.here | apply Pick.there))).1 rfl (by omega) hok1 hid hpar hsz) (h := ?_)
  rintro _ _ ⟨ao14, cp14, hs14, rfl, rfl⟩
  rw [haa] at hs14 ⊢
  refine Run.as (h := ?_)
  refine Run.fin ?_
  refine At.seq ?_
  refine At.reg rfl ?_
  refine Run.ldA Tb.A28 Tb.S28 (h := ?_)
  refine Run.call Tb.N32 (hc := rchanged_ hr.sub rfl hle hok hid hpar hsz) (h := ?_)
  rintro _ _ ⟨ao16, cp16, hs16, rfl, rfl⟩
  refine Run.as (h := ?_)
  refine Run.fin ?_
  refine At.seq ?_
  refine At.reg rfl ?_
  refine Run.ldA Tb.A28 Tb.S28 (h := ?_)
  refine Run.ldA Tb.A28 Tb.S28 (h := ?_)
  refine Run.call Tb.N14 (hc := rsameA (hr1 (by repeat (first | exact Pick.here | apply Pick.there))).1 hr.sub (hr1 (by repeat (first | exact Pick.here | apply Pick.there))).2 (fun r h => (hdt r h).sub) (by omega) (dl_ok hok1)) (h := ?_)
  rintro _ _ ⟨b1, rfl, hb1, rfl⟩
  refine Run.as (h := ?_)
  refine Run.fin ?_
  refine At.seq ?_
  refine At.seq ?_
  refine At.reg rfl ?_
  refine Run.mv (h := ?_)
  refine Run.ldA Tb.A28 Tb.S28 (h := ?_)
  refine Run.call Tb.N33 (hc := rcheck hr.sub rfl hle hok hsz) (h := ?_)
  rintro _ _ ⟨bm, rfl, hbm, rfl⟩
  refine Run.ne (h := ?_)
  refine Run.mv (h := ?_)
  refine Run.orB 5 4 (ht := fun hg30 => by
      refine Run.mv (h := ?_)
      refine Run.len Tb.L69 (h := ?_)
      refine Run.mv (h := ?_)
      refine Run.len Tb.L69 (h := ?_)
      refine Run.ne (h := ?_)
      exact Run.fin_sc ScEnd.here) (hrest := ?_)
  refine Run.mv (h := ?_)
  refine Run.orB 2 11 (ht := fun hg34 => by
      refine Run.mv (h := ?_)
      refine Run.not (h := ?_)
      exact Run.fin_sc ScEnd.here) (hrest := ?_)
  refine Run.fin ?_
  refine At.cnd' (ht := fun hc34 => ?_) (hf := fun hc34 => ?_)
  · skip
    exact absurd hc34 (by have hb2 := hb1.2 haa; have he : e12 = if bm then 0 else 250 := (by cases bm with | true => exact h12a (hbm.1 rfl) | false => exact h12b (fun h => by have := hbm.2 h; cases this)); simp [hb2, he])
  · skip
    refine At.skip ?_
    refine At.seq ?_
    refine At.seq ?_
    refine At.reg rfl ?_
    refine Run.as (h := ?_)
    refine Run.fin ?_
    refine At.block ?_
    refine At.loop (α := Nat) (fun k => ⟨[(5, .slice ao14 (chgA ⟨id, par, size, pures rs⟩).length cp14), (6, .slice ao16 (chgA ⟨id, par, size, pures rs⟩).length cp16), (8, .int .i64 (k : Nat))], row 73 2 ao16 cp16 ((chgA ⟨id, par, size, pures rs⟩).map cellsG) :: row 73 2 ao14 cp14 ((chgA ⟨id, par, size, pures rs⟩).map cellsG) :: L, []⟩) (fun k => k ≤ (chgA ⟨id, par, size, pures rs⟩).length) (fun k => (chgA ⟨id, par, size, pures rs⟩).length - k) (0) (Nat.zero_le _) (Ent.of (by repeat (first | exact SubE.nil | refine SubE.cons (by first | rfl | (show some _ = some _; simp; done)) ?_)) (by repeat (first | exact SubL.refl | refine SubL.cons (by repeat (first | exact Pick.here | apply Pick.there)) ?_ | refine SubL.skip ?_ | exact SubL.nil))) (fun k hk => ?_)
    refine At.seq ?_
    refine At.seq ?_
    have hcl := chgA_len (a := ⟨id, par, size, pures rs⟩)
    have hcl2 : (chgA ⟨id, par, size, pures rs⟩).length ≤ rs.length := by simpa [pures] using hcl
    refine At.reg rfl ?_
    refine Run.mv (h := ?_)
    refine Run.mv (h := ?_)
    refine Run.len Tb.L69 (h := ?_)
    refine Run.lt (h := ?_)
    refine Run.fin ?_
    refine At.cnd' (ht := fun hc38 => ?_) (hf := fun hc38 => ?_)
    · skip
      obtain ⟨z, hzk⟩ : ∃ z, (chgA ⟨id, par, size, pures rs⟩)[k]? = some z := ⟨(chgA ⟨id, par, size, pures rs⟩)[k]'(by omega), List.getElem?_eq_getElem _⟩
      refine At.skip ?_
      refine At.seq ?_
      refine At.block ?_
      refine At.seq ?_
      refine At.draw [(0, 0), (1, 0), (2, 0), (4, 0), (5, 0), (6, 0), (3, 1), (7, 1), (8, 0)] Tb.mixed (by kernel_rfl) ?_
      refine Run.mv (h := ?_)
      refine Run.mv (h := ?_)
      refine Run.iaR (ht := Tb.L69) (hR := RdS.own (by repeat (first | exact Pick.here | apply Pick.there)) hs14) (j := k) (hj := rfl) (h1 := by simp; omega) (hn := by omega) (h := ?_)
      refine Run.mv (h := ?_)
      refine Run.mv (h := ?_)
      refine Run.iaR (ht := Tb.L69) (hR := RdS.own (by repeat (first | exact Pick.here | apply Pick.there)) hs16) (j := k) (hj := rfl) (h1 := by simp; omega) (hn := by omega) (h := ?_)
      refine Run.ldrA (ht := Tb.A73) (hn := Tb.S73) (hR := RdS.own (by repeat (first | exact Pick.here | apply Pick.there)) hs14) (hj := cellsG_at hzk) (h := ?_)
      refine Run.ldrA (ht := Tb.A73) (hn := Tb.S73) (hR := RdS.own (by repeat (first | exact Pick.here | apply Pick.there)) hs16) (hj := cellsG_at hzk) (h := ?_)
      refine Run.neS eqs73 (hs := .int Tb.I2 rfl rfl (.int Tb.I2 rfl rfl (.nil))) (h := ?_)
      refine Run.fin ?_
      refine At.cnd' (ht := fun hc49 => ?_) (hf := fun hc49 => ?_)
      · skip
        exact absurd hc49 (by simp)
      · skip
        refine At.skip ?_
        refine At.inb_norm ?_
        refine At.reg rfl ?_
        refine Run.mv (h := ?_)
        refine Run.add (h := ?_)
        refine Run.eqi (b := ((k + 1 : Nat) : Int)) (by rw [wi64 (by omega) (by omega)]; omega) ?_
        refine Run.as (h := ?_)
        refine Run.fin ?_
        exact At.again (k + 1) (by omega) (by omega)
    · skip
      refine At.exit ?_
      refine At.then_exit ?_
      refine At.then_exit ?_
      refine At.inb_hit ?_
      refine At.seq ?_
      refine At.reg rfl ?_
      refine Run.call Tb.N18 (hc := heads) (h := ?_)
      rintro _ _ ⟨rfl, rfl⟩
      refine Run.as (h := ?_)
      refine Run.fin ?_
      refine At.ret ?_
      exact At.done (hΦ := by exact ⟨rfl, rfl⟩)
end Go.Proofs.Ytllpfpdanonhkaa
