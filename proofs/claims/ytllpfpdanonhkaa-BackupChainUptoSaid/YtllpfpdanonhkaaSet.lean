/- Walk: an extent is set (extent.Map.Set). No condition. -/
import Derived.Test.YtllpfpdanonhkaaExt
set_option maxRecDepth 8000
set_option maxHeartbeats 4000000
set_option linter.unusedVariables false
set_option linter.unusedSimpArgs false
namespace Go.Proofs.Ytllpfpdanonhkaa
open Go.Sx Go.RowKit

def boxE (g : Nat) (es : List Xt) : HP := exi fun x : Option Addr × Nat => [cel g 136 [.slice x.1 es.length x.2], row 118 4 x.1 x.2 (es.map cellsX)]
def mapE (mb : Nat) (size : Int) (es : List Xt) : HP := exi fun x : Option Addr × Nat => [cel mb 138 [.bool true, .int .i64 size, .slice x.1 es.length x.2], row 118 4 x.1 x.2 (es.map cellsX)]
def setE (size : Int) (es : List Xt) (r : Xt) : List Xt :=
  if r.lo = r.hi then es else (cutE (max r.hi 0) (min size size) es).foldl layE (layE ((cutE (max 0 0) (min r.lo size) es).foldl layE []) r)
theorem argE_len {l : List Xt} : ∀ x ∈ l.map argE, x.length = [0].length := fun x hx => by
  obtain ⟨e, _, rfl⟩ := List.mem_map.1 hx
  rfl
theorem cut_lt {lo hi : Int} {es : List Xt} {e : Xt} (h : e ∈ cutE lo hi es) : e.lo < e.hi := by
  obtain ⟨a, _, h1⟩ := List.mem_filterMap.1 h
  unfold cut1 at h1
  split at h1
  · cases h1; assumption
  · cases h1
theorem cut_le {lo hi : Int} {es : List Xt} : (cutE lo hi es).length ≤ es.length := List.length_filterMap_le _ _
theorem lay_le {l : List Xt} {r : Xt} : (layE l r).length ≤ l.length + 1 := by
  unfold layE
  split
  · omega
  · split
    · simp
    · rename_i x hx
      have : l ≠ [] := by rintro rfl; cases hx
      have := List.length_pos_iff.2 this
      split <;> simp <;> omega
theorem fold_le {l : List Xt} : ∀ {a : List Xt}, (l.foldl layE a).length ≤ a.length + l.length := by
  induction l with
  | nil => intro a; simp
  | cons x l ih => intro a; have := ih (a := layE a x); have := lay_le (l := a) (r := x); simp only [List.foldl_cons, List.length_cons]; omega
theorem fold_succ {l a : List Xt} {j : Nat} {e : Xt} (h : l[j]? = some e) : (l.take (j + 1)).foldl layE a = layE ((l.take j).foldl layE a) e := by
  rw [List.take_add_one, h, Option.toList_some, List.foldl_append]; rfl
theorem f0_le {lo hi : Int} {es : List Xt} : ((cutE lo hi es).foldl layE []).length ≤ es.length := by
  have h1 := fold_le (l := cutE lo hi es) (a := [])
  have h2 := cut_le (lo := lo) (hi := hi) (es := es)
  simp only [List.length_nil] at h1; omega
theorem f1_le {lo hi : Int} {es : List Xt} {r : Xt} : (layE ((cutE lo hi es).foldl layE []) r).length ≤ es.length + 1 := by
  have h1 := lay_le (l := (cutE lo hi es).foldl layE []) (r := r)
  have h2 := f0_le (lo := lo) (hi := hi) (es := es)
  omega
theorem take_arg {l : List Xt} : l.take (l.map argE).length = l := by simp
theorem foldj_le {l es a : List Xt} {j : Nat} (h : l.length ≤ es.length) : ((l.take j).foldl layE a).length ≤ a.length + es.length := by
  have h1 := fold_le (l := l.take j) (a := a)
  have h2 : (l.take j).length ≤ l.length := List.length_take_le' _ _
  omega

theorem setx {w0 : World} {L : List HP} {F : List HP} {mb : Nat} {size : Int} {es : List Xt} {r : Xt} (hp : Pick L (mapE mb size es) F) (h0 : 0 ≤ r.lo ∧ r.lo ≤ r.hi ∧ r.hi ≤ size) (hsz : size ≤ 1099511627776) (hs : SrtE es) (hle : es.length ≤ 274877906944) :
    CallOk Tb.P w0 L 56 [.pointer (some ⟨mb, 0, none⟩), .int .i64 r.lo, .int .i64 r.hi, .agg #[.int .i64 r.a, .int .i64 r.r]] fun u L' => L' = mapE mb size (setE size es r) :: F := by
  refine enterM Try.func56 rfl Try.ntmps56 (Nat.le_of_ble_eq_true rfl) ?_
  refine At.sm (L' := fun x : Option Addr × Nat => cel mb 138 [.bool true, .int .i64 size, .slice x.1 es.length x.2] :: row 118 4 x.1 x.2 (es.map cellsX) :: F) (fun _ hf => Star.exi_elim (hp.star hf)) (fun x => ?_)
  obtain ⟨ao, cp⟩ := x
  dsimp only
  refine At.seq ?_
  refine At.reg rfl ?_
  refine Run.bx (h := fun g7 => ?_)
  refine Run.as (h := ?_)
  refine Run.fin ?_
  refine At.seq ?_
  refine At.seq ?_
  refine At.reg rfl ?_
  refine Run.mv (h := ?_)
  refine Run.eqV (h0 := .ptrR Tb.I108) (h := ?_)
  refine Run.mv (h := ?_)
  refine Run.orB 5 2 (ht := fun hg20 => by
      refine Run.mv (h := ?_)
      refine Run.ncp (h := ?_)
      refine Run.fa Tb.F138_0 (h := ?_)
      refine Run.ld Tb.A4 (h := ?_)
      refine Run.not (h := ?_)
      exact Run.fin_sc ScEnd.here) (hrest := ?_)
  refine Run.fin ?_
  refine At.cnd' (ht := fun hc20 => ?_) (hf := fun hc20 => ?_)
  · skip
    exact absurd hc20 (by simp)
  · skip
    refine At.skip ?_
    refine At.seq ?_
    refine At.seq ?_
    refine At.reg rfl ?_
    refine Run.mv (h := ?_)
    refine Run.lt (h := ?_)
    refine Run.mv (h := ?_)
    refine Run.orB 3 2 (ht := fun hg27 => by
        refine Run.mv (h := ?_)
        refine Run.mv (h := ?_)
        refine Run.gt (h := ?_)
        exact Run.fin_sc ScEnd.here) (hrest := ?_)
    refine Run.mv (h := ?_)
    refine Run.orB 6 7 (ht := fun hg35 => by
        refine Run.mv (h := ?_)
        refine Run.mv (h := ?_)
        refine Run.ncp (h := ?_)
        refine Run.fa Tb.F138_1 (h := ?_)
        refine Run.ld Tb.A2 (h := ?_)
        refine Run.gt (h := ?_)
        exact Run.fin_sc ScEnd.here) (hrest := ?_)
    refine Run.fin ?_
    refine At.cnd' (ht := fun hc35 => ?_) (hf := fun hc35 => ?_)
    · skip
      exact absurd hc35 (by omega)
    · skip
      refine At.skip ?_
      refine At.seq ?_
      refine At.seq ?_
      refine At.reg rfl ?_
      refine Run.mv (h := ?_)
      refine Run.mv (h := ?_)
      refine Run.eq (h := ?_)
      refine Run.fin ?_
      refine At.cnd' (ht := fun hc38 => ?_) (hf := fun hc38 => ?_)
      · skip
        refine At.seq ?_
        refine At.reg rfl ?_
        refine Run.as (h := ?_)
        refine Run.fin ?_
        refine At.ret ?_
        refine At.then_ret ?_
        refine At.chunks (L' := mapE mb size es :: F) (fun _ hf => Star.exi_intro (ao, cp) (SubL.star (L' := cel mb 138 [.bool true, .int .i64 size, .slice ao es.length cp] :: row 118 4 ao cp (es.map cellsX) :: F) (by repeat (first | exact SubL.refl | refine SubL.cons (by repeat (first | exact Pick.here | apply Pick.there)) ?_ | refine SubL.skip ?_ | exact SubL.nil)) hf)) ?_
        exact At.doneM (hΦ := by rw [setE, if_pos (by omega)])
      · skip
        refine At.skip ?_
        refine At.seq ?_
        refine At.reg rfl ?_
        refine Run.al Tb.Z136 (h := fun g9 => ?_)
        refine Run.fin ?_
        refine At.seq ?_
        refine At.seq ?_
        refine At.reg rfl ?_
        refine Run.mv (h := ?_)
        refine Run.mv (h := ?_)
        refine Run.call Tb.N57 (hc := runsx) (h := ?_)
        rintro _ _ ⟨p1, p2, p3, rfl, rfl⟩
        refine Run.fin ?_
        refine At.block ?_
        refine At.chunks (L' := boxE g9 [] :: cel g7 112 [.int .i64 r.a, .int .i64 r.r] :: cel p3 2 [.int .i64 r.lo] :: cel p2 2 [.int .i64 0] :: cel p1 108 [.pointer (some ⟨mb, 0, none⟩)] :: cel mb 138 [.bool true, .int .i64 size, .slice ao (es).length cp] :: row 118 4 ao cp ((es).map cellsX) :: F) (fun _ hf => Star.exi_intro (none, 0) (SubL.star (L' := cel g9 136 [.slice none 0 0] :: row 118 4 none 0 [] :: cel g7 112 [.int .i64 r.a, .int .i64 r.r] :: cel p3 2 [.int .i64 r.lo] :: cel p2 2 [.int .i64 0] :: cel p1 108 [.pointer (some ⟨mb, 0, none⟩)] :: cel mb 138 [.bool true, .int .i64 size, .slice ao (es).length cp] :: row 118 4 ao cp ((es).map cellsX) :: F) (by repeat (first | exact SubL.refl | refine SubL.cons (by repeat (first | exact Pick.here | apply Pick.there)) ?_ | refine SubL.skip ?_ | exact SubL.nil)) (Star.nilRow (e := 118) (sz := 4) hf))) ?_
        refine At.range (Lit := cel p3 2 [.int .i64 r.lo] :: cel p2 2 [.int .i64 0] :: cel p1 108 [.pointer (some ⟨mb, 0, none⟩)] :: cel mb 138 [.bool true, .int .i64 size, .slice ao (es).length cp] :: row 118 4 ao cp ((es).map cellsX) :: F) ((cutE (max 0 0) (min r.lo size) es).map argE) (fun j => [boxE g9 (((cutE (max 0 0) (min r.lo size) es).take j).foldl layE ([] : List Xt)), cel g7 112 [.int .i64 r.a, .int .i64 r.r]]) (fun _ _ => False) rfl (by kernel_rfl) (hps := argE_len) (he := fun _ hf => hf) (hit := seqx (by omega) hs) (hround := fun l j args fr frb X hj turn => ?_) (hdone := fun D9 => ?_) (hstop := fun _ _ _ h => h.elim)
        · skip
          rw [List.getElem?_map] at hj
          obtain ⟨e, he, rfl⟩ := Option.map_eq_some_iff.1 hj
          have hel := cut_lt (List.mem_of_getElem? he)
          have hjl := foldj_le (a := ([] : List Xt)) (j := j) (cut_le : (cutE (max 0 0) (min r.lo size) es).length ≤ es.length)
          show At _ _ ⟨(42, .agg #[.int .i64 e.lo, .int .i64 e.hi, .int .i64 e.a, .int .i64 e.r]) :: _, [boxE g9 (((cutE (max 0 0) (min r.lo size) es).take j).foldl layE ([] : List Xt)), cel g7 112 [.int .i64 r.a, .int .i64 r.r], fr], []⟩ _
          refine At.reg rfl ?_
          refine Run.al Tb.Z118 (h := fun g10 => ?_)
          refine Run.st Tb.S118 (h := ?_)
          refine Run.fin ?_
          refine turn _ _ (by repeat (first | exact Repl.here | apply Repl.there)) rfl ?_
          refine At.block ?_
          refine At.sm (L' := fun x : Option Addr × Nat => cel g9 136 [.slice x.1 (((cutE (max 0 0) (min r.lo size) es).take j).foldl layE ([] : List Xt)).length x.2] :: row 118 4 x.1 x.2 ((((cutE (max 0 0) (min r.lo size) es).take j).foldl layE ([] : List Xt)).map cellsX) :: cel g10 118 [.int .i64 e.lo, .int .i64 e.hi, .int .i64 e.a, .int .i64 e.r] :: cel g7 112 [.int .i64 r.a, .int .i64 r.r] :: [frb]) (fun _ hf => Star.exi_elim (SubL.star (L' := boxE g9 (((cutE (max 0 0) (min r.lo size) es).take j).foldl layE ([] : List Xt)) :: cel g10 118 [.int .i64 e.lo, .int .i64 e.hi, .int .i64 e.a, .int .i64 e.r] :: cel g7 112 [.int .i64 r.a, .int .i64 r.r] :: [frb]) (by repeat (first | exact SubL.refl | refine SubL.cons (by repeat (first | exact Pick.here | apply Pick.there)) ?_ | refine SubL.skip ?_ | exact SubL.nil)) hf)) (fun x => ?_)
          obtain ⟨bo, bc⟩ := x
          dsimp only
          refine At.reg rfl ?_
          refine Run.ld Tb.A136 (h := ?_)
          refine Run.ldA Tb.A118 Tb.S118 (h := ?_)
          refine Run.call Tb.N72 (hc := layx (by repeat (first | exact Pick.here | apply Pick.there)) hel (by simp only [List.length_nil] at hjl; omega)) (h := ?_)
          rintro _ _ ⟨ao45, cp45, rfl, rfl⟩
          refine Run.st Tb.S136 (h := ?_)
          refine Run.fin ?_
          refine At.inb_norm ?_
          rw [fold_succ he]
          refine At.chunks (L' := boxE g9 (layE (((cutE (max 0 0) (min r.lo size) es).take j).foldl layE ([] : List Xt)) e) :: cel g7 112 [.int .i64 r.a, .int .i64 r.r] :: [frb]) (fun _ hf => Star.exi_intro (ao45, cp45) (SubL.star (L' := cel g9 136 [.slice ao45 (layE (((cutE (max 0 0) (min r.lo size) es).take j).foldl layE ([] : List Xt)) e).length cp45] :: row 118 4 ao45 cp45 ((layE (((cutE (max 0 0) (min r.lo size) es).take j).foldl layE ([] : List Xt)) e).map cellsX) :: cel g7 112 [.int .i64 r.a, .int .i64 r.r] :: [frb]) (by repeat (first | exact SubL.refl | refine SubL.cons (by repeat (first | exact Pick.here | apply Pick.there)) ?_ | refine SubL.skip ?_ | exact SubL.nil)) hf)) ?_
          exact At.rnorm
        · skip
          show At _ _ ⟨_, dfb D9 :: boxE g9 (((cutE (max 0 0) (min r.lo size) es).take ((cutE (max 0 0) (min r.lo size) es).map argE).length).foldl layE ([] : List Xt)) :: cel g7 112 [.int .i64 r.a, .int .i64 r.r] :: cel p3 2 [.int .i64 r.lo] :: cel p2 2 [.int .i64 0] :: cel p1 108 [.pointer (some ⟨mb, 0, none⟩)] :: cel mb 138 [.bool true, .int .i64 size, .slice ao (es).length cp] :: row 118 4 ao cp ((es).map cellsX) :: F, _⟩ _
          rw [take_arg]
          refine At.inb_norm ?_
          refine At.seq ?_
          refine At.sm (L' := fun x : Option Addr × Nat => cel g9 136 [.slice x.1 ((cutE (max 0 0) (min r.lo size) es).foldl layE []).length x.2] :: row 118 4 x.1 x.2 (((cutE (max 0 0) (min r.lo size) es).foldl layE []).map cellsX) :: dfb D9 :: cel g7 112 [.int .i64 r.a, .int .i64 r.r] :: cel mb 138 [.bool true, .int .i64 size, .slice ao (es).length cp] :: row 118 4 ao cp ((es).map cellsX) :: F) (fun _ hf => Star.exi_elim (SubL.star (L' := boxE g9 ((cutE (max 0 0) (min r.lo size) es).foldl layE []) :: dfb D9 :: cel g7 112 [.int .i64 r.a, .int .i64 r.r] :: cel mb 138 [.bool true, .int .i64 size, .slice ao (es).length cp] :: row 118 4 ao cp ((es).map cellsX) :: F) (by repeat (first | exact SubL.refl | refine SubL.cons (by repeat (first | exact Pick.here | apply Pick.there)) ?_ | refine SubL.skip ?_ | exact SubL.nil)) hf)) (fun x => ?_)
          obtain ⟨bo, bc⟩ := x
          dsimp only
          refine At.reg rfl ?_
          refine Run.ld Tb.A136 (h := ?_)
          refine Run.mv (h := ?_)
          refine Run.mv (h := ?_)
          refine Run.ldA Tb.A112 Tb.S112 (h := ?_)
          refine Run.bd Tb.B118 (h := ?_)
          refine Run.call Tb.N72 (hc := layx (by repeat (first | exact Pick.here | apply Pick.there)) (by omega) (by have := f0_le (lo := max 0 0) (hi := min r.lo size) (es := es); omega)) (h := ?_)
          rintro _ _ ⟨ao51, cp51, rfl, rfl⟩
          refine Run.st Tb.S136 (h := ?_)
          refine Run.fin ?_
          refine At.seq ?_
          refine At.seq ?_
          refine At.reg rfl ?_
          refine Run.mv (h := ?_)
          refine Run.mv (h := ?_)
          refine Run.mv (h := ?_)
          refine Run.ncp (h := ?_)
          refine Run.fa Tb.F138_1 (h := ?_)
          refine Run.ld Tb.A2 (h := ?_)
          refine Run.call Tb.N57 (hc := runsx) (h := ?_)
          rintro _ _ ⟨q1, q2, q3, rfl, rfl⟩
          refine Run.fin ?_
          refine At.block ?_
          refine At.chunks (L' := boxE g9 ((layE ((cutE (max 0 0) (min r.lo size) es).foldl layE []) r)) :: cel g7 112 [.int .i64 r.a, .int .i64 r.r] :: dfb D9 :: cel q3 2 [.int .i64 size] :: cel q2 2 [.int .i64 r.hi] :: cel q1 108 [.pointer (some ⟨mb, 0, none⟩)] :: cel mb 138 [.bool true, .int .i64 size, .slice ao (es).length cp] :: row 118 4 ao cp ((es).map cellsX) :: F) (fun _ hf => Star.exi_intro (ao51, cp51) (SubL.star (L' := cel g9 136 [.slice ao51 ((layE ((cutE (max 0 0) (min r.lo size) es).foldl layE []) r)).length cp51] :: row 118 4 ao51 cp51 (((layE ((cutE (max 0 0) (min r.lo size) es).foldl layE []) r)).map cellsX) :: cel g7 112 [.int .i64 r.a, .int .i64 r.r] :: dfb D9 :: cel q3 2 [.int .i64 size] :: cel q2 2 [.int .i64 r.hi] :: cel q1 108 [.pointer (some ⟨mb, 0, none⟩)] :: cel mb 138 [.bool true, .int .i64 size, .slice ao (es).length cp] :: row 118 4 ao cp ((es).map cellsX) :: F) (by repeat (first | exact SubL.refl | refine SubL.cons (by repeat (first | exact Pick.here | apply Pick.there)) ?_ | refine SubL.skip ?_ | exact SubL.nil)) hf)) ?_
          refine At.range (Lit := cel q3 2 [.int .i64 size] :: cel q2 2 [.int .i64 r.hi] :: cel q1 108 [.pointer (some ⟨mb, 0, none⟩)] :: cel mb 138 [.bool true, .int .i64 size, .slice ao (es).length cp] :: row 118 4 ao cp ((es).map cellsX) :: F) ((cutE (max r.hi 0) (min size size) es).map argE) (fun j => [boxE g9 (((cutE (max r.hi 0) (min size size) es).take j).foldl layE (layE ((cutE (max 0 0) (min r.lo size) es).foldl layE []) r)), cel g7 112 [.int .i64 r.a, .int .i64 r.r], dfb D9]) (fun _ _ => False) rfl (by kernel_rfl) (hps := argE_len) (he := fun _ hf => hf) (hit := seqx (by omega) hs) (hround := fun l j args fr frb X hj turn => ?_) (hdone := fun D13 => ?_) (hstop := fun _ _ _ h => h.elim)
          · skip
            rw [List.getElem?_map] at hj
            obtain ⟨e, he, rfl⟩ := Option.map_eq_some_iff.1 hj
            have hel := cut_lt (List.mem_of_getElem? he)
            have hjl := foldj_le (a := (layE ((cutE (max 0 0) (min r.lo size) es).foldl layE []) r)) (j := j) (cut_le : (cutE (max r.hi 0) (min size size) es).length ≤ es.length)
            show At _ _ ⟨(59, .agg #[.int .i64 e.lo, .int .i64 e.hi, .int .i64 e.a, .int .i64 e.r]) :: _, [boxE g9 (((cutE (max r.hi 0) (min size size) es).take j).foldl layE (layE ((cutE (max 0 0) (min r.lo size) es).foldl layE []) r)), cel g7 112 [.int .i64 r.a, .int .i64 r.r], dfb D9, fr], []⟩ _
            refine At.reg rfl ?_
            refine Run.al Tb.Z118 (h := fun g11 => ?_)
            refine Run.st Tb.S118 (h := ?_)
            refine Run.fin ?_
            refine turn _ _ (by repeat (first | exact Repl.here | apply Repl.there)) rfl ?_
            refine At.block ?_
            refine At.sm (L' := fun x : Option Addr × Nat => cel g9 136 [.slice x.1 (((cutE (max r.hi 0) (min size size) es).take j).foldl layE (layE ((cutE (max 0 0) (min r.lo size) es).foldl layE []) r)).length x.2] :: row 118 4 x.1 x.2 ((((cutE (max r.hi 0) (min size size) es).take j).foldl layE (layE ((cutE (max 0 0) (min r.lo size) es).foldl layE []) r)).map cellsX) :: cel g11 118 [.int .i64 e.lo, .int .i64 e.hi, .int .i64 e.a, .int .i64 e.r] :: cel g7 112 [.int .i64 r.a, .int .i64 r.r] :: dfb D9 :: [frb]) (fun _ hf => Star.exi_elim (SubL.star (L' := boxE g9 (((cutE (max r.hi 0) (min size size) es).take j).foldl layE (layE ((cutE (max 0 0) (min r.lo size) es).foldl layE []) r)) :: cel g11 118 [.int .i64 e.lo, .int .i64 e.hi, .int .i64 e.a, .int .i64 e.r] :: cel g7 112 [.int .i64 r.a, .int .i64 r.r] :: dfb D9 :: [frb]) (by repeat (first | exact SubL.refl | refine SubL.cons (by repeat (first | exact Pick.here | apply Pick.there)) ?_ | refine SubL.skip ?_ | exact SubL.nil)) hf)) (fun x => ?_)
            obtain ⟨bo, bc⟩ := x
            dsimp only
            refine At.reg rfl ?_
            refine Run.ld Tb.A136 (h := ?_)
            refine Run.ldA Tb.A118 Tb.S118 (h := ?_)
            refine Run.call Tb.N72 (hc := layx (by repeat (first | exact Pick.here | apply Pick.there)) hel (by have := f1_le (lo := max 0 0) (hi := min r.lo size) (es := es) (r := r); omega)) (h := ?_)
            rintro _ _ ⟨ao62, cp62, rfl, rfl⟩
            refine Run.st Tb.S136 (h := ?_)
            refine Run.fin ?_
            refine At.inb_norm ?_
            rw [fold_succ he]
            refine At.chunks (L' := boxE g9 (layE (((cutE (max r.hi 0) (min size size) es).take j).foldl layE (layE ((cutE (max 0 0) (min r.lo size) es).foldl layE []) r)) e) :: cel g7 112 [.int .i64 r.a, .int .i64 r.r] :: dfb D9 :: [frb]) (fun _ hf => Star.exi_intro (ao62, cp62) (SubL.star (L' := cel g9 136 [.slice ao62 (layE (((cutE (max r.hi 0) (min size size) es).take j).foldl layE (layE ((cutE (max 0 0) (min r.lo size) es).foldl layE []) r)) e).length cp62] :: row 118 4 ao62 cp62 ((layE (((cutE (max r.hi 0) (min size size) es).take j).foldl layE (layE ((cutE (max 0 0) (min r.lo size) es).foldl layE []) r)) e).map cellsX) :: cel g7 112 [.int .i64 r.a, .int .i64 r.r] :: dfb D9 :: [frb]) (by repeat (first | exact SubL.refl | refine SubL.cons (by repeat (first | exact Pick.here | apply Pick.there)) ?_ | refine SubL.skip ?_ | exact SubL.nil)) hf)) ?_
            exact At.rnorm
          · skip
            show At _ _ ⟨_, dfb D13 :: boxE g9 (((cutE (max r.hi 0) (min size size) es).take ((cutE (max r.hi 0) (min size size) es).map argE).length).foldl layE (layE ((cutE (max 0 0) (min r.lo size) es).foldl layE []) r)) :: cel g7 112 [.int .i64 r.a, .int .i64 r.r] :: dfb D9 :: cel q3 2 [.int .i64 size] :: cel q2 2 [.int .i64 r.hi] :: cel q1 108 [.pointer (some ⟨mb, 0, none⟩)] :: cel mb 138 [.bool true, .int .i64 size, .slice ao (es).length cp] :: row 118 4 ao cp ((es).map cellsX) :: F, _⟩ _
            rw [take_arg]
            refine At.inb_norm ?_
            refine At.seq ?_
            refine At.sm (L' := fun x : Option Addr × Nat => cel g9 136 [.slice x.1 ((cutE (max r.hi 0) (min size size) es).foldl layE (layE ((cutE (max 0 0) (min r.lo size) es).foldl layE []) r)).length x.2] :: row 118 4 x.1 x.2 (((cutE (max r.hi 0) (min size size) es).foldl layE (layE ((cutE (max 0 0) (min r.lo size) es).foldl layE []) r)).map cellsX) :: dfb D13 :: dfb D9 :: cel mb 138 [.bool true, .int .i64 size, .slice ao (es).length cp] :: row 118 4 ao cp ((es).map cellsX) :: F) (fun _ hf => Star.exi_elim (SubL.star (L' := boxE g9 ((cutE (max r.hi 0) (min size size) es).foldl layE (layE ((cutE (max 0 0) (min r.lo size) es).foldl layE []) r)) :: dfb D13 :: dfb D9 :: cel mb 138 [.bool true, .int .i64 size, .slice ao (es).length cp] :: row 118 4 ao cp ((es).map cellsX) :: F) (by repeat (first | exact SubL.refl | refine SubL.cons (by repeat (first | exact Pick.here | apply Pick.there)) ?_ | refine SubL.skip ?_ | exact SubL.nil)) hf)) (fun x => ?_)
            obtain ⟨bo, bc⟩ := x
            dsimp only
            refine At.reg rfl ?_
            refine Run.mv (h := ?_)
            refine Run.ld Tb.A136 (h := ?_)
            refine Run.ncp (h := ?_)
            refine Run.fa Tb.F138_2 (h := ?_)
            refine Run.st Tb.S136 (h := ?_)
            refine Run.fin ?_
            refine At.seq ?_
            refine At.reg rfl ?_
            refine Run.as (h := ?_)
            refine Run.fin ?_
            refine At.ret ?_
            refine At.chunks (L' := dfb D13 :: dfb D9 :: mapE mb size ((cutE (max r.hi 0) (min size size) es).foldl layE (layE ((cutE (max 0 0) (min r.lo size) es).foldl layE []) r)) :: F) (fun _ hf => SubL.star (L' := dfb D13 :: dfb D9 :: mapE mb size ((cutE (max r.hi 0) (min size size) es).foldl layE (layE ((cutE (max 0 0) (min r.lo size) es).foldl layE []) r)) :: F) (by repeat (first | exact SubL.refl | refine SubL.cons (by repeat (first | exact Pick.here | apply Pick.there)) ?_ | refine SubL.skip ?_ | exact SubL.nil)) (Star.exi_intro (F := fun x : Option Addr × Nat => [cel mb 138 [.bool true, .int .i64 size, .slice x.1 ((cutE (max r.hi 0) (min size size) es).foldl layE (layE ((cutE (max 0 0) (min r.lo size) es).foldl layE []) r)).length x.2], row 118 4 x.1 x.2 (((cutE (max r.hi 0) (min size size) es).foldl layE (layE ((cutE (max 0 0) (min r.lo size) es).foldl layE []) r)).map cellsX)]) (bo, bc) (SubL.star (L' := cel mb 138 [.bool true, .int .i64 size, .slice bo ((cutE (max r.hi 0) (min size size) es).foldl layE (layE ((cutE (max 0 0) (min r.lo size) es).foldl layE []) r)).length bc] :: row 118 4 bo bc (((cutE (max r.hi 0) (min size size) es).foldl layE (layE ((cutE (max 0 0) (min r.lo size) es).foldl layE []) r)).map cellsX) :: dfb D13 :: dfb D9 :: F) (by repeat (first | exact SubL.refl | refine SubL.cons (by repeat (first | exact Pick.here | apply Pick.there)) ?_ | refine SubL.skip ?_ | exact SubL.nil)) hf))) ?_
            exact At.doneM (hΦ := by rw [setE, if_neg (by omega)]) (hm := MarksIn.cons .here (MarksIn.cons .here .nil))
end Go.Proofs.Ytllpfpdanonhkaa
