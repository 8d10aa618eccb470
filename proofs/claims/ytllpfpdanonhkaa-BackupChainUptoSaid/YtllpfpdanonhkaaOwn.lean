/- Walk: is memory the callers own (Own). No condition. -/
import Derived.Test.YtllpfpdanonhkaaRMk
import Derived.Test.YtllpfpdanonhkaaSxOwn
import Derived.Test.YtllpfpdanonhkaaReads
set_option maxRecDepth 8000
set_option maxHeartbeats 4000000
set_option linter.unusedVariables false
set_option linter.unusedSimpArgs false
namespace Go.Proofs.Ytllpfpdanonhkaa
open Go.Sx Go.RowKit

abbrev DS := Option Addr × Nat × List Int
def drow (d : DS) : HP := row 5 1 d.1 d.2.1 (ints .u8 d.2.2)
def cellsD (d : DS) : List Value := [.slice d.1 d.2.2.length d.2.1]
def b7 (i j : Nat) : Int := IntKind.u8.wrap (7 * i + 3 * j + 1)
def b200 (i j : Nat) : Int := IntKind.u8.wrap (200 + i + j)
def t7 (i n : Nat) : List Int := (List.range n).map (b7 i)
def t200 (i n : Nat) : List Int := (List.range n).map (b200 i)
def ff7 (f : Nat → DS) (i : Nat) : DS := ((f i).1, (f i).2.1, t7 i (f i).2.2.length)
def mid7 (i j : Nat) (l : List Int) : List Int := t7 i j ++ l.drop j
theorem t7_len {i n : Nat} : (t7 i n).length = n := by simp [t7]
theorem t200_len {i n : Nat} : (t200 i n).length = n := by simp [t200]
theorem mid7_len {i j : Nat} {l : List Int} (h : j ≤ l.length) : (mid7 i j l).length = l.length := by simp [mid7, t7_len]; omega
theorem mid7_set {i j : Nat} {l : List Int} (h : j < l.length) : (mid7 i j l).set j (b7 i j) = mid7 i (j + 1) l := by
  unfold mid7
  rw [List.set_append_right _ _ (by rw [t7_len]; exact Nat.le_refl _), t7_len, Nat.sub_self, List.drop_eq_getElem_cons h, List.set_cons_zero]
  simp [t7, List.range_succ]
theorem t7_at {i j n : Nat} (h : j < n) : (t7 i n).getD j 0 = b7 i j := by simp [t7, List.getD, h]
theorem t200_at {i j n : Nat} (h : j < n) : (t200 i n).getD j 0 = b200 i j := by simp [t200, List.getD, h]
theorem t200_succ {i k : Nat} : t200 i k ++ [b200 i k] = t200 i (k + 1) := by simp [t200, List.range_succ]
def o2 (f : Nat → DS) (e : Nat → Option Addr × Nat) (m k : Nat) : HP := own2 5 1 (f m).1 (f m).2.1 (ints .u8 (t7 m (f m).2.2.length)) (e m) (ints .u8 (t200 m k))
def up {α : Type} (e : Nat → α) (i : Nat) (v : α) : Nat → α := fun m => if m = i then v else e m
theorem up_same {α : Type} {e : Nat → α} {i : Nat} {v : α} : up e i v i = v := if_pos rfl
theorem up_ne {α : Type} {e : Nat → α} {i m : Nat} {v : α} (h : m ≠ i) : up e i v m = e m := if_neg h
def lc (f : Nat → DS) (e : Nat → Option Addr × Nat) (m : Nat) : List Value := [.slice (e m).1 ((f m).2.2.length + 70) (e m).2]
theorem lc_up {f : Nat → DS} {e : Nat → Option Addr × Nat} {i : Nat} {v : Option Addr × Nat} : (List.range i).map (lc f e) ++ [lc f (up e i v) i] = (List.range (i + 1)).map (lc f (up e i v)) := by
  rw [List.range_succ, List.map_append]
  congr 1
  exact List.map_congr_left fun m hm => by unfold lc; rw [up_ne (by have := List.mem_range.1 hm; omega)]
section
variable {c : Cx} {N : Nat} {S : St} {X : Act → World → Prop}
theorem At.o2N {F : List HP} {n : Nat} {f : Nat → DS} {e : Nat → Option Addr × Nat} (hp : Pick S.L (packN n (fun m => o2 f e m 70)) F)
    (h : (∀ m, m < n → (∀ (L' F' : List HP), Pick L' (packN n (fun m => o2 f e m 70)) F' → RdS c.w0 L' 1 (f m).1 (ints .u8 (t7 m (f m).2.2.length))) ∧ (∀ (L' F' : List HP), Pick L' (packN n (fun m => o2 f e m 70)) F' → RdS c.w0 L' 1 (e m).1 (ints .u8 (t7 m (f m).2.2.length) ++ ints .u8 (t200 m 70)))) → At c N S X) : At c N S X := fun a w hr hs =>
  h (fun m hm => by
    obtain ⟨f1, _, ho, _⟩ := packN_at hm hp hs.star
    obtain ⟨h1, h2⟩ := own2_shape ho
    exact ⟨fun L' F' hp' => (own2_old .here h1).ent fun fr hf => packN_at hm hp' hf, fun L' F' hp' => (own2_new .here h2).ent fun fr hf => packN_at hm hp' hf⟩) a w hr hs
end

theorem own_ {w0 : World} {L : List HP} {F : List HP} {lo : Option Addr} {n lcp : Nat} {f : Nat → DS} (hp : Pick L (packN n (fun m => drow (f m))) F) (hl : RdS w0 F 1 lo ((List.range n).map fun m => cellsD (f m))) (hn : n ≤ 1099511627776) (hlen : ∀ m, m < n → (f m).2.2.length ≤ 1099511627776) :
    CallOk Tb.P w0 L 16 [.slice lo n lcp] fun u L' => u = .bool true ∧ L' = F := by
  refine enter Try.func16 rfl Try.ntmps16 (Nat.le_of_ble_eq_true rfl) ?_
  refine At.seq ?_
  refine At.reg rfl ?_
  refine Run.as (h := ?_)
  refine Run.fin ?_
  refine At.seq ?_
  refine At.seq ?_
  refine At.reg rfl ?_
  refine Run.as (h := ?_)
  refine Run.fin ?_
  refine At.block ?_
  refine At.loop (α := Nat) (fun i => ⟨[(0, .slice lo n lcp), (3, .int .i64 i)], packN n (fun m => if m < i then drow (ff7 f m) else drow (f m)) :: F, []⟩) (fun i => i ≤ n) (fun i => n - i) (0) (Nat.zero_le _) (Ent.of (by repeat (first | exact SubE.nil | refine SubE.cons (by first | rfl | (show some _ = some _; simp; done)) ?_)) (by simp only [Nat.not_lt_zero, if_false]; exact SubL.cons hp SubL.refl)) (fun i hi => ?_)
  refine At.seq ?_
  refine At.seq ?_
  refine At.reg rfl ?_
  refine Run.mv (h := ?_)
  refine Run.mv (h := ?_)
  refine Run.len Tb.L39 (h := ?_)
  refine Run.lt (h := ?_)
  refine Run.fin ?_
  refine At.cnd' (ht := fun hc15 => ?_) (hf := fun hc15 => ?_)
  · skip
    have hli := hlen i (by omega)
    refine At.chunks (L' := row 5 1 (f i).1 (f i).2.1 (ints .u8 (mid7 i 0 (f i).2.2)) :: restN n i (fun m => if m < i then drow (ff7 f m) else drow (f m)) :: F) (fun _ hf => by
      have h9 := packN_open (k := i) (by omega) hf
      rw [if_neg (Nat.lt_irrefl _)] at h9
      exact h9) ?_
    refine At.skip ?_
    refine At.seq ?_
    refine At.block ?_
    refine At.seq ?_
    refine At.reg rfl ?_
    refine Run.as (h := ?_)
    refine Run.fin ?_
    refine At.block ?_
    refine At.loop (α := Nat) (fun j => ⟨[(0, .slice lo n lcp), (3, .int .i64 i), (4, .int .i64 j)], row 5 1 (f i).1 (f i).2.1 (ints .u8 (mid7 i j (f i).2.2)) :: restN n i (fun m => if m < i then drow (ff7 f m) else drow (f m)) :: F, []⟩) (fun j => j ≤ (f i).2.2.length) (fun j => (f i).2.2.length - j) (0) (Nat.zero_le _) (Ent.of (by repeat (first | exact SubE.nil | refine SubE.cons (by first | rfl | (show some _ = some _; simp; done)) ?_)) (by repeat (first | exact SubL.refl | refine SubL.cons (by repeat (first | exact Pick.here | apply Pick.there)) ?_ | refine SubL.skip ?_ | exact SubL.nil))) (fun j hj => ?_)
    refine At.seq ?_
    refine At.seq ?_
    refine At.reg rfl ?_
    refine Run.mv (h := ?_)
    refine Run.mv (h := ?_)
    refine Run.mv (h := ?_)
    refine Run.iaR (ht := Tb.L39) (hR := hl.sub) (j := i) (hj := rfl) (h1 := by simp; omega) (hn := by omega) (h := ?_)
    refine Run.ldr0 (ht := Tb.A23) (hR := hl.sub) (hj := range_at (by omega)) (h := ?_)
    refine Run.len Tb.L23 (h := ?_)
    refine Run.lt (h := ?_)
    refine Run.fin ?_
    refine At.cnd' (ht := fun hc24 => ?_) (hf := fun hc24 => ?_)
    · skip
      refine At.skip ?_
      refine At.seq ?_
      refine At.block ?_
      refine At.rowR (h := fun hRi _ _ _ => ?_)
      refine At.reg rfl ?_
      refine Run.mv (h := ?_)
      refine Run.mv (h := ?_)
      refine Run.iaR (ht := Tb.L39) (hR := hl.sub) (j := i) (hj := rfl) (h1 := by simp; omega) (hn := by omega) (h := ?_)
      refine Run.ldr0 (ht := Tb.A23) (hR := hl.sub) (hj := range_at (by omega)) (h := ?_)
      refine Run.mv (h := ?_)
      refine Run.mv (h := ?_)
      refine Run.mul (h := ?_)
      refine Run.eqi (b := (7 * (i : Int) : Int)) (wi64 (by omega) (by omega)) ?_
      refine Run.mv (h := ?_)
      refine Run.mul (h := ?_)
      refine Run.eqi (b := (3 * (j : Int) : Int)) (wi64 (by omega) (by omega)) ?_
      refine Run.add (h := ?_)
      refine Run.eqi (b := (7 * (i : Int) + 3 * (j : Int) : Int)) (wi64 (by omega) (by omega)) ?_
      refine Run.add (h := ?_)
      refine Run.eqi (b := (7 * (i : Int) + 3 * (j : Int) + 1 : Int)) (wi64 (by omega) (by omega)) ?_
      refine Run.cv Tb.I3 Tb.I5 (h := ?_)
      refine Run.iaR (ht := Tb.L23) (hR := hRi (by repeat (first | exact Pick.here | apply Pick.there))) (j := j) (hj := rfl) (h1 := by rw [ints_length, mid7_len (by omega)]; omega) (hn := by omega) (h := ?_)
      refine Run.str0 (hsz := Tb.S5) (hj := Sx.ints_at (by rw [mid7_len (by omega)]; omega)) (h := ?_)
      refine Run.chunks (L' := row 5 1 (f i).1 (f i).2.1 (ints .u8 (mid7 i (j + 1) (f i).2.2)) :: restN n i (fun m => if m < i then drow (ff7 f m) else drow (f m)) :: F) (fun _ hf => by rw [ints_set, show IntKind.u8.wrap (7 * (i : Int) + 3 * (j : Int) + 1) = b7 i j from rfl, mid7_set (by omega)] at hf; exact hf) ?_
      refine Run.fin ?_
      refine At.inb_norm ?_
      refine At.reg rfl ?_
      refine Run.mv (h := ?_)
      refine Run.add (h := ?_)
      refine Run.eqi (b := ((j + 1 : Nat) : Int)) (by rw [wi64 (by omega) (by omega)]; omega) ?_
      refine Run.as (h := ?_)
      refine Run.fin ?_
      exact At.again (j + 1) (by omega) (by omega)
    · skip
      refine At.exit ?_
      refine At.then_exit ?_
      refine At.then_exit ?_
      refine At.inb_hit ?_
      refine At.inb_norm ?_
      have hje : j = (f i).2.2.length := by omega
      subst hje
      refine At.chunks (L' := packN n (fun m => if m < i + 1 then drow (ff7 f m) else drow (f m)) :: F) (fun _ hf => packN_close (k := i) (c := fun m => if m < i then drow (ff7 f m) else drow (f m)) (by omega) (fun m hm hne => by
        by_cases h : m < i
        · rw [if_pos h, if_pos (by omega)]
        · rw [if_neg h, if_neg (by omega)]) (by
        rw [if_pos (Nat.lt_succ_self _)]
        rw [show mid7 i (f i).2.2.length (f i).2.2 = t7 i (f i).2.2.length by simp [mid7]] at hf
        exact hf)) ?_
      refine At.reg rfl ?_
      refine Run.mv (h := ?_)
      refine Run.add (h := ?_)
      refine Run.eqi (b := ((i + 1 : Nat) : Int)) (by rw [wi64 (by omega) (by omega)]; omega) ?_
      refine Run.as (h := ?_)
      refine Run.fin ?_
      exact At.again (i + 1) (by omega) (by omega)
  · skip
    refine At.exit ?_
    refine At.then_exit ?_
    refine At.then_exit ?_
    refine At.inb_hit ?_
    refine At.seq ?_
    have hie : n = i := by omega
    refine At.chunks (L' := packN n (fun m => drow (ff7 f m)) :: F) (fun _ hf => packN_close0 (fun m hm => by rw [if_pos (by omega)]) hf) ?_
    refine At.chunks (L' := row 23 1 none 0 ((List.range 0).map (lc f (fun _ => (none, 0)))) :: packN n (fun m => if m < 0 then o2 f (fun _ => (none, 0)) m 70 else drow (ff7 f m)) :: F) (fun _ hf => Star.nilRow (by simp only [Nat.not_lt_zero, if_false]; exact hf)) ?_
    refine At.reg rfl ?_
    refine Run.as (h := ?_)
    refine Run.fin ?_
    refine At.seq ?_
    refine At.seq ?_
    refine At.reg rfl ?_
    refine Run.as (h := ?_)
    refine Run.fin ?_
    refine At.block ?_
    refine At.loop (α := Nat × (Nat → Option Addr × Nat) × Option Addr × Nat) (fun x => ⟨[(0, .slice lo n lcp), (5, .slice x.2.2.1 x.1 x.2.2.2), (6, .int .i64 x.1)], row 23 1 x.2.2.1 x.2.2.2 ((List.range x.1).map (lc f x.2.1)) :: packN n (fun m => if m < x.1 then o2 f x.2.1 m 70 else drow (ff7 f m)) :: F, []⟩) (fun x => x.1 ≤ n) (fun x => n - x.1) ((0, (fun _ => (none, 0)), none, 0)) (Nat.zero_le _) (Ent.of (by repeat (first | exact SubE.nil | refine SubE.cons (by first | rfl | (show some _ = some _; simp; done)) ?_)) (by repeat (first | exact SubL.refl | refine SubL.cons (by repeat (first | exact Pick.here | apply Pick.there)) ?_ | refine SubL.skip ?_ | exact SubL.nil))) (fun x hx => ?_)
    obtain ⟨i, e, xo, xc⟩ := x
    dsimp only at hx ⊢
    have hi := hx
    refine At.seq ?_
    refine At.seq ?_
    refine At.reg rfl ?_
    refine Run.mv (h := ?_)
    refine Run.mv (h := ?_)
    refine Run.len Tb.L39 (h := ?_)
    refine Run.lt (h := ?_)
    refine Run.fin ?_
    refine At.cnd' (ht := fun hc43 => ?_) (hf := fun hc43 => ?_)
    · skip
      have hli := hlen i (by omega)
      refine At.skip ?_
      refine At.seq ?_
      refine At.block ?_
      refine At.seq ?_
      refine At.reg rfl ?_
      refine Run.mv (h := ?_)
      refine Run.mv (h := ?_)
      refine Run.iaR (ht := Tb.L39) (hR := hl.sub) (j := i) (hj := rfl) (h1 := by simp; omega) (hn := by omega) (h := ?_)
      refine Run.ldr0 (ht := Tb.A23) (hR := hl.sub) (hj := range_at (by omega)) (h := ?_)
      refine Run.as (h := ?_)
      refine Run.fin ?_
      refine At.seq ?_
      refine At.seq ?_
      refine At.reg rfl ?_
      refine Run.as (h := ?_)
      refine Run.fin ?_
      refine At.block ?_
      refine At.chunks (L' := own2 5 1 (f i).1 (f i).2.1 (ints .u8 (t7 i (f i).2.2.length)) ((f i).1, (f i).2.1) (ints .u8 (t200 i (0))) :: row 23 1 xo xc ((List.range i).map (lc f e)) :: restN n i (fun m => if m < i then o2 f e m 70 else drow (ff7 f m)) :: F) (fun _ hf => by
        have h9 := packN_open (k := i) (by omega) (Star.swap hf)
        rw [if_neg (Nat.lt_irrefl _)] at h9
        exact Star.head_mono (fun _ h => own2_mk h) (Star.cons_mono (fun _ h => Star.swap h) h9)) ?_
      refine At.loop (α := Nat × Option Addr × Nat) (fun x => ⟨[(0, .slice lo n lcp), (5, .slice xo i xc), (6, .int .i64 i), (7, .slice x.2.1 ((f i).2.2.length + x.1) x.2.2), (8, .int .i64 x.1)], own2 5 1 (f i).1 (f i).2.1 (ints .u8 (t7 i (f i).2.2.length)) (x.2) (ints .u8 (t200 i (x.1))) :: row 23 1 xo xc ((List.range i).map (lc f e)) :: restN n i (fun m => if m < i then o2 f e m 70 else drow (ff7 f m)) :: F, []⟩) (fun x => x.1 ≤ 70) (fun x => 70 - x.1) ((0, (f i).1, (f i).2.1)) (Nat.zero_le _) (Ent.of (by repeat (first | exact SubE.nil | refine SubE.cons (by first | rfl | (show some _ = some _; simp; done)) ?_)) (by repeat (first | exact SubL.refl | refine SubL.cons (by repeat (first | exact Pick.here | apply Pick.there)) ?_ | refine SubL.skip ?_ | exact SubL.nil))) (fun x hk => ?_)
      obtain ⟨k, ao, cp⟩ := x
      dsimp only at hk ⊢
      refine At.seq ?_
      refine At.seq ?_
      refine At.reg rfl ?_
      refine Run.mv (h := ?_)
      refine Run.lt (h := ?_)
      refine Run.fin ?_
      refine At.cnd' (ht := fun hc51 => ?_) (hf := fun hc51 => ?_)
      · skip
        refine At.skip ?_
        refine At.seq ?_
        refine At.block ?_
        refine At.reg rfl ?_
        refine Run.mv (h := ?_)
        refine Run.mv (h := ?_)
        refine Run.add (h := ?_)
        refine Run.eqi (b := (200 + (i : Int) : Int)) (wi64 (by omega) (by omega)) ?_
        refine Run.mv (h := ?_)
        refine Run.add (h := ?_)
        refine Run.eqi (b := (200 + (i : Int) + (k : Int) : Int)) (wi64 (by omega) (by omega)) ?_
        refine Run.cv Tb.I3 Tb.I5 (h := ?_)
        refine Run.bs Tb.G23 (h := fun g60 => ?_)
        refine Run.apO (ht := Tb.G23) (e2 := (ao, cp)) (hR := .one) (hn := by rw [ints_length, ints_length, t7_len, t200_len]) (hlen := by rw [ints_length, ints_length, t7_len, t200_len]; simp [maxLen]; omega) (hby := by rw [ints_length, ints_length, t7_len, t200_len]; simp; omega) (l2 := ints .u8 (t200 i (k + 1))) (hl2 := by rw [← t200_succ]; exact ints_snoc) (n2 := (f i).2.2.length + (k + 1)) (hn2 := by rw [ints_length, ints_length, t7_len, t200_len]; rfl) (h := fun ao61 cp61 => ?_)
        refine Run.as (h := ?_)
        refine Run.fin ?_
        refine At.inb_norm ?_
        refine At.reg rfl ?_
        refine Run.mv (h := ?_)
        refine Run.add (h := ?_)
        refine Run.eqi (b := ((k + 1 : Nat) : Int)) (by rw [wi64 (by omega) (by omega)]; omega) ?_
        refine Run.as (h := ?_)
        refine Run.fin ?_
        exact At.again ((k + 1, ao61, cp61)) (by dsimp only; omega) (by dsimp only; omega)
      · skip
        refine At.exit ?_
        refine At.then_exit ?_
        refine At.then_exit ?_
        refine At.inb_hit ?_
        obtain rfl : k = 70 := by omega
        refine At.reg rfl ?_
        refine Run.mv (h := ?_)
        refine Run.mv (h := ?_)
        refine Run.bs Tb.G39 (h := fun g64 => ?_)
        refine Run.ap (ht := Tb.G39) (hR := .one) (hn := by simp) (n2 := i + 1) (l2 := (List.range i).map (lc f e) ++ [lc f (up e i (ao, cp)) i]) (hl2 := by unfold lc; rw [up_same]) (hn2 := by simp) (hlen := by simp [maxLen]; omega) (hby := by simp; omega) (h := fun ao65 cp65 => ?_)
        refine Run.as (h := ?_)
        refine Run.fin ?_
        refine At.inb_norm ?_
        refine At.chunks (L' := row 23 1 ao65 cp65 ((List.range (i + 1)).map (lc f (up e i (ao, cp)))) :: packN n (fun m => if m < i + 1 then o2 f (up e i (ao, cp)) m 70 else drow (ff7 f m)) :: F) (fun _ hf => by
          have h9 : Star (row 23 1 ao65 cp65 ((List.range i).map (lc f e) ++ [lc f (up e i (ao, cp)) i]) :: own2 5 1 (f i).1 (f i).2.1 (ints .u8 (t7 i (f i).2.2.length)) (ao, cp) (ints .u8 (t200 i (70))) :: restN n i (fun m => if m < i then o2 f e m 70 else drow (ff7 f m)) :: F) _ := SubL.star (by repeat (first | exact SubL.refl | refine SubL.cons (by repeat (first | exact Pick.here | apply Pick.there)) ?_ | refine SubL.skip ?_ | exact SubL.nil)) hf
          rw [lc_up] at h9
          exact Star.cons_mono (fun _ h => packN_close (k := i) (c := fun m => if m < i then o2 f e m 70 else drow (ff7 f m)) (by omega) (fun m hm hne => by
            by_cases h : m < i
            · rw [if_pos h, if_pos (by omega)]; unfold o2; rw [up_ne hne]
            · rw [if_neg h, if_neg (by omega)]) (by rw [if_pos (Nat.lt_succ_self _)]; unfold o2; rw [up_same]; exact h)) h9) ?_
        refine At.reg rfl ?_
        refine Run.mv (h := ?_)
        refine Run.add (h := ?_)
        refine Run.eqi (b := ((i + 1 : Nat) : Int)) (by rw [wi64 (by omega) (by omega)]; omega) ?_
        refine Run.as (h := ?_)
        refine Run.fin ?_
        exact At.again ((i + 1, up e i (ao, cp), ao65, cp65)) (by dsimp only; omega) (by dsimp only; omega)
    · skip
      refine At.exit ?_
      refine At.then_exit ?_
      refine At.then_exit ?_
      refine At.inb_hit ?_
      refine At.seq ?_
      refine At.seq ?_
      have hie : n = i := by omega
      subst hie
      refine At.chunks (L' := row 23 1 xo xc ((List.range n).map (lc f e)) :: packN n (fun m => o2 f e m 70) :: F) (fun _ hf => Star.cons_mono (fun _ => packN_close0 (fun m hm => by rw [if_pos (by omega)])) hf) ?_
      refine At.o2N (hp := by repeat (first | exact Pick.here | apply Pick.there)) (h := fun hro2 => ?_)
      refine At.rowR (h := fun hxR _ _ _ => ?_)
      refine At.reg rfl ?_
      refine Run.as (h := ?_)
      refine Run.fin ?_
      refine At.block ?_
      refine At.loop (α := Nat) (fun i => ⟨[(0, .slice lo n lcp), (5, .slice xo n xc), (9, .int .i64 i)], row 23 1 xo xc ((List.range n).map (lc f e)) :: packN n (fun m => o2 f e m 70) :: F, []⟩) (fun i => i ≤ n) (fun i => n - i) (0) (Nat.zero_le _) (Ent.of (by repeat (first | exact SubE.nil | refine SubE.cons (by first | rfl | (show some _ = some _; simp; done)) ?_)) (by repeat (first | exact SubL.refl | refine SubL.cons (by repeat (first | exact Pick.here | apply Pick.there)) ?_ | refine SubL.skip ?_ | exact SubL.nil))) (fun i hi => ?_)
      refine At.seq ?_
      refine At.seq ?_
      refine At.reg rfl ?_
      refine Run.mv (h := ?_)
      refine Run.mv (h := ?_)
      refine Run.len Tb.L39 (h := ?_)
      refine Run.lt (h := ?_)
      refine Run.fin ?_
      refine At.cnd' (ht := fun hc69 => ?_) (hf := fun hc69 => ?_)
      · skip
        have hli := hlen i (by omega)
        have hro := (hro2 i (by omega)).1
        have hrn := (hro2 i (by omega)).2
        refine At.skip ?_
        refine At.seq ?_
        refine At.block ?_
        refine At.seq ?_
        refine At.seq ?_
        refine At.reg rfl ?_
        refine Run.as (h := ?_)
        refine Run.fin ?_
        refine At.block ?_
        refine At.loop (α := Nat) (fun j => ⟨[(0, .slice lo n lcp), (5, .slice xo n xc), (9, .int .i64 i), (10, .int .i64 j)], row 23 1 xo xc ((List.range n).map (lc f e)) :: packN n (fun m => o2 f e m 70) :: F, []⟩) (fun j => j ≤ (f i).2.2.length) (fun j => (f i).2.2.length - j) (0) (Nat.zero_le _) (Ent.of (by repeat (first | exact SubE.nil | refine SubE.cons (by first | rfl | (show some _ = some _; simp; done)) ?_)) (by repeat (first | exact SubL.refl | refine SubL.cons (by repeat (first | exact Pick.here | apply Pick.there)) ?_ | refine SubL.skip ?_ | exact SubL.nil))) (fun j hj => ?_)
        refine At.seq ?_
        refine At.seq ?_
        refine At.reg rfl ?_
        refine Run.mv (h := ?_)
        refine Run.mv (h := ?_)
        refine Run.mv (h := ?_)
        refine Run.iaR (ht := Tb.L39) (hR := hl.sub) (j := i) (hj := rfl) (h1 := by simp; omega) (hn := by omega) (h := ?_)
        refine Run.ldr0 (ht := Tb.A23) (hR := hl.sub) (hj := range_at (by omega)) (h := ?_)
        refine Run.len Tb.L23 (h := ?_)
        refine Run.lt (h := ?_)
        refine Run.fin ?_
        refine At.cnd' (ht := fun hc78 => ?_) (hf := fun hc78 => ?_)
        · skip
          refine At.skip ?_
          refine At.seq ?_
          refine At.block ?_
          refine At.seq ?_
          refine At.reg rfl ?_
          refine Run.mv (h := ?_)
          refine Run.mv (h := ?_)
          refine Run.iaR (ht := Tb.L39) (hR := hl.sub) (j := i) (hj := rfl) (h1 := by simp; omega) (hn := by omega) (h := ?_)
          refine Run.ldr0 (ht := Tb.A23) (hR := hl.sub) (hj := range_at (by omega)) (h := ?_)
          refine Run.mv (h := ?_)
          refine Run.iaR (ht := Tb.L23) (hR := (hro _ _ (by repeat (first | exact Pick.here | apply Pick.there)))) (j := j) (hj := rfl) (h1 := by rw [ints_length, t7_len]; omega) (hn := by omega) (h := ?_)
          refine Run.ldr0 (ht := Tb.A5) (hR := (hro _ _ (by repeat (first | exact Pick.here | apply Pick.there)))) (hj := Sx.ints_at (by rw [t7_len]; omega)) (h := ?_)
          refine Run.mv (h := ?_)
          refine Run.mul (h := ?_)
          refine Run.eqi (b := (7 * (i : Int) : Int)) (wi64 (by omega) (by omega)) ?_
          refine Run.mv (h := ?_)
          refine Run.mul (h := ?_)
          refine Run.eqi (b := (3 * (j : Int) : Int)) (wi64 (by omega) (by omega)) ?_
          refine Run.add (h := ?_)
          refine Run.eqi (b := (7 * (i : Int) + 3 * (j : Int) : Int)) (wi64 (by omega) (by omega)) ?_
          refine Run.add (h := ?_)
          refine Run.eqi (b := (7 * (i : Int) + 3 * (j : Int) + 1 : Int)) (wi64 (by omega) (by omega)) ?_
          refine Run.cv Tb.I3 Tb.I5 (h := ?_)
          refine Run.eqi (b := b7 i j) rfl ?_
          refine Run.ne (h := ?_)
          refine Run.fin ?_
          refine At.cnd' (ht := fun hc95 => ?_) (hf := fun hc95 => ?_)
          · skip
            exact absurd hc95 (by rw [t7_at (by omega)]; exact fun h => h rfl)
          · skip
            refine At.skip ?_
            refine At.inb_norm ?_
            refine At.reg rfl ?_
            refine Run.mv (h := ?_)
            refine Run.add (h := ?_)
            refine Run.eqi (b := ((j + 1 : Nat) : Int)) (by rw [wi64 (by omega) (by omega)]; omega) ?_
            refine Run.as (h := ?_)
            refine Run.fin ?_
            exact At.again (j + 1) (by omega) (by omega)
        · skip
          refine At.exit ?_
          refine At.then_exit ?_
          refine At.then_exit ?_
          refine At.inb_hit ?_
          refine At.seq ?_
          refine At.reg rfl ?_
          refine Run.as (h := ?_)
          refine Run.fin ?_
          refine At.block ?_
          refine At.loop (α := Nat) (fun k => ⟨[(0, .slice lo n lcp), (5, .slice xo n xc), (9, .int .i64 i), (11, .int .i64 k)], row 23 1 xo xc ((List.range n).map (lc f e)) :: packN n (fun m => o2 f e m 70) :: F, []⟩) (fun k => k ≤ 70) (fun k => 70 - k) (0) (Nat.zero_le _) (Ent.of (by repeat (first | exact SubE.nil | refine SubE.cons (by first | rfl | (show some _ = some _; simp; done)) ?_)) (by repeat (first | exact SubL.refl | refine SubL.cons (by repeat (first | exact Pick.here | apply Pick.there)) ?_ | refine SubL.skip ?_ | exact SubL.nil))) (fun k hk => ?_)
          refine At.seq ?_
          refine At.seq ?_
          refine At.reg rfl ?_
          refine Run.mv (h := ?_)
          refine Run.lt (h := ?_)
          refine Run.fin ?_
          refine At.cnd' (ht := fun hc97 => ?_) (hf := fun hc97 => ?_)
          · skip
            refine At.skip ?_
            refine At.seq ?_
            refine At.block ?_
            refine At.seq ?_
            refine At.draw [(0, 0), (1, 0), (2, 0), (4, 0), (5, 0), (6, 0), (9, 0), (13, 0), (14, 0), (15, 0), (16, 0), (17, 0), (3, 1), (7, 1), (8, 0), (10, 0), (11, 0), (12, 1), (18, 0)] Tb.mixed (by kernel_rfl) ?_
            refine Run.mv (h := ?_)
            refine Run.mv (h := ?_)
            refine Run.iaR (ht := Tb.L39) (hR := hxR (by repeat (first | exact Pick.here | apply Pick.there))) (j := i) (hj := rfl) (h1 := by simp; omega) (hn := by omega) (h := ?_)
            refine Run.mv (h := ?_)
            refine Run.mv (h := ?_)
            refine Run.iaR (ht := Tb.L39) (hR := hl.sub) (j := i) (hj := rfl) (h1 := by simp; omega) (hn := by omega) (h := ?_)
            refine Run.mv (h := ?_)
            refine Run.mv (h := ?_)
            refine Run.add (h := ?_)
            refine Run.eqi (b := (200 + (i : Int) : Int)) (wi64 (by omega) (by omega)) ?_
            refine Run.mv (h := ?_)
            refine Run.add (h := ?_)
            refine Run.eqi (b := (200 + (i : Int) + (k : Int) : Int)) (wi64 (by omega) (by omega)) ?_
            refine Run.cv Tb.I3 Tb.I5 (h := ?_)
            refine Run.eqi (b := b200 i k) rfl ?_
            refine Run.ldr0 (ht := Tb.A23) (hR := hxR (by repeat (first | exact Pick.here | apply Pick.there))) (hj := range_at (by omega)) (h := ?_)
            refine Run.ldr0 (ht := Tb.A23) (hR := hl.sub) (hj := range_at (by omega)) (h := ?_)
            refine Run.len Tb.L23 (h := ?_)
            refine Run.add (h := ?_)
            refine Run.eqi (b := (((f i).2.2.length + k : Nat) : Int)) (by rw [wi64 (by omega) (by omega)]; omega) ?_
            refine Run.iaR (ht := Tb.L23) (hR := (hrn _ _ (by repeat (first | exact Pick.here | apply Pick.there)))) (j := (f i).2.2.length + k) (hj := rfl) (h1 := by rw [List.length_append, ints_length, ints_length, t7_len, t200_len]; omega) (hn := by omega) (h := ?_)
            refine Run.ldr0 (ht := Tb.A5) (hR := (hrn _ _ (by repeat (first | exact Pick.here | apply Pick.there)))) (hj := by rw [ints_app]; exact Sx.ints_at (by rw [List.length_append, t7_len, t200_len]; omega)) (h := ?_)
            refine Run.ne (h := ?_)
            refine Run.fin ?_
            refine At.cnd' (ht := fun hc118 => ?_) (hf := fun hc118 => ?_)
            · skip
              exact absurd hc118 (by rw [getD_app t7_len.symm, t200_at (by omega)]; exact fun h => h rfl)
            · skip
              refine At.skip ?_
              refine At.inb_norm ?_
              refine At.reg rfl ?_
              refine Run.mv (h := ?_)
              refine Run.add (h := ?_)
              refine Run.eqi (b := ((k + 1 : Nat) : Int)) (by rw [wi64 (by omega) (by omega)]; omega) ?_
              refine Run.as (h := ?_)
              refine Run.fin ?_
              exact At.again (k + 1) (by omega) (by omega)
          · skip
            refine At.exit ?_
            refine At.then_exit ?_
            refine At.then_exit ?_
            refine At.inb_hit ?_
            refine At.inb_norm ?_
            refine At.reg rfl ?_
            refine Run.mv (h := ?_)
            refine Run.add (h := ?_)
            refine Run.eqi (b := ((i + 1 : Nat) : Int)) (by rw [wi64 (by omega) (by omega)]; omega) ?_
            refine Run.as (h := ?_)
            refine Run.fin ?_
            exact At.again (i + 1) (by omega) (by omega)
      · skip
        refine At.exit ?_
        refine At.then_exit ?_
        refine At.then_exit ?_
        refine At.inb_hit ?_
        refine At.seq ?_
        refine At.reg rfl ?_
        refine Run.as (h := ?_)
        refine Run.fin ?_
        refine At.ret ?_
        exact At.done (hΦ := by exact ⟨rfl, rfl⟩)
end Go.Proofs.Ytllpfpdanonhkaa
