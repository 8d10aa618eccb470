/- Walk: the extents of a moment (spindlelaw25.extents). No condition. -/
import Derived.Test.YtllpfpdanonhkaaPlJoin
import Derived.Test.YtllpfpdanonhkaaRests
set_option maxRecDepth 8000
set_option maxHeartbeats 4000000
set_option linter.unusedVariables false
set_option linter.unusedSimpArgs false
namespace Go.Proofs.Ytllpfpdanonhkaa
open Go.Sx Go.RowKit

def bools (l : List Bool) : List (List Value) := l.map fun b => [.bool b]
def exn (d : List Int) (k : Nat) : Nat := min 4 (d.length - 4 * k)
def exAt (p d : List Int) (h : List Bool) (k : Nat) : Ex := ⟨(4 * k : Nat), (exn d k : Nat), h.getD k false, false, !(decide (p.length = d.length) && decide (part p (4 * k) (exn d k) = part d (4 * k) (exn d k)))⟩
def exts (p d : List Int) (h : List Bool) (n : Nat) : List Ex := (List.range n).map (exAt p d h)
theorem exts_succ {p d : List Int} {h : List Bool} {k : Nat} : exts p d h (k + 1) = exts p d h k ++ [exAt p d h k] := by simp [exts, List.range_succ]

theorem quo4 {k : Nat} (h : k ≤ 33554432) : IntKind.i64.wrap (Int.tdiv ((4 * k : Nat) : Int) 4) = (k : Int) := by
  have e : Int.tdiv ((4 * k : Nat) : Int) 4 = (k : Int) := by rw [Int.tdiv_eq_ediv_of_nonneg (by omega)]; omega
  rw [e, wi64 (by omega) (by omega)]
theorem bools_at {h : List Bool} {k : Nat} (hk : k < h.length) : (bools h)[k]? = some [.bool (h.getD k false)] := by simp [bools, List.getD, hk]

open Classical in
noncomputable def jA (X Y : Ar) : Ar := if (May X ∧ May Y) ∧ linkJ X Y then ⟨Y.id, X.par, X.size, joinRs X Y⟩ else ⟨0, 0, 0, []⟩
open Classical in
noncomputable def jE (X Y : Ar) : Int := if May X ∧ May Y then (if linkJ X Y then 0 else 251) else 250
def JPost (X Y : Ar) (L : List HP) : Value → List HP → Prop := fun u L' => ∃ ao cp rs, pures rs = (jA X Y).runs ∧ (∀ r ∈ rs, RnOk r.1) ∧ rs.length ≤ 33554432 ∧ u = .tuple #[.agg #[.int .u64 (jA X Y).id, .int .u64 (jA X Y).par, .int .u64 (jA X Y).size, .slice ao rs.length cp], .int .i64 (jE X Y)] ∧ L' = Rns ao cp rs :: L
theorem jfold_len {X Y : Ar} : ∀ {l : List Xt} {acc : List Rn}, (l.foldl (jstep X Y) acc).length ≤ acc.length + l.length
  | [], acc => by simp
  | e :: l, acc => by
    have h1 := jfold_len (X := X) (Y := Y) (l := l) (acc := jstep X Y acc e)
    have h2 : (jstep X Y acc e).length ≤ acc.length + 1 := by
      unfold jstep
      split
      · omega
      · split
        · exact layP_len
        · omega
    rw [List.foldl_cons, List.length_cons]; omega
theorem jPost_of {x y : AV} {L L' : List HP} {u : Value} {B : Int} (hx : AvOk x) (hy : AvOk y) (h : (¬ (May x.ar ∧ May y.ar) ∧ u = .tuple #[.agg #[.int .u64 0, .int .u64 0, .int .u64 0, .slice none 0 0], .int .i64 250] ∧ L' = L) ∨ ((May x.ar ∧ May y.ar) ∧ ¬ linkJ x.ar y.ar ∧ u = .tuple #[.agg #[.int .u64 0, .int .u64 0, .int .u64 0, .slice none 0 0], .int .i64 251] ∧ L' = L) ∨
    ((May x.ar ∧ May y.ar) ∧ linkJ x.ar y.ar ∧ ∃ ao cp rs, pures rs = joinRs x.ar y.ar ∧ (∀ r ∈ pures rs, RnB B r) ∧ u = .tuple #[.agg #[.int .u64 y.id, .int .u64 x.par, .int .u64 x.size, .slice ao rs.length cp], .int .i64 0] ∧ L' = Rns ao cp rs :: L)) : ∃ L2, JPost x.ar y.ar L u L2 ∧ ∀ fr, Star L' fr → Star L2 fr := by
  rcases h with ⟨h1, rfl, rfl⟩ | ⟨h1, h2, rfl, rfl⟩ | ⟨h1, h2, ao, cp, rs, h3, h4, rfl, rfl⟩
  · refine ⟨_, ⟨none, 0, [], ?_, (fun r h => by cases h), Nat.zero_le _, ?_, rfl⟩, fun _ => Rns_nil⟩
    · unfold jA; rw [if_neg (fun h => h1 h.1)]; rfl
    · unfold jA jE; rw [if_neg (fun h => h1 h.1), if_neg h1]; rfl
  · refine ⟨_, ⟨none, 0, [], ?_, (fun r h => by cases h), Nat.zero_le _, ?_, rfl⟩, fun _ => Rns_nil⟩
    · unfold jA; rw [if_neg (fun h => h2 h.2)]; rfl
    · unfold jA jE; rw [if_neg (fun h => h2 h.2), if_pos h1, if_neg h2]; rfl
  · refine ⟨_, ⟨ao, cp, rs, ?_, fun r hr => (h4 r.1 (List.mem_map.2 ⟨r, hr, rfl⟩)).1, ?_, ?_, rfl⟩, fun _ h => h⟩
    · unfold jA; rw [if_pos ⟨h1, h2⟩, h3]
    · have e1 := congrArg List.length h3
      have e2 := jfold_len (X := x.ar) (Y := y.ar) (l := fin2 x.ar y.ar) (acc := [])
      have hys : y.size = x.size := by have := h2; unfold linkJ at this; simp only [AV.ar] at this; omega
      have e3 := (fin_til (fits_of h1.1 h1.2 hys hx hy)).1.le.2
      have e4 : x.ar.size ≤ 33554432 := h1.1.2.2.2.1
      unfold joinRs at e1
      simp [pures] at e1 e2; omega
    · unfold jA jE; rw [if_pos ⟨h1, h2⟩, if_pos h1, if_pos h2]; rfl
theorem join2 {w0 : World} {L : List HP} {x y : AV} (hx : AvOk x) (hy : AvOk y) (hrx : RdA w0 L x) (hry : RdA w0 L y) (hcx : ∀ r ∈ x.rs, r.1.data.length ≤ r.2.2) (hcy : ∀ r ∈ y.rs, r.1.data.length ≤ r.2.2) : CallOk Tb.P w0 L 27 [.agg #[.int .u64 x.id, .int .u64 x.par, .int .u64 x.size, .slice x.ao x.rs.length x.cp], .agg #[.int .u64 y.id, .int .u64 y.par, .int .u64 y.size, .slice y.ao y.rs.length y.cp]] (JPost x.ar y.ar L) :=
  (join_ hx hy hrx hry hcx hcy).mono2 fun _ _ h => jPost_of hx hy h
theorem rjoin2 {w0 : World} {L : List HP} {x y : AV} (hx : AvOk x) (hy : AvOk y) (hrx : RdA w0 L x) (hry : RdA w0 L y) : CallOk Tb.P w0 L 28 [.agg #[.int .u64 x.id, .int .u64 x.par, .int .u64 x.size, .slice x.ao x.rs.length x.cp], .agg #[.int .u64 y.id, .int .u64 y.par, .int .u64 y.size, .slice y.ao y.rs.length y.cp]] (JPost x.ar y.ar L) :=
  (rjoin hx hy hrx hry).mono2 fun _ _ h => jPost_of hx hy (h.imp (fun h => h) (Or.imp (fun h => h) fun ⟨h1, h2, ao, cp, rs, h3, h4, h5, h6⟩ => ⟨h1, h2, ao, cp, rs, by
    have hys : y.size = x.size := by have := h2; unfold linkJ at this; simp only [AV.ar] at this; omega
    rw [h3, join_eq h1.1 h1.2 hys hx hy], h4, h5, h6⟩))
theorem rsameT {w0 : World} {L : List HP} {i1 p1 s1 : Int} {a1 a2 : Option Addr} {c1 c2 : Nat} {r1 r2 : List RV} (h1 : RdS w0 L 4 a1 (r1.map cellsV)) (h2 : RdS w0 L 4 a2 (r2.map cellsV)) (d1 : ∀ r ∈ r1, RdS w0 L 1 r.2.1 (ints .u8 r.1.data)) (d2 : ∀ r ∈ r2, RdS w0 L 1 r.2.1 (ints .u8 r.1.data)) (l1 : r1.length ≤ 1099511627776) (k1 : ∀ r ∈ r1, r.1.data.length ≤ 1099511627776) (e : pures r1 = pures r2) :
    CallOk Tb.P w0 L 14 [.agg #[.int .u64 i1, .int .u64 p1, .int .u64 s1, .slice a1 r1.length c1], .agg #[.int .u64 i1, .int .u64 p1, .int .u64 s1, .slice a2 r2.length c2]] fun u L' => u = .bool true ∧ L' = L :=
  (rsameA h1 h2 d1 d2 l1 k1).mono fun u L' ⟨b, hu, hb, hl⟩ => ⟨by rw [hu, hb.2 (by rw [e])], hl⟩
section
variable {c : Cx} {n : Nat} {S : St} {X : Act → World → Prop}
theorem At.caps {F : List HP} {ao : Option Addr} {cp : Nat} {rs : List RV} (hp : Pick S.L (Rns ao cp rs) F) (h : (∀ r ∈ rs, r.1.data.length ≤ r.2.2) → At c n S X) : At c n S X := fun a w hr hs => by
  have h0 := Rns_open.1 (hs.pick hp).star
  obtain ⟨f1, _, hrow, hst⟩ := h0
  refine h (fun r hrm => ?_) a w hr hs
  obtain ⟨l1, l2, rfl⟩ := List.append_of_mem hrm
  obtain ⟨f2, _, hpk, _⟩ := hst
  rw [List.map_append, List.map_cons] at hpk
  obtain ⟨f4, _, b4, _⟩ := (pick_mid (l := l1.map dat) (a := dat r) (F := l2.map dat)).star hpk
  have := (row_shape b4).2.2.2.1
  simpa [ints_length] using this
end
theorem copy_ok {x : AV} {rs : List RV} {ao : Option Addr} {cp : Nat} (h : pures rs = pures x.rs) (hx : AvOk x) : AvOk ⟨x.id, x.par, x.size, ao, cp, rs⟩ := ⟨hx.1, hx.2.1, hx.2.2.1, by show rs.length ≤ _; rw [len_pures h]; exact hx.2.2.2.1, ok_pures h hx.2.2.2.2⟩
theorem copy_ar {x : AV} {rs : List RV} {ao : Option Addr} {cp : Nat} (h : pures rs = pures x.rs) : (⟨x.id, x.par, x.size, ao, cp, rs⟩ : AV).ar = x.ar := by simp [AV.ar, h]

theorem extents_ {w0 : World} {L : List HP} {p d : List Int} {h : List Bool} {po do_ mo ho : Option Addr} {pc dc mn mc hc : Nat} (hp : RdS w0 L 1 po (ints .u8 p)) (hd : RdS w0 L 1 do_ (ints .u8 d)) (hh : RdS w0 L 1 ho (bools h)) (hpc : p.length ≤ pc) (hdc : d.length ≤ dc) (hdl : d.length ≤ 33554432) (hpl : p.length ≤ 33554432) (hhl : h.length ≤ 33554432) :
    CallOk Tb.P w0 L 29 [.slice po p.length pc, .slice do_ d.length dc, .agg #[.slice mo mn mc, .slice ho h.length hc]] fun u L' => ∃ ao cp, (Els 5 ((exts p d h ((d.length + 3) / 4)).map cellsE) ∧ (((exts p d h ((d.length + 3) / 4)).map cellsE) = [] ∨ ∃ a, ao = some a) ∧ (∀ a, ao = some a → a.spot = none)) ∧ u = .slice ao (exts p d h ((d.length + 3) / 4)).length cp ∧ L' = row 37 5 ao cp ((exts p d h ((d.length + 3) / 4)).map cellsE) :: L := by
  refine enter Try.func29 rfl Try.ntmps29 (Nat.le_of_ble_eq_true rfl) ?_
  refine At.seq ?_
  refine At.reg rfl ?_
  refine Run.bx (h := fun g5 => ?_)
  refine Run.as (h := ?_)
  refine Run.fin ?_
  refine At.seq ?_
  refine At.reg rfl ?_
  refine Run.as (h := ?_)
  refine Run.fin ?_
  refine At.seq ?_
  refine At.seq ?_
  refine At.reg rfl ?_
  refine Run.as (h := ?_)
  refine Run.fin ?_
  refine At.block ?_
  refine At.chunks (fun _ hf => Star.nilRow (e := 37) (sz := 5) hf) ?_
  refine At.loop (α := Nat × Option Addr × Nat) (fun x => ⟨[(0, .slice po p.length pc), (1, .slice do_ d.length dc), (5, .pointer (some ⟨g5, 0, none⟩)), (7, .slice x.2.1 (exts p d h x.1).length x.2.2), (8, .int .i64 (4 * x.1 : Nat))], row 37 5 x.2.1 x.2.2 ((exts p d h x.1).map cellsE) :: cel g5 65 [.slice mo mn mc, .slice ho h.length hc] :: L, []⟩) (fun x => x.1 ≤ (d.length + 3) / 4) (fun x => (d.length + 3) / 4 - x.1) ((0, none, 0)) (Nat.zero_le _) (Ent.of (by repeat (first | exact SubE.nil | refine SubE.cons (by first | rfl | (show some _ = some _; simp; done)) ?_)) (by repeat (first | exact SubL.refl | refine SubL.cons (by repeat (first | exact Pick.here | apply Pick.there)) ?_ | refine SubL.skip ?_ | exact SubL.nil))) (fun x hx => ?_)
  obtain ⟨k, a1, c1⟩ := x
  dsimp only at hx ⊢
  have hk := hx
  have hel : (exts p d h k).length = k := by simp [exts]
  refine At.seq ?_
  refine At.seq ?_
  refine At.reg rfl ?_
  refine Run.mv (h := ?_)
  refine Run.mv (h := ?_)
  refine Run.len Tb.L23 (h := ?_)
  refine Run.lt (h := ?_)
  refine Run.fin ?_
  refine At.cnd' (ht := fun hc15 => ?_) (hf := fun hc15 => ?_)
  · skip
    refine At.skip ?_
    refine At.seq ?_
    refine At.block ?_
    refine At.seq ?_
    refine At.reg rfl ?_
    refine Run.mv (h := ?_)
    refine Run.len Tb.L23 (h := ?_)
    refine Run.mv (h := ?_)
    refine Run.sub (h := ?_)
    refine Run.eqi (b := (d.length : Int) - (4 * k : Nat)) (wi64 (by omega) (by omega)) ?_
    refine Run.min2 (h := ?_)
    refine Run.eqi (b := ((exn d k : Nat) : Int)) (by unfold exn; omega) ?_
    have hen : 4 * k + exn d k ≤ d.length := by unfold exn; omega
    refine Run.as (h := ?_)
    refine Run.fin ?_
    refine At.seq ?_
    refine At.reg rfl ?_
    refine Run.mv (h := ?_)
    refine Run.cvf Tb.I3 Tb.I22 (hw := by first | exact wi64 (by omega) (by omega) | exact wu64 (by omega) (by omega)) (h := ?_)
    refine Run.mv (h := ?_)
    refine Run.cvf Tb.I3 Tb.I22 (hw := by first | exact wi64 (by omega) (by omega) | exact wu64 (by omega) (by omega)) (h := ?_)
    refine Run.mv (h := ?_)
    refine Run.quo (hb := by decide) (h := ?_)
    refine Run.eqi (b := ((k : Nat) : Int)) (quo4 (by omega)) ?_
    refine Run.fa Tb.F65_1 (h := ?_)
    refine Run.ld Tb.A63 (h := ?_)
    refine Run.len Tb.L63 (h := ?_)
    refine Run.lt (h := ?_)
    refine Run.mv (h := ?_)
    refine Run.andB 6 10 (bq := h.getD k false) (ht := fun hg40 => by
        refine Run.fa Tb.F65_1 (h := ?_)
        refine Run.ld Tb.A63 (h := ?_)
        refine Run.mv (h := ?_)
        refine Run.quo (hb := by decide) (h := ?_)
        refine Run.eqi (b := ((k : Nat) : Int)) (quo4 (by omega)) ?_
        refine Run.iaR (ht := Tb.L63) (hR := hh.sub) (j := k) (hj := rfl) (h1 := by simp [bools]; omega) (hn := by omega) (h := ?_)
        refine Run.ldr0 (ht := Tb.A4) (hR := hh.sub) (hj := bools_at (by omega)) (h := ?_)
        exact Run.fin_sc ScEnd.here) (hrest := ?_)
    refine Run.eqv (v' := .bool (h.getD k false)) (by by_cases hq : k < h.length <;> simp [List.getD, hq]) ?_
    refine Run.bd Tb.B37 (h := ?_)
    refine Run.al Tb.Z37 (h := fun g10 => ?_)
    refine Run.st Tb.S37 (h := ?_)
    refine Run.fin ?_
    refine At.seq ?_
    refine At.draw [(0, 0), (1, 0), (2, 0), (3, 0), (4, 0), (5, 0), (6, 0), (7, 0), (8, 0), (9, 0), (10, 0), (11, 0), (12, 0), (13, 0), (14, 0), (15, 0), (16, 0), (17, 0), (18, 3), (19, 0), (20, 0)] Tb.mixed (by kernel_rfl) ?_
    refine Run.mv (h := ?_)
    refine Run.len Tb.L23 (h := ?_)
    refine Run.mv (h := ?_)
    refine Run.len Tb.L23 (h := ?_)
    refine Run.eq (h := ?_)
    refine Run.mv (h := ?_)
    refine Run.andB 13 5 (bq := decide (part p (4 * k) (exn d k) = part d (4 * k) (exn d k))) (ht := fun hg61 => by
        refine Run.mv (h := ?_)
        refine Run.mv (h := ?_)
        refine Run.mv (h := ?_)
        refine Run.mv (h := ?_)
        refine Run.add (h := ?_)
        refine Run.eqi (b := ((4 * k + exn d k : Nat) : Int)) (by rw [wi64 (by omega) (by omega)]; omega) ?_
        refine Run.sl Tb.L23 (h0 := by omega) (h1 := by omega) (h2 := by omega) (hs := hp.plain (by simp; omega)) (hr := ?_)
        refine Run.eqv (v' := .slice (cutA po (4 * k) 1 pc) (part p (4 * k) (exn d k)).length (pc - 4 * k)) (by rw [part_length (by omega)]; congr 1; omega) ?_
        refine Run.mv (h := ?_)
        refine Run.mv (h := ?_)
        refine Run.mv (h := ?_)
        refine Run.mv (h := ?_)
        refine Run.add (h := ?_)
        refine Run.eqi (b := ((4 * k + exn d k : Nat) : Int)) (by rw [wi64 (by omega) (by omega)]; omega) ?_
        refine Run.sl Tb.L23 (h0 := by omega) (h1 := by omega) (h2 := by omega) (hs := hd.plain (by simp; omega)) (hr := ?_)
        refine Run.eqv (v' := .slice (cutA do_ (4 * k) 1 dc) (part d (4 * k) (exn d k)).length (dc - 4 * k)) (by rw [part_length (by omega)]; congr 1; omega) ?_
        refine Run.call Tb.N15 (hc := rsame (a := part p (4 * k) (exn d k)) (b := part d (4 * k) (exn d k)) (by rw [part, ← ints_drop, ← ints_take]; exact (hp.cut (a := 4 * k) (b := 4 * k + exn d k) (by simp; omega) (by simp; omega)).sub) (by rw [part, ← ints_drop, ← ints_take]; exact (hd.cut (a := 4 * k) (b := 4 * k + exn d k) (by simp; omega) (by simp; omega)).sub) (by rw [part_length (by omega)]; unfold exn; omega)) (hk := noun (by kernel_rfl)) (hin := nost (by kernel_rfl)) (h := ?_)
        rintro _ _ ⟨rfl, rfl⟩
        exact Run.fin_sc ScEnd.here) (hrest := ?_)
    refine Run.as (h := ?_)
    refine Run.fin ?_
    refine At.seq ?_
    refine At.reg rfl ?_
    refine Run.mv (h := ?_)
    refine Run.not (h := ?_)
    refine Run.fa Tb.F37_4 (h := ?_)
    refine Run.st Tb.S4 (h := ?_)
    refine Run.fin ?_
    refine At.reg rfl ?_
    refine Run.mv (h := ?_)
    refine Run.ldA Tb.A37 Tb.S37 (h := ?_)
    refine Run.bs Tb.G24 (h := fun g67 => ?_)
    refine Run.ap (ht := Tb.G24) (hR := .one (he := Els.nil.cons ⟨rfl, by simp [Value.oneCell']⟩)) (hn := by simp) (n2 := (exts p d h (k + 1)).length) (l2 := (exts p d h (k + 1)).map cellsE) (hl2 := by rw [exts_succ, List.map_append]; simp [cellsE, exAt, Int.ofNat_inj]) (hn2 := by simp [exts_succ]) (hlen := by simp [maxLen]; omega) (hby := by simp; omega) (h := fun ao68 cp68 => ?_)
    refine Run.as (h := ?_)
    refine Run.fin ?_
    refine At.inb_norm ?_
    refine At.reg rfl ?_
    refine Run.mv (h := ?_)
    refine Run.add (h := ?_)
    refine Run.eqi (b := ((4 * (k + 1) : Nat) : Int)) (by rw [wi64 (by omega) (by omega)]; omega) ?_
    refine Run.as (h := ?_)
    refine Run.fin ?_
    exact At.again ((k + 1, ao68, cp68)) (by dsimp only; omega) (by dsimp only; omega)
  · skip
    refine At.exit ?_
    refine At.then_exit ?_
    refine At.then_exit ?_
    refine At.inb_hit ?_
    refine At.seq ?_
    have hke : k = (d.length + 3) / 4 := by omega
    subst hke
    refine At.rows (h := fun hE hB hsp _ _ _ => ?_)
    refine At.reg rfl ?_
    refine Run.mv (h := ?_)
    refine Run.as (h := ?_)
    refine Run.fin ?_
    refine At.ret ?_
    exact At.done (hΦ := by exact ⟨a1, c1, ⟨hE, hB, hsp⟩, rfl, rfl⟩)
end Go.Proofs.Ytllpfpdanonhkaa
