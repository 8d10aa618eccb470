/- Walk: BackupMakes. No condition. -/
import Derived.Test.YtllpfpdanonhkaaOwn
import Derived.Test.YtllpfpdanonhkaaSxEqS
import Derived.KernelRfl
set_option maxRecDepth 8000
set_option maxHeartbeats 4000000
set_option linter.unusedVariables false
set_option linter.unusedSimpArgs false
namespace Go.Proofs.Ytllpfpdanonhkaa
open Go.Sx Go.RowKit

theorem eqs37 : eqsB Tb.P 37 = some [(22, 0), (22, 1), (4, 2), (4, 3), (4, 4)] := by kernel_rfl
theorem _root_.Go.Sx.CallOk.mono2 {P : Program} {w0 : World} {L : List HP} {f : FuncId} {args : List Value} {Φ Ψ : Value → List HP → Prop} (h : CallOk P w0 L f args Φ) (k : ∀ u L', Φ u L' → ∃ L2, Ψ u L2 ∧ ∀ fr, Star L' fr → Star L2 fr) : CallOk P w0 L f args Ψ :=
  fun w hs => (h w hs).mono fun _ _ ⟨u, L', e1, e2, e3⟩ => by
    obtain ⟨L2, k1, k2⟩ := k u L' e2
    exact ⟨u, L2, e1, k1, e3.mono k2⟩
/-- What making answers. -/
def mkA (id par : Int) (b : List Int) (l : List Ex) : Ar := if badArg id par b then ⟨0, 0, 0, []⟩ else if DevGo b 0 l then ⟨id, par, b.length, mkRuns par b l⟩ else ⟨0, 0, 0, []⟩
def mkE (id par : Int) (b : List Int) (l : List Ex) : Int := if badArg id par b then 2 else if DevGo b 0 l then 0 else 254
theorem mkRuns_len {par : Int} {b : List Int} : ∀ {l : List Ex} {acc : List Rn}, (l.foldl (mkStep par b) acc).length ≤ acc.length + l.length
  | [], acc => by simp
  | x :: l, acc => by
    have h1 := mkRuns_len (par := par) (b := b) (l := l) (acc := mkStep par b acc x)
    have h2 : (mkStep par b acc x).length ≤ acc.length + 1 := by
      unfold mkStep
      split
      · omega
      · exact layP_len
    rw [List.foldl_cons, List.length_cons]; omega
def MkPost (w0 : World) (id par : Int) (b : List Int) (l : List Ex) (L : List HP) : Value → List HP → Prop := fun u L' => ∃ ao' cp' rs', pures rs' = (mkA id par b l).runs ∧ (∀ r ∈ rs', RnOk r.1) ∧ rs'.length ≤ l.length ∧
  u = .tuple #[.agg #[.int .u64 (mkA id par b l).id, .int .u64 (mkA id par b l).par, .int .u64 (mkA id par b l).size, .slice ao' rs'.length cp'], .int .i64 (mkE id par b l)] ∧ L' = Rns ao' cp' rs' :: L
section
variable {w0 : World} {L : List HP} {id par : Int} {ao lo : Option Addr} {n cp m cl : Nat} {b : List Int} {l : List Ex} {u : Value} {L' : List HP}
theorem mkPost_of (hn : n = b.length) (h : (badArg id par b ∧ u = .tuple #[.agg #[.int .u64 0, .int .u64 0, .int .u64 0, .slice none 0 0], .int .i64 2] ∧ L' = L) ∨ (¬ badArg id par b ∧ ¬ DevGo b 0 l ∧ u = .tuple #[.agg #[.int .u64 0, .int .u64 0, .int .u64 0, .slice none 0 0], .int .i64 254] ∧ L' = L) ∨
    (¬ badArg id par b ∧ DevGo b 0 l ∧ ∃ ao' cp' rs, pures rs = mkRuns par b l ∧ (∀ r ∈ pures rs, RnB b.length r) ∧ u = .tuple #[.agg #[.int .u64 id, .int .u64 par, .int .u64 n, .slice ao' rs.length cp'], .int .i64 0] ∧ L' = Rns ao' cp' rs :: L)) :
    ∃ L2, MkPost w0 id par b l L u L2 ∧ ∀ fr, Star L' fr → Star L2 fr := by
  rcases h with ⟨h1, rfl, rfl⟩ | ⟨h1, h2, rfl, rfl⟩ | ⟨h1, h2, ao', cp', rs, h3, h4, rfl, rfl⟩
  · refine ⟨_, ⟨none, 0, [], ?_, (fun r h => by cases h), Nat.zero_le _, ?_, rfl⟩, fun _ => Rns_nil⟩ <;> simp [mkA, mkE, h1, pures]
  · refine ⟨_, ⟨none, 0, [], ?_, (fun r h => by cases h), Nat.zero_le _, ?_, rfl⟩, fun _ => Rns_nil⟩ <;> simp [mkA, mkE, h1, h2, pures]
  · refine ⟨_, ⟨ao', cp', rs, ?_, fun r hr => (h4 r.1 (List.mem_map.2 ⟨r, hr, rfl⟩)).1, ?_, ?_, rfl⟩, fun _ h => h⟩
    · simp [mkA, h1, h2, h3]
    · have := congrArg List.length h3
      have h5 := mkRuns_len (par := par) (b := b) (l := l) (acc := [])
      unfold mkRuns at this
      simp [pures] at this h5; omega
    · simp [mkA, mkE, h1, h2, hn]
theorem make2 (hid : 0 ≤ id ∧ id < 18446744073709551616) (hpar : 0 ≤ par ∧ par < 18446744073709551616) (hb : RdS w0 L 1 ao (ints .u8 b)) (hn : n = b.length) (hcp : n ≤ cp) (hle : n ≤ 1099511627776) (hy : Byt b) (hl : RdS w0 L 5 lo (l.map cellsE)) (hm : m = l.length) (hml : m ≤ 1099511627776) (hok : ∀ x ∈ l, ExOk x) :
    CallOk Tb.P w0 L 12 [.int .u64 id, .int .u64 par, .slice ao n cp, .slice lo m cl] (MkPost w0 id par b l L) :=
  (make_ hid hpar hb hn hcp hle hy hl hm hml hok).mono2 fun _ _ h => mkPost_of hn h
theorem rmake2 (hid : 0 ≤ id ∧ id < 18446744073709551616) (hpar : 0 ≤ par ∧ par < 18446744073709551616) (hb : RdS w0 L 1 ao (ints .u8 b)) (hn : n = b.length) (hcp : n ≤ cp) (hle : n ≤ 1099511627776) (hy : Byt b) (hl : RdS w0 L 5 lo (l.map cellsE)) (hm : m = l.length) (hml : m ≤ 1099511627776) (hok : ∀ x ∈ l, ExOk x) :
    CallOk Tb.P w0 L 13 [.int .u64 id, .int .u64 par, .slice ao n cp, .slice lo m cl] (MkPost w0 id par b l L) :=
  (rmake hid hpar hb hn hcp hle hy hl hm hml hok).mono2 fun _ _ h => mkPost_of hn (h.imp (fun h => h) (Or.imp (fun h => h) fun ⟨h1, h2, a, c, rs, h3, h4, _, h5, h6⟩ => ⟨h1, h2, a, c, rs, h3, h4, h5, h6⟩))
end
def rvD (r : RV) : DS := (r.2.1, r.2.2, r.1.data)
def dsl (r : RV) : List Value := [.slice r.2.1 r.1.data.length r.2.2]
theorem range_getD {α β : Type} {l : List α} {d : α} {g : α → β} : (List.range l.length).map (fun m => g (l.getD m d)) = l.map g := by
  apply List.ext_getElem?
  intro i
  by_cases h : i < l.length
  · rw [range_at h, List.getElem?_map, List.getElem?_eq_getElem h]; simp [List.getD, h]
  · rw [List.getElem?_eq_none (by simpa using h), List.getElem?_eq_none (by simpa using h)]
/-- Own, of runs' data. -/
theorem own_rv {w0 : World} {L F : List HP} {lo : Option Addr} {n lcp : Nat} {rs : List RV} (hp : Pick L (pack (rs.map dat)) F) (hl : RdS w0 F 1 lo (rs.map dsl)) (hn : n = rs.length) (hle : n ≤ 1099511627776) (hlen : ∀ r ∈ rs, r.1.data.length ≤ 1099511627776) : CallOk Tb.P w0 L 16 [.slice lo n lcp] fun u L' => u = .bool true ∧ L' = F := by
  subst hn
  have hr0 : ∀ m, m < rs.length → rs.getD m (⟨0, 0, false, []⟩, none, 0) ∈ rs := fun m h => by simp [List.getD, h]
  refine own_ (f := fun m => rvD (rs.getD m (⟨0, 0, false, []⟩, none, 0))) ?_ ?_ hle fun m hm => hlen _ (hr0 m hm)
  · have e : packN rs.length (fun m => drow (rvD (rs.getD m (⟨0, 0, false, []⟩, none, 0)))) = pack (rs.map dat) := by
      unfold packN
      rw [range_getD (g := fun r => drow (rvD r))]; rfl
    rw [e]; exact hp
  · rw [range_getD (g := fun r => cellsD (rvD r))]; exact hl
theorem _root_.Go.Sx.CallOk.fact {P : Program} {w0 : World} {L : List HP} {f : FuncId} {args : List Value} {Φ : Value → List HP → Prop} {p : Prop} (hp : ∀ w, Sat w0 w L → p) (h : p → CallOk P w0 L f args Φ) : CallOk P w0 L f args Φ := fun w hs => h (hp w hs) w hs
theorem own_rv2 {w0 : World} {L F1 F : List HP} {lo : Option Addr} {n lcp c2 : Nat} {rs : List RV} (hp1 : Pick L (row 23 1 lo c2 (rs.map dsl)) F1) (hp : Pick F1 (pack (rs.map dat)) F) (hn : n = rs.length) (hle : n ≤ 1099511627776) (hlen : ∀ r ∈ rs, r.1.data.length ≤ 1099511627776) : CallOk Tb.P w0 L 16 [.slice lo n lcp] fun u L' => u = .bool true ∧ L' = row 23 1 lo c2 (rs.map dsl) :: F :=
  CallOk.fact (p := Els 1 (rs.map dsl) ∧ (rs.map dsl = [] ∨ ∃ a, lo = some a) ∧ (∀ a, lo = some a → a.spot = none)) (fun w hs => by
    obtain ⟨f1, _, hb, _⟩ := (hs.pick hp1).star
    obtain ⟨a, b, c, _⟩ := row_shape hb
    exact ⟨a, b, c⟩) fun hsh w hs => own_rv (L := row 23 1 lo c2 (rs.map dsl) :: F1) (F := row 23 1 lo c2 (rs.map dsl) :: F) (.there hp) (RdS.own .here hsh) hn hle hlen w (hs.pick hp1)
theorem pack_app {l m F : List HP} {f : Frag} (h : Star (pack l :: pack m :: F) f) : Star (pack (l ++ m) :: F) f := by
  refine Star.repack (L1 := l ++ m) ?_
  rw [List.append_assoc]
  have h1 := Star.unpack (L1 := l) h
  have h2 : Star (pack m :: (l ++ F)) f := pick_mid.star h1
  have h3 := Star.unpack (L1 := m) h2
  have h4 : Star (pack l :: (m ++ F)) f := by
    have h5 := Star.unpack (L1 := l) h
    exact Star.cons_mono (fun _ h => Star.unpack (L1 := m) h) h
  exact Star.unpack (L1 := l) h4

theorem datas {w0 : World} {L : List HP} {id par size : Int} {ao : Option Addr} {cp : Nat} {rs : List RV} (hr : RdS w0 L 4 ao (rs.map cellsV)) (hle : rs.length ≤ 1099511627776) :
    CallOk Tb.P w0 L 17 [.agg #[.int .u64 id, .int .u64 par, .int .u64 size, .slice ao rs.length cp]] fun u L' => ∃ ao' cp', (Els 1 (rs.map dsl) ∧ (rs.map dsl = [] ∨ ∃ a, ao' = some a) ∧ (∀ a, ao' = some a → a.spot = none)) ∧ u = .slice ao' rs.length cp' ∧ L' = row 23 1 ao' cp' (rs.map dsl) :: L := by
  refine enter Try.func17 rfl Try.ntmps17 (Nat.le_of_ble_eq_true rfl) ?_
  refine At.seq ?_
  refine At.reg rfl ?_
  refine Run.bx (h := fun g1 => ?_)
  refine Run.as (h := ?_)
  refine Run.fin ?_
  refine At.seq ?_
  refine At.reg rfl ?_
  refine Run.as (h := ?_)
  refine Run.fin ?_
  refine At.seq ?_
  refine At.seq ?_
  refine At.reg rfl ?_
  refine Run.as (h := ?_)
  refine Run.fin ?_
  refine At.block ?_
  refine At.chunks (fun _ hf => Star.nilRow (e := 23) (sz := 1) hf) ?_
  refine At.loop (α := Nat × Option Addr × Nat) (fun x => ⟨[(1, .pointer (some ⟨g1, 0, none⟩)), (3, .slice x.2.1 x.1 x.2.2), (4, .int .i64 x.1)], row 23 1 x.2.1 x.2.2 ((rs.take x.1).map dsl) :: cel g1 28 [.int .u64 id, .int .u64 par, .int .u64 size, .slice ao rs.length cp] :: L, []⟩) (fun x => x.1 ≤ rs.length) (fun x => rs.length - x.1) ((0, none, 0)) (Nat.zero_le _) (Ent.of (by repeat (first | exact SubE.nil | refine SubE.cons (by first | rfl | (show some _ = some _; simp; done)) ?_)) (by repeat (first | exact SubL.refl | refine SubL.cons (by repeat (first | exact Pick.here | apply Pick.there)) ?_ | refine SubL.skip ?_ | exact SubL.nil))) (fun x hx => ?_)
  obtain ⟨k, a1, c1⟩ := x
  dsimp only at hx ⊢
  have hk := hx
  refine At.seq ?_
  refine At.seq ?_
  refine At.reg rfl ?_
  refine Run.mv (h := ?_)
  refine Run.fa Tb.F28_3 (h := ?_)
  refine Run.ld Tb.A26 (h := ?_)
  refine Run.len Tb.L26 (h := ?_)
  refine Run.lt (h := ?_)
  refine Run.fin ?_
  refine At.cnd' (ht := fun hc9 => ?_) (hf := fun hc9 => ?_)
  · skip
    obtain ⟨r, hrk⟩ : ∃ r, rs[k]? = some r := ⟨rs[k]'(by omega), List.getElem?_eq_getElem _⟩
    refine At.skip ?_
    refine At.seq ?_
    refine At.block ?_
    refine At.reg rfl ?_
    refine Run.mv (h := ?_)
    refine Run.fa Tb.F28_3 (h := ?_)
    refine Run.ld Tb.A26 (h := ?_)
    refine Run.mv (h := ?_)
    refine Run.iaR (ht := Tb.L26) (hR := hr.sub) (hj := rfl) (h1 := by simp; omega) (hn := by omega) (h := ?_)
    refine Run.fa Tb.F76_3 (h := ?_)
    refine Run.ldr (ht := Tb.A23) (hR := hr.sub) (hj := cells_at hrk) (h := ?_)
    refine Run.bs Tb.G39 (h := fun g19 => ?_)
    refine Run.ap (ht := Tb.G39) (hR := .one) (hn := by simp; omega) (n2 := k + 1) (l2 := (rs.take (k + 1)).map dsl) (hl2 := by rw [List.take_add_one, hrk, List.map_append]; rfl) (hn2 := by simp; omega) (hlen := by simp [maxLen]; omega) (hby := by simp; omega) (h := fun ao20 cp20 => ?_)
    refine Run.as (h := ?_)
    refine Run.fin ?_
    refine At.inb_norm ?_
    refine At.reg rfl ?_
    refine Run.mv (h := ?_)
    refine Run.add (h := ?_)
    refine Run.eqi (b := ((k + 1 : Nat) : Int)) (by rw [wi64 (by omega) (by omega)]; omega) ?_
    refine Run.as (h := ?_)
    refine Run.fin ?_
    exact At.again ((k + 1, ao20, cp20)) (by dsimp only; omega) (by dsimp only; omega)
  · skip
    refine At.exit ?_
    refine At.then_exit ?_
    refine At.then_exit ?_
    refine At.inb_hit ?_
    refine At.seq ?_
    have hke : k = rs.length := by omega
    subst hke
    rw [List.take_of_length_le (Nat.le_refl _)]
    refine At.rows (h := fun hE hB hsp _ _ _ => ?_)
    refine At.reg rfl ?_
    refine Run.mv (h := ?_)
    refine Run.as (h := ?_)
    refine Run.fin ?_
    refine At.ret ?_
    exact At.done (hΦ := by exact ⟨a1, c1, ⟨hE, hB, hsp⟩, rfl, rfl⟩)
theorem makes {w0 : World} {L : List HP} {id par : Int} {ao lo : Option Addr} {n cp m cl : Nat} {b : List Int} {l : List Ex} (hid : 0 ≤ id ∧ id < 18446744073709551616) (hpar : 0 ≤ par ∧ par < 18446744073709551616) (hb : RdS w0 L 1 ao (ints .u8 b)) (hn : n = b.length) (hcp : n ≤ cp) (hle : n ≤ 549755813000) (hy : Byt b) (hl : RdS w0 L 5 lo (l.map cellsE)) (hm : m = l.length) (hml : m ≤ 1048576) (hok : ∀ x ∈ l, ExOk x) :
    CallOk Tb.P w0 L 3 [.int .u64 id, .int .u64 par, .slice ao n cp, .slice lo m cl] fun u L' => u = .bool true ∧ L' = L := by
  refine enter Try.func3 rfl Try.ntmps3 (Nat.le_of_ble_eq_true rfl) ?_
  subst hn hm
  refine At.seq ?_
  refine At.reg rfl ?_
  refine Run.as (h := ?_)
  refine Run.fin ?_
  refine At.seq ?_
  refine At.reg rfl ?_
  refine Run.mv (h := ?_)
  refine Run.call Tb.N11 (hc := rcopy hb.sub rfl (by omega)) (h := ?_)
  rintro _ _ ⟨ao25, cp25, rfl, rfl⟩
  refine Run.bs Tb.G23 (h := fun g26 => ?_)
  refine Run.ap (ht := Tb.G23) (hR := .one) (n2 := b.length + 2) (l2 := ints .u8 (b ++ [90, 91])) (hl2 := by rw [show [[Value.int .u8 90], [Value.int .u8 91]] = ints .u8 [90, 91] from rfl, ints_app]) (hn2 := by simp) (hlen := by simp [maxLen]; omega) (hby := by simp; omega) (h := fun ao27 cp27 => ?_)
  refine Run.as (h := ?_)
  refine Run.fin ?_
  refine At.seq ?_
  refine At.reg rfl ?_
  refine Run.as (h := ?_)
  refine Run.fin ?_
  refine At.seq ?_
  refine At.reg rfl ?_
  refine Run.mv (h := ?_)
  refine Run.mv (h := ?_)
  refine Run.chunks (L' := row 37 5 none 0 [] :: row 5 1 ao27 cp27 (ints .u8 (b ++ [90, 91])) :: L) (fun _ h => Star.nilRow (SubL.star (by repeat (first | exact SubL.refl | refine SubL.cons (by repeat (first | exact Pick.here | apply Pick.there)) ?_ | refine SubL.skip ?_ | exact SubL.nil)) h)) ?_
  refine Run.ap (ht := Tb.G24) (hR := hl.sub) (n2 := l.length) (l2 := l.map cellsE) (hl2 := by simp) (hn2 := by simp) (hlen := by simp [maxLen]; omega) (hby := by simp; omega) (h := fun ao30 cp30 => ?_)
  refine Run.as (h := ?_)
  refine Run.fin ?_
  refine At.seq ?_
  refine At.rowR (hp := by repeat (first | exact Pick.here | apply Pick.there)) (e := 37) (h := fun hRe _ _ _ => ?_)
  refine At.rows (hp := by repeat (first | exact Pick.here | apply Pick.there)) (e := 5) (fun hE hB hsp hcp14 _ _ => ?_)
  have hR0 : ∀ {L' F' : List HP} {cp' : Nat}, Pick L' (row 5 1 ao27 cp' (ints .u8 (b ++ [90, 91]))) F' → RdS w0 L' 1 ao27 (ints .u8 (b ++ [90, 91])) := fun hp' => RdS.own hp' ⟨hE, hB, hsp⟩
  simp only [ints_length, List.length_append, List.length_cons, List.length_nil] at hcp14
  refine At.reg rfl ?_
  refine Run.mv (h := ?_)
  refine Run.mv (h := ?_)
  refine Run.mv (h := ?_)
  refine Run.mv (h := ?_)
  refine Run.len Tb.L23 (h := ?_)
  refine Run.slH Tb.L23 (h1 := by omega) (h2 := by omega) (hs := hsp) (hr := ?_)
  refine Run.mv (h := ?_)
  refine Run.call Tb.N12 (hc := make2 hid hpar (RdS.cutB (m := [90, 91]) (hR0 (by repeat (first | exact Pick.here | apply Pick.there))) (by simp; omega)) rfl (by omega) (by omega) hy (hRe (by repeat (first | exact Pick.here | apply Pick.there))) rfl (by omega) hok) (h := ?_)
  rintro _ _ ⟨ao1, cp1, rs1, hp1, hk1, hq1, rfl, rfl⟩
  refine Run.mv (h := ?_)
  refine Run.ex (h := ?_)
  refine Run.ex (h := ?_)
  refine Run.al Tb.Z28 (h := fun g11 => ?_)
  refine Run.st Tb.S28 (h := ?_)
  refine Run.as (h := ?_)
  refine Run.fin ?_
  refine At.seq ?_
  refine At.reg rfl ?_
  refine Run.mv (h := ?_)
  refine Run.mv (h := ?_)
  refine Run.mv (h := ?_)
  refine Run.mv (h := ?_)
  refine Run.call Tb.N13 (hc := rmake2 hid hpar hb.sub rfl hcp (by omega) hy hl.sub rfl (by omega) hok) (h := ?_)
  rintro _ _ ⟨ao2, cp2, rs2, hp2, hk2, hq2, rfl, rfl⟩
  refine Run.mv (h := ?_)
  refine Run.ex (h := ?_)
  refine Run.ex (h := ?_)
  refine Run.al Tb.Z28 (h := fun g13 => ?_)
  refine Run.st Tb.S28 (h := ?_)
  refine Run.as (h := ?_)
  refine Run.fin ?_
  refine At.seq ?_
  refine At.rns (ao := ao1) (cp := cp1) (rs := rs1) (h := fun hr1 _ _ => ?_)
  refine At.rns (ao := ao2) (cp := cp2) (rs := rs2) (h := fun hr2 _ _ => ?_)
  refine At.reg rfl ?_
  refine Run.ldA Tb.A28 Tb.S28 (h := ?_)
  refine Run.ldA Tb.A28 Tb.S28 (h := ?_)
  refine Run.call Tb.N14 (hc := rsameA (hr1 (by repeat (first | exact Pick.here | apply Pick.there))).1 (hr2 (by repeat (first | exact Pick.here | apply Pick.there))).1 (hr1 (by repeat (first | exact Pick.here | apply Pick.there))).2 (hr2 (by repeat (first | exact Pick.here | apply Pick.there))).2 (by omega) (fun r h => by have := hk1 r h; unfold RnOk at this; omega)) (h := ?_)
  rintro _ _ ⟨b1, rfl, hb1, rfl⟩
  refine Run.as (h := ?_)
  refine Run.fin ?_
  refine At.seq ?_
  refine At.reg rfl ?_
  refine Run.mv (h := ?_)
  refine Run.mv (h := ?_)
  refine Run.len Tb.L23 (h := ?_)
  refine Run.slH Tb.L23 (h1 := by omega) (h2 := by omega) (hs := hsp) (hr := ?_)
  refine Run.mv (h := ?_)
  refine Run.call Tb.N15 (hc := rsame (RdS.cutB (m := [90, 91]) (hR0 (by repeat (first | exact Pick.here | apply Pick.there))) (by simp; omega)) hb.sub (by omega)) (h := ?_)
  rintro _ _ ⟨rfl, rfl⟩
  refine Run.mv (h := ?_)
  refine Run.andB 6 6 (ht := fun hg66 => by
      refine Run.mv (h := ?_)
      refine Run.mv (h := ?_)
      refine Run.len Tb.L23 (h := ?_)
      refine Run.iaR (ht := Tb.L23) (hR := hR0 (by repeat (first | exact Pick.here | apply Pick.there))) (j := b.length) (hj := rfl) (h1 := by simp) (hn := by omega) (h := ?_)
      refine Run.ldr0 (ht := Tb.A5) (hR := hR0 (by repeat (first | exact Pick.here | apply Pick.there))) (hj := Sx.ints_at (by simp)) (h := ?_)
      refine Run.eqi (b := 90) (by rw [show b.length = b.length + 0 from rfl, getD_app rfl]; rfl) ?_
      refine Run.eq (h := ?_)
      exact Run.fin_sc ScEnd.here) (hrest := ?_)
  refine Run.mv (h := ?_)
  refine Run.andB 7 14 (ht := fun hg75 => by
      refine Run.mv (h := ?_)
      refine Run.mv (h := ?_)
      refine Run.len Tb.L23 (h := ?_)
      refine Run.add (h := ?_)
      refine Run.eqi (b := ((b.length + 1 : Nat) : Int)) (by rw [wi64 (by omega) (by omega)]; omega) ?_
      refine Run.iaR (ht := Tb.L23) (hR := hR0 (by repeat (first | exact Pick.here | apply Pick.there))) (j := b.length + 1) (hj := rfl) (h1 := by simp) (hn := by omega) (h := ?_)
      refine Run.ldr0 (ht := Tb.A5) (hR := hR0 (by repeat (first | exact Pick.here | apply Pick.there))) (hj := Sx.ints_at (by simp)) (h := ?_)
      refine Run.eqi (b := 91) (by rw [getD_app rfl]; rfl) ?_
      refine Run.eq (h := ?_)
      exact Run.fin_sc ScEnd.here) (hrest := ?_)
  refine Run.as (h := ?_)
  refine Run.fin ?_
  refine At.seq ?_
  refine At.seq ?_
  refine At.reg rfl ?_
  refine Run.mv (h := ?_)
  refine Run.mv (h := ?_)
  refine Run.ne (h := ?_)
  refine Run.mv (h := ?_)
  refine Run.orB 2 3 (ht := fun hg82 => by
      refine Run.mv (h := ?_)
      refine Run.not (h := ?_)
      exact Run.fin_sc ScEnd.here) (hrest := ?_)
  refine Run.mv (h := ?_)
  refine Run.orB 2 7 (ht := fun hg86 => by
      refine Run.mv (h := ?_)
      refine Run.not (h := ?_)
      exact Run.fin_sc ScEnd.here) (hrest := ?_)
  refine Run.fin ?_
  refine At.cnd' (ht := fun hc86 => ?_) (hf := fun hc86 => ?_)
  · skip
    exact absurd hc86 (by have hb2 := hb1.2 (by rw [hp1, hp2]); simp [hb2])
  · skip
    refine At.skip ?_
    refine At.seq ?_
    refine At.seq ?_
    refine At.reg rfl ?_
    refine Run.as (h := ?_)
    refine Run.fin ?_
    refine At.block ?_
    refine At.loop (α := Nat) (fun k => ⟨[(0, .int .u64 id), (1, .int .u64 par), (2, .slice ao b.length cp), (3, .slice lo l.length cl), (9, .slice ao27 (b.length + 2) cp27), (10, .slice ao30 l.length cp30), (11, .pointer (some ⟨g11, 0, none⟩)), (13, .pointer (some ⟨g13, 0, none⟩)), (17, .int .i64 k)], cel g13 28 [.int .u64 (mkA id par b l).id, .int .u64 (mkA id par b l).par, .int .u64 (mkA id par b l).size, .slice ao2 rs2.length cp2] :: Rns ao2 cp2 rs2 :: cel g11 28 [.int .u64 (mkA id par b l).id, .int .u64 (mkA id par b l).par, .int .u64 (mkA id par b l).size, .slice ao1 rs1.length cp1] :: Rns ao1 cp1 rs1 :: row 37 5 ao30 cp30 (l.map cellsE) :: row 5 1 ao27 cp27 (ints .u8 (b ++ [90, 91])) :: L, []⟩) (fun k => k ≤ l.length) (fun k => l.length - k) (0) (Nat.zero_le _) (Ent.of (by repeat (first | exact SubE.nil | refine SubE.cons (by first | rfl | (show some _ = some _; simp; done)) ?_)) (by repeat (first | exact SubL.refl | refine SubL.cons (by repeat (first | exact Pick.here | apply Pick.there)) ?_ | refine SubL.skip ?_ | exact SubL.nil))) (fun k hk => ?_)
    refine At.seq ?_
    refine At.seq ?_
    refine At.reg rfl ?_
    refine Run.mv (h := ?_)
    refine Run.mv (h := ?_)
    refine Run.len Tb.L24 (h := ?_)
    refine Run.lt (h := ?_)
    refine Run.fin ?_
    refine At.cnd' (ht := fun hc90 => ?_) (hf := fun hc90 => ?_)
    · skip
      obtain ⟨x, hxk⟩ : ∃ x, l[k]? = some x := ⟨l[k]'(by omega), List.getElem?_eq_getElem _⟩
      refine At.skip ?_
      refine At.seq ?_
      refine At.block ?_
      refine At.seq ?_
      refine At.draw [(0, 0), (1, 0), (2, 0), (4, 0), (5, 0), (6, 0), (3, 1), (7, 1), (8, 0)] Tb.mixed (by kernel_rfl) ?_
      refine Run.mv (h := ?_)
      refine Run.mv (h := ?_)
      refine Run.iaR (ht := Tb.L24) (hR := hRe (by repeat (first | exact Pick.here | apply Pick.there))) (j := k) (hj := rfl) (h1 := by simp; omega) (hn := by omega) (h := ?_)
      refine Run.mv (h := ?_)
      refine Run.mv (h := ?_)
      refine Run.iaR (ht := Tb.L24) (hR := hl.sub) (j := k) (hj := rfl) (h1 := by simp; omega) (hn := by omega) (h := ?_)
      refine Run.ldrA (ht := Tb.A37) (hn := Tb.S37) (hR := hRe (by repeat (first | exact Pick.here | apply Pick.there))) (hj := cellsE_at hxk) (h := ?_)
      refine Run.ldrA (ht := Tb.A37) (hn := Tb.S37) (hR := hl.sub) (hj := cellsE_at hxk) (h := ?_)
      refine Run.neS eqs37 (hs := .int Tb.I22 rfl rfl (.int Tb.I22 rfl rfl (.bool Tb.I4 rfl rfl (.bool Tb.I4 rfl rfl (.bool Tb.I4 rfl rfl (.nil)))))) (h := ?_)
      refine Run.fin ?_
      refine At.cnd' (ht := fun hc101 => ?_) (hf := fun hc101 => ?_)
      · skip
        exact absurd hc101 (by simp)
      · skip
        refine At.skip ?_
        refine At.inb_norm ?_
        refine At.reg rfl ?_
        refine Run.mv (h := ?_)
        refine Run.add (h := ?_)
        refine Run.eqi (b := ((k + 1 : Nat) : Int)) (by rw [wi64 (by omega) (by omega)]; omega) ?_
        refine Run.as (h := ?_)
        refine Run.fin ?_
        exact At.again (k + 1) (by omega) (by omega)
    · skip
      refine At.exit ?_
      refine At.then_exit ?_
      refine At.then_exit ?_
      refine At.inb_hit ?_
      refine At.seq ?_
      refine At.seq ?_
      refine At.reg rfl ?_
      refine Run.as (h := ?_)
      refine Run.fin ?_
      refine At.block ?_
      refine At.loop (α := Nat × List Int) (fun x => ⟨[(0, .int .u64 id), (1, .int .u64 par), (2, .slice ao b.length cp), (3, .slice lo l.length cl), (9, .slice ao27 (b.length + 2) cp27), (10, .slice ao30 l.length cp30), (11, .pointer (some ⟨g11, 0, none⟩)), (13, .pointer (some ⟨g13, 0, none⟩)), (18, .int .i64 x.1)], row 5 1 ao27 cp27 (ints .u8 x.2) :: cel g13 28 [.int .u64 (mkA id par b l).id, .int .u64 (mkA id par b l).par, .int .u64 (mkA id par b l).size, .slice ao2 rs2.length cp2] :: Rns ao2 cp2 rs2 :: cel g11 28 [.int .u64 (mkA id par b l).id, .int .u64 (mkA id par b l).par, .int .u64 (mkA id par b l).size, .slice ao1 rs1.length cp1] :: Rns ao1 cp1 rs1 :: row 37 5 ao30 cp30 (l.map cellsE) :: L, []⟩) (fun x => x.1 ≤ b.length + 2 ∧ x.2.length = b.length + 2) (fun x => b.length + 2 - x.1) ((0, b ++ [90, 91])) (⟨Nat.zero_le _, by simp⟩) (Ent.of (by repeat (first | exact SubE.nil | refine SubE.cons (by first | rfl | (show some _ = some _; simp; done)) ?_)) (by repeat (first | exact SubL.refl | refine SubL.cons (by repeat (first | exact Pick.here | apply Pick.there)) ?_ | refine SubL.skip ?_ | exact SubL.nil))) (fun x hx => ?_)
      obtain ⟨k, q⟩ := x
      dsimp only at hx ⊢
      obtain ⟨hk, hq⟩ := hx
      refine At.rowR (h := fun hRq _ _ _ => ?_)
      refine At.seq ?_
      refine At.seq ?_
      refine At.reg rfl ?_
      refine Run.mv (h := ?_)
      refine Run.mv (h := ?_)
      refine Run.len Tb.L23 (h := ?_)
      refine Run.lt (h := ?_)
      refine Run.fin ?_
      refine At.cnd' (ht := fun hc105 => ?_) (hf := fun hc105 => ?_)
      · skip
        refine At.skip ?_
        refine At.seq ?_
        refine At.block ?_
        refine At.reg rfl ?_
        refine Run.mv (h := ?_)
        refine Run.mv (h := ?_)
        refine Run.mv (h := ?_)
        refine Run.mv (h := ?_)
        refine Run.iaR (ht := Tb.L23) (hR := hRq (by repeat (first | exact Pick.here | apply Pick.there))) (j := k) (hj := rfl) (h1 := by rw [ints_length]; omega) (hn := by omega) (h := ?_)
        refine Run.ldr0 (ht := Tb.A5) (hR := hRq (by repeat (first | exact Pick.here | apply Pick.there))) (hj := Sx.ints_at (by omega)) (h := ?_)
        refine Run.add (h := ?_)
        refine Run.iaR (ht := Tb.L23) (hR := hRq (by repeat (first | exact Pick.here | apply Pick.there))) (j := k) (hj := rfl) (h1 := by rw [ints_length]; omega) (hn := by omega) (h := ?_)
        refine Run.str0 (hsz := Tb.S5) (hj := Sx.ints_at (by omega)) (h := ?_)
        refine Run.fin ?_
        refine At.inb_norm ?_
        refine At.reg rfl ?_
        refine Run.mv (h := ?_)
        refine Run.add (h := ?_)
        refine Run.eqi (b := ((k + 1 : Nat) : Int)) (by rw [wi64 (by omega) (by omega)]; omega) ?_
        refine Run.as (h := ?_)
        refine Run.fin ?_
        refine At.chunks (L' := row 5 1 ao27 cp27 (ints .u8 (q.set k (IntKind.u8.wrap (q.getD k 0 + 1)))) :: cel g13 28 [.int .u64 (mkA id par b l).id, .int .u64 (mkA id par b l).par, .int .u64 (mkA id par b l).size, .slice ao2 rs2.length cp2] :: Rns ao2 cp2 rs2 :: cel g11 28 [.int .u64 (mkA id par b l).id, .int .u64 (mkA id par b l).par, .int .u64 (mkA id par b l).size, .slice ao1 rs1.length cp1] :: Rns ao1 cp1 rs1 :: row 37 5 ao30 cp30 (l.map cellsE) :: L) (fun _ hf => by rw [ints_set] at hf; exact hf) ?_
        exact At.again ((k + 1, q.set k (IntKind.u8.wrap (q.getD k 0 + 1)))) (⟨by dsimp only; omega, by dsimp only; rw [List.length_set]; exact hq⟩) (by dsimp only; omega)
      · skip
        refine At.exit ?_
        refine At.then_exit ?_
        refine At.then_exit ?_
        refine At.inb_hit ?_
        refine At.seq ?_
        refine At.reg rfl ?_
        refine Run.ldA Tb.A28 Tb.S28 (h := ?_)
        refine Run.ldA Tb.A28 Tb.S28 (h := ?_)
        refine Run.call Tb.N14 (hc := rsameA (hr1 (by repeat (first | exact Pick.here | apply Pick.there))).1 (hr2 (by repeat (first | exact Pick.here | apply Pick.there))).1 (hr1 (by repeat (first | exact Pick.here | apply Pick.there))).2 (hr2 (by repeat (first | exact Pick.here | apply Pick.there))).2 (by omega) (fun r h => by have := hk1 r h; unfold RnOk at this; omega)) (h := ?_)
        rintro _ _ ⟨b3, rfl, hb3, rfl⟩
        refine Run.as (h := ?_)
        refine Run.fin ?_
        refine At.seq ?_
        refine At.reg rfl ?_
        refine Run.mv (h := ?_)
        refine Run.mv (h := ?_)
        refine Run.mv (h := ?_)
        refine Run.mv (h := ?_)
        refine Run.call Tb.N12 (hc := make2 hid hpar hb.sub rfl hcp (by omega) hy hl.sub rfl (by omega) hok) (h := ?_)
        rintro _ _ ⟨ao3, cp3, rs3, hp3, hk3, hq3, rfl, rfl⟩
        refine Run.mv (h := ?_)
        refine Run.ex (h := ?_)
        refine Run.ex (h := ?_)
        refine Run.al Tb.Z28 (h := fun g20 => ?_)
        refine Run.st Tb.S28 (h := ?_)
        refine Run.as (h := ?_)
        refine Run.fin ?_
        refine At.seq ?_
        refine At.rns (ao := ao3) (cp := cp3) (rs := rs3) (h := fun hr3 _ _ => ?_)
        refine At.reg rfl ?_
        refine Run.ldA Tb.A28 Tb.S28 (h := ?_)
        refine Run.ldA Tb.A28 Tb.S28 (h := ?_)
        refine Run.call Tb.N14 (hc := rsameA (hr3 (by repeat (first | exact Pick.here | apply Pick.there))).1 (hr2 (by repeat (first | exact Pick.here | apply Pick.there))).1 (hr3 (by repeat (first | exact Pick.here | apply Pick.there))).2 (hr2 (by repeat (first | exact Pick.here | apply Pick.there))).2 (by omega) (fun r h => by have := hk3 r h; unfold RnOk at this; omega)) (h := ?_)
        rintro _ _ ⟨b4, rfl, hb4, rfl⟩
        refine Run.as (h := ?_)
        refine Run.fin ?_
        refine At.seq ?_
        refine At.chunks (L' := row 76 4 ao1 cp1 (rs1.map cellsV) :: row 76 4 ao3 cp3 (rs3.map cellsV) :: pack ((rs1 ++ rs3).map dat) :: cel g11 28 [.int .u64 (mkA id par b l).id, .int .u64 (mkA id par b l).par, .int .u64 (mkA id par b l).size, .slice ao1 rs1.length cp1] :: cel g20 28 [.int .u64 (mkA id par b l).id, .int .u64 (mkA id par b l).par, .int .u64 (mkA id par b l).size, .slice ao3 rs3.length cp3] :: L) (fun f hf => by
          have h9 : Star (Rns ao1 cp1 rs1 :: Rns ao3 cp3 rs3 :: cel g11 28 [.int .u64 (mkA id par b l).id, .int .u64 (mkA id par b l).par, .int .u64 (mkA id par b l).size, .slice ao1 rs1.length cp1] :: cel g20 28 [.int .u64 (mkA id par b l).id, .int .u64 (mkA id par b l).par, .int .u64 (mkA id par b l).size, .slice ao3 rs3.length cp3] :: L) f := SubL.star (by repeat (first | exact SubL.refl | refine SubL.cons (by repeat (first | exact Pick.here | apply Pick.there)) ?_ | refine SubL.skip ?_ | exact SubL.nil)) hf
          rw [List.map_append]
          exact Star.cons_mono (fun _ h => Star.cons_mono (fun _ h => pack_app (Star.swap h)) (Rns_open.1 (Star.swap h))) (Rns_open.1 h9)) ?_
        refine At.rowR (ao := ao1) (cp := cp1) (l := rs1.map cellsV) (hp := by repeat (first | exact Pick.here | apply Pick.there)) (h := fun hA1 _ _ _ => ?_)
        refine At.rowR (ao := ao3) (cp := cp3) (l := rs3.map cellsV) (hp := by repeat (first | exact Pick.here | apply Pick.there)) (h := fun hA3 _ _ _ => ?_)
        refine At.draw [(0, 1), (2, 1), (1, 3), (3, 3), (4, 3), (5, 3), (6, 0)] Tb.mixed (by kernel_rfl) ?_
        refine Run.ldA Tb.A28 Tb.S28 (h := ?_)
        refine Run.ldA Tb.A28 Tb.S28 (h := ?_)
        refine Run.call Tb.N17 (hc := datas (rs := rs1) (hA1 (by repeat (first | exact Pick.here | apply Pick.there))) (by omega)) (hk := hkUse (fun _ _ hPhi w hs => by obtain ⟨ao131, cp131, hs131, rfl, rfl⟩ := hPhi; dsimp only; exact ldoA_fact hs Tb.A28 Tb.S28) (hkSkip (by kernel_rfl) (hkNil))) (hin := nost (by kernel_rfl)) (h := ?_)
        rintro _ _ ⟨ao131, cp131, hs131, rfl, rfl⟩
        refine Run.call Tb.N17 (hc := datas (rs := rs3) (hA3 (by repeat (first | exact Pick.here | apply Pick.there))) (by omega)) (hk := noun (by kernel_rfl)) (hin := nost (by kernel_rfl)) (h := ?_)
        rintro _ _ ⟨ao133, cp133, hs133, rfl, rfl⟩
        refine Run.ap (ht := Tb.G39) (hR := RdS.own (by repeat (first | exact Pick.here | apply Pick.there)) hs133) (hn := by simp) (hm := by simp) (n2 := (rs1 ++ rs3).length) (l2 := (rs1 ++ rs3).map dsl) (hl2 := by rw [List.map_append]) (hn2 := by simp) (hlen := by simp [maxLen]; omega) (hby := by simp; omega) (hk := noun (by kernel_rfl)) (h := fun ao134 cp134 => ?_)
        refine Run.call Tb.N16 (hc := own_rv2 (rs := rs1 ++ rs3) (by repeat (first | exact Pick.here | apply Pick.there)) (by repeat (first | exact Pick.here | apply Pick.there)) rfl (by simp; omega) (fun r h => by rcases List.mem_append.1 h with h | h; exact (hk1 r h).2.2.2.2.1; exact (hk3 r h).2.2.2.2.1)) (hk := noun (by kernel_rfl)) (hin := nost (by kernel_rfl)) (h := ?_)
        rintro _ _ ⟨rfl, rfl⟩
        refine Run.as (h := ?_)
        refine Run.fin ?_
        refine At.seq ?_
        refine At.reg rfl ?_
        refine Run.mv (h := ?_)
        refine Run.mv (h := ?_)
        refine Run.andB 1 1 (ht := fun hg139 => by
            refine Run.mv (h := ?_)
            exact Run.fin_sc ScEnd.here) (hrest := ?_)
        refine Run.mv (h := ?_)
        refine Run.andB 1 4 (ht := fun hg142 => by
            refine Run.mv (h := ?_)
            exact Run.fin_sc ScEnd.here) (hrest := ?_)
        refine Run.mv (h := ?_)
        refine Run.andB 1 7 (bq := true) (ht := fun hg145 => by
            refine Run.call Tb.N18 (hc := heads) (h := ?_)
            rintro _ _ ⟨rfl, rfl⟩
            exact Run.fin_sc ScEnd.here) (hrest := ?_)
        refine Run.as (h := ?_)
        refine Run.fin ?_
        refine At.ret ?_
        have hb5 := hb3.2 (by rw [hp1, hp2])
        have hb6 := hb4.2 (by rw [hp3, hp2])
        exact At.done (hΦ := by exact ⟨by simp [hb5, hb6, tupleOf], rfl⟩)
end Go.Proofs.Ytllpfpdanonhkaa
