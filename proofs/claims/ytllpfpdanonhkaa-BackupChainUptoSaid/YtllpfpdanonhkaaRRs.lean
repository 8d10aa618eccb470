/- Walks: a chain is put together by the reference; chains copied. No condition. -/
import Derived.Test.YtllpfpdanonhkaaMakes
set_option maxRecDepth 8000
set_option maxHeartbeats 4000000
set_option linter.unusedVariables false
set_option linter.unusedSimpArgs false
namespace Go.Proofs.Ytllpfpdanonhkaa
open Go.Sx Go.RowKit

def runCells (r : Rn) : List Cl := if r.hole then List.replicate r.len.toNat ⟨true, true, 0⟩ else r.data.map fun v => ⟨true, false, v⟩
def putK (cs : List Cl) (r : Rn) (k : Nat) : List Cl := cs.take r.off.toNat ++ ((runCells r).take k ++ cs.drop (r.off.toNat + k))
def putC (cs : List Cl) (r : Rn) : List Cl := cs.take r.off.toNat ++ (runCells r ++ cs.drop (r.off.toNat + r.len.toNat))
def putCs (cs : List Cl) (rs : List Rn) : List Cl := rs.foldl putC cs
def RunFit (N : Nat) (r : Rn) : Prop := 0 ≤ r.off ∧ 0 ≤ r.len ∧ r.off.toNat + r.len.toNat ≤ N ∧ (¬ r.hole = true → r.data.length = r.len.toNat)
theorem runCells_len {N : Nat} {r : Rn} (h : RunFit N r) : (runCells r).length = r.len.toNat := by
  unfold runCells
  split
  · simp
  · rename_i hh; simp [h.2.2.2 hh]
theorem putK_len {N : Nat} {cs : List Cl} {r : Rn} {k : Nat} (h : RunFit N r) (hc : cs.length = N) (hk : k ≤ r.len.toNat) : (putK cs r k).length = N := by
  have := runCells_len h
  obtain ⟨_, _, h3, _⟩ := h
  simp [putK]; omega
theorem putK_set {N : Nat} {cs : List Cl} {r : Rn} {k : Nat} {c : Cl} (h : RunFit N r) (hc : cs.length = N) (hk : (runCells r)[k]? = some c) : (putK cs r k).set (r.off.toNat + k) c = putK cs r (k + 1) := by
  have hl := runCells_len h
  have hk2 := (List.getElem?_eq_some_iff.1 hk).1
  obtain ⟨_, _, h3, _⟩ := h
  unfold putK
  rw [List.set_append_right _ _ (by simp; omega), List.length_take, Nat.min_eq_left (by omega), show r.off.toNat + k - r.off.toNat = k by omega, List.set_append_right _ _ (by simp; omega), List.length_take, Nat.min_eq_left (by omega), Nat.sub_self]
  rw [List.drop_eq_getElem_cons (show r.off.toNat + k < cs.length by omega), List.set_cons_zero, List.take_add_one, hk, show r.off.toNat + k + 1 = r.off.toNat + (k + 1) by omega]
  simp
theorem putK_end {N : Nat} {cs : List Cl} {r : Rn} (h : RunFit N r) : putK cs r r.len.toNat = putC cs r := by
  unfold putK putC
  rw [List.take_of_length_le (l := runCells r) (by rw [runCells_len h]; exact Nat.le_refl _)]
theorem putK_zero {cs : List Cl} {r : Rn} : putK cs r 0 = cs := by simp [putK]
theorem putC_len {N : Nat} {cs : List Cl} {r : Rn} (h : RunFit N r) (hc : cs.length = N) : (putC cs r).length = N := by rw [← putK_end h]; exact putK_len h hc (Nat.le_refl _)
theorem putCs_succ {cs : List Cl} {rs : List Rn} {k : Nat} {r : Rn} (h : rs[k]? = some r) : putCs cs (rs.take (k + 1)) = putC (putCs cs (rs.take k)) r := by
  unfold putCs; rw [List.take_add_one, h]; simp
theorem putCs_len {N : Nat} : ∀ {rs : List Rn} {cs : List Cl}, (∀ r ∈ rs, RunFit N r) → cs.length = N → (putCs cs rs).length = N
  | [], _, _, h => h
  | r :: rs, cs, h, hc => putCs_len (rs := rs) (fun x hx => h x (List.mem_cons_of_mem _ hx)) (putC_len (h r List.mem_cons_self) hc)
theorem putC_b {N : Nat} {cs : List Cl} {r : Rn} (h : RunFit N r) : (putC cs r).map (·.b) = putRun (cs.map (·.b)) r := by
  unfold putC putRun runCells
  rw [List.map_append, List.map_append, List.map_take, List.map_drop, List.append_assoc]
  congr 2
  split
  · simp
  · simp [Function.comp_def]
theorem putCs_b {N : Nat} : ∀ {rs : List Rn} {cs : List Cl}, (∀ r ∈ rs, RunFit N r) → (putCs cs rs).map (·.b) = rs.foldl putRun (cs.map (·.b))
  | [], _, _ => rfl
  | r :: rs, cs, h => by
    show (putCs (putC cs r) rs).map (·.b) = _
    rw [putCs_b (N := N) (rs := rs) fun x hx => h x (List.mem_cons_of_mem _ hx), putC_b (h r List.mem_cons_self), List.foldl_cons]
theorem runCells_at {N : Nat} {r : Rn} {k : Nat} (h : RunFit N r) (hk : k < r.len.toNat) : (runCells r)[k]? = some ⟨true, r.hole, if r.hole then 0 else r.data.getD k 0⟩ := by
  unfold runCells
  cases hh : r.hole
  · have h4 := h.2.2.2 (by simp [hh])
    have h5 : k < r.data.length := by omega
    simp [List.getD, h5]
  · simp [hk]
def Bad (l : List Ar) (i : Nat) (e : Int) : Prop := ChOk l i ∧ ∃ a, l[i]? = some a ∧ ((¬ May a ∧ e = 250) ∨ (May a ∧ ¬ Link l i a ∧ e = 251))
theorem Bad.uniq {l : List Ar} {i j : Nat} {e e' : Int} (h : Bad l i e) (k : Bad l j e') : i = j ∧ e = e' := by
  obtain ⟨h1, a, h2, h3⟩ := h
  obtain ⟨k1, b, k2, k3⟩ := k
  have hn : ∀ {i j : Nat} {a : Ar} {e : Int}, ChOk l j → l[i]? = some a → ((¬ May a ∧ e = 250) ∨ (May a ∧ ¬ Link l i a ∧ e = 251)) → ¬ i < j := fun hc ha hb hlt => by
    obtain ⟨q1, q2⟩ := hc _ _ hlt ha
    rcases hb with ⟨hb, _⟩ | ⟨_, hb, _⟩
    · exact hb q1
    · exact hb q2
  have e1 : i = j := by have := hn k1 h2 h3; have := hn h1 k2 k3; omega
  subst e1
  rw [h2] at k2; cases k2
  refine ⟨rfl, ?_⟩
  rcases h3 with ⟨a1, a2⟩ | ⟨a1, a2, a3⟩ <;> rcases k3 with ⟨b1, b2⟩ | ⟨b1, b2, b3⟩
  · rw [a2, b2]
  · exact absurd b1 a1
  · exact absurd a1 b1
  · rw [a3, b3]
theorem Bad.not {l : List Ar} {n i : Nat} {e : Int} (hc : ChOk l n) (hn : n = l.length) (h : Bad l i e) : False := by
  obtain ⟨h1, a, h2, h3⟩ := h
  have hi := (List.getElem?_eq_some_iff.1 h2).1
  obtain ⟨q1, q2⟩ := hc i a (by omega) h2
  rcases h3 with ⟨hb, _⟩ | ⟨_, hb, _⟩
  · exact hb q1
  · exact hb q2
open Classical in
noncomputable def badAt (l : List Ar) : Nat × Int := if h : ∃ p : Nat × Int, Bad l p.1 p.2 then h.choose else (0, if l = [] then 2 else 0)
open Classical in
noncomputable def restB (l : List Ar) : List Int := if l ≠ [] ∧ ChOk l l.length then restP l else []
theorem badAt_bad {l : List Ar} {i : Nat} {e : Int} (h : Bad l i e) : badAt l = (i, e) := by
  have hex : ∃ p : Nat × Int, Bad l p.1 p.2 := ⟨(i, e), h⟩
  unfold badAt
  rw [dif_pos hex]
  obtain ⟨h1, h2⟩ := hex.choose_spec.uniq h
  exact Prod.ext h1 h2
theorem badAt_nil : badAt [] = (0, 2) := by
  unfold badAt
  rw [dif_neg (fun ⟨p, _, a, h, _⟩ => by simp at h)]; rfl
theorem badAt_ok {l : List Ar} (h : l ≠ []) (hc : ChOk l l.length) : badAt l = (0, 0) := by
  unfold badAt
  rw [dif_neg (fun ⟨p, hp⟩ => Bad.not hc rfl hp), if_neg h]
theorem restB_bad {l : List Ar} {i : Nat} {e : Int} (h : Bad l i e) : restB l = [] := by
  unfold restB
  rw [if_neg (fun hh => Bad.not hh.2 rfl h)]
theorem restB_nil : restB [] = [] := by unfold restB; rw [if_neg (fun h => h.1 rfl)]
theorem restB_ok {l : List Ar} (h : l ≠ []) (hc : ChOk l l.length) : restB l = restP l := by unfold restB; rw [if_pos ⟨h, hc⟩]
def RsPost (l : List Ar) (L : List HP) : Value → List HP → Prop := fun u L' => ∃ (ao : Option Addr) (cp : Nat), (ao = none ∧ restB l = [] ∨ ∃ q, ao = some ⟨q, 0, none⟩) ∧ u = .tuple #[.slice ao (restB l).length cp, .int .i64 (badAt l).1, .int .i64 (badAt l).2] ∧ L' = row 5 1 ao cp (ints .u8 (restB l)) :: L
theorem rsPost_of {l : List Ar} {L L' : List HP} {u : Value} {n : Nat} (hn : n = l.length) (h : (l = [] ∧ u = .tuple #[.slice none 0 0, .int .i64 0, .int .i64 2] ∧ L' = L) ∨ (∃ (i : Nat) (a : Ar) (e : Int), ChOk l i ∧ l[i]? = some a ∧ ((¬ May a ∧ e = 250) ∨ (May a ∧ ¬ Link l i a ∧ e = 251)) ∧ u = .tuple #[.slice none 0 0, .int .i64 i, .int .i64 e] ∧ L' = L) ∨
    (l ≠ [] ∧ ChOk l n ∧ ∃ q N, N = (restP l).length ∧ u = .tuple #[.slice (some ⟨q, 0, none⟩) N N, .int .i64 0, .int .i64 0] ∧ L' = row 5 1 (some ⟨q, 0, none⟩) N (ints .u8 (restP l)) :: L)) : ∃ L2, RsPost l L u L2 ∧ ∀ fr, Star L' fr → Star L2 fr := by
  rcases h with ⟨rfl, rfl, rfl⟩ | ⟨i, a, e, h1, h2, h3, rfl, rfl⟩ | ⟨h1, h2, q, N, rfl, rfl, rfl⟩
  · exact ⟨_, ⟨none, 0, .inl ⟨rfl, restB_nil⟩, by rw [badAt_nil, restB_nil]; rfl, rfl⟩, fun _ h => by rw [restB_nil]; exact Star.nilRow h⟩
  · have hb : Bad l i e := ⟨h1, a, h2, h3⟩
    exact ⟨_, ⟨none, 0, .inl ⟨rfl, restB_bad hb⟩, by rw [badAt_bad hb, restB_bad hb]; rfl, rfl⟩, fun _ h => by rw [restB_bad hb]; exact Star.nilRow h⟩
  · subst hn
    exact ⟨_, ⟨some ⟨q, 0, none⟩, (restP l).length, .inr ⟨q, rfl⟩, by rw [badAt_ok h1 h2, restB_ok h1 h2]; rfl, rfl⟩, fun _ h => by rw [restB_ok h1 h2]; exact h⟩
def cellsTo (l : List Ar) (k : Nat) : List Cl := (l.take k).foldl (fun cs a => putCs cs a.runs) (List.replicate (size0 l) clZ)
theorem cellsTo_succ {l : List Ar} {k : Nat} {a : Ar} (h : l[k]? = some a) : cellsTo l (k + 1) = putCs (cellsTo l k) a.runs := by
  unfold cellsTo; rw [List.take_add_one, h]; simp
theorem ch_fit {l : List Ar} {n : Nat} (h : ChOk l n) (hl : ∀ a ∈ l, ∀ r ∈ a.runs, 0 ≤ r.off ∧ 0 ≤ r.len) {k : Nat} {a : Ar} (hk : k < n) (ha : l[k]? = some a) : ∀ r ∈ a.runs, RunFit (size0 l) r := fun r hr => by
  have hlr := hl a (List.mem_of_getElem? ha)
  obtain ⟨h1, h2, h3, h4, h5⟩ := MayGo_mem (fun x hx => (hlr x hx).2) (Int.le_refl _) (h k a hk ha).1.2.2.2.2 r hr
  have h6 := h.size k a hk ha
  exact ⟨h1, h2, by omega, fun hh => by have := h5 hh; omega⟩
theorem cellsTo_ok {l : List Ar} {n : Nat} (h : ChOk l n) (hl : ∀ a ∈ l, ∀ r ∈ a.runs, 0 ≤ r.off ∧ 0 ≤ r.len) : ∀ k, k ≤ n → k ≤ l.length → (cellsTo l k).length = size0 l ∧ (cellsTo l k).map (·.b) = restTo l k
  | 0, _, _ => by simp [cellsTo, restTo, clZ]
  | k + 1, hk, hkl => by
    obtain ⟨a, ha⟩ : ∃ a, l[k]? = some a := ⟨l[k]'(by omega), List.getElem?_eq_getElem _⟩
    obtain ⟨h1, h2⟩ := cellsTo_ok h hl k (by omega) (by omega)
    have hf := ch_fit h hl (show k < n by omega) ha
    rw [cellsTo_succ ha, restTo_succ ha, putCs_b hf, h2]
    exact ⟨putCs_len hf h1, rfl⟩
def outM (bs : List Int) (k : Nat) : List Int := bs.take k ++ List.replicate (bs.length - k) 0
theorem outM_len {bs : List Int} {k : Nat} (h : k ≤ bs.length) : (outM bs k).length = bs.length := by simp [outM]; omega
theorem outM_set {bs : List Int} {k : Nat} {v : Int} (h : bs[k]? = some v) : (outM bs k).set k v = outM bs (k + 1) := by
  have hk := (List.getElem?_eq_some_iff.1 h).1
  unfold outM
  rw [List.set_append_right _ _ (by simp; omega), List.length_take, Nat.min_eq_left (by omega), Nat.sub_self, show bs.length - k = (bs.length - (k + 1)) + 1 by omega, List.replicate_succ, List.set_cons_zero, List.take_add_one, h]
  simp

theorem rlay {w0 : World} {L : List HP} {id par size : Int} {ao co : Option Addr} {cp N : Nat} {rs : List RV} {cs : List Cl} {F : List HP} (hp : Pick L (row 80 3 co N (cs.map cellsC)) F) (hN : cs.length = N) (hr : RdS w0 F 4 ao (rs.map cellsV)) (hdt : ∀ r ∈ rs, RdS w0 F 1 r.2.1 (ints .u8 r.1.data)) (hle : rs.length ≤ 1099511627776) (hfit : ∀ r ∈ pures rs, RunFit N r) (hNl : N ≤ 33554432) :
    CallOk Tb.P w0 L 54 [.slice co N N, .agg #[.int .u64 id, .int .u64 par, .int .u64 size, .slice ao rs.length cp]] fun u L' => u = .tuple #[] ∧ L' = row 80 3 co N ((putCs cs (pures rs)).map cellsC) :: F := by
  refine enter Try.func54 rfl Try.ntmps54 (Nat.le_of_ble_eq_true rfl) ?_
  refine At.seq ?_
  refine At.reg rfl ?_
  refine Run.bx (h := fun g3 => ?_)
  refine Run.fin ?_
  refine At.seq ?_
  refine At.reg rfl ?_
  refine Run.as (h := ?_)
  refine Run.fin ?_
  refine At.block ?_
  refine At.loop (α := Nat) (fun i => ⟨[(0, .slice co N N), (3, .pointer (some ⟨g3, 0, none⟩)), (4, .int .i64 i)], row 80 3 co N ((putCs cs ((pures rs).take i)).map cellsC) :: cel g3 28 [.int .u64 id, .int .u64 par, .int .u64 size, .slice ao rs.length cp] :: F, []⟩) (fun i => i ≤ rs.length) (fun i => rs.length - i) (0) (Nat.zero_le _) (Ent.of (by repeat (first | exact SubE.nil | refine SubE.cons (by first | rfl | (show some _ = some _; simp; done)) ?_)) (by show SubL _ (row 80 3 co N ((cs).map cellsC) :: cel g3 28 [.int .u64 id, .int .u64 par, .int .u64 size, .slice ao rs.length cp] :: F); exact SubL.cons (.there hp) (SubL.cons .here SubL.refl))) (fun i hi => ?_)
  refine At.seq ?_
  refine At.seq ?_
  refine At.reg rfl ?_
  refine Run.mv (h := ?_)
  refine Run.fa Tb.F28_3 (h := ?_)
  refine Run.ld Tb.A26 (h := ?_)
  refine Run.len Tb.L26 (h := ?_)
  refine Run.lt (h := ?_)
  refine Run.fin ?_
  refine At.cnd' (ht := fun hc12 => ?_) (hf := fun hc12 => ?_)
  · skip
    obtain ⟨x, hxk⟩ : ∃ r, rs[i]? = some r := ⟨rs[i]'(by omega), List.getElem?_eq_getElem _⟩
    have hxm := List.mem_of_getElem? hxk
    have hxd := hdt x hxm
    have hxf := hfit x.1 (List.mem_map.2 ⟨x, hxm, rfl⟩)
    have hxf2 := hxf
    obtain ⟨f1, f2, f3, f4⟩ := hxf2
    have hxl : (putCs cs ((pures rs).take i)).length = N := putCs_len (fun r hr => hfit r (List.mem_of_mem_take hr)) hN
    refine At.skip ?_
    refine At.seq ?_
    refine At.block ?_
    refine At.seq ?_
    refine At.reg rfl ?_
    refine Run.fa Tb.F28_3 (h := ?_)
    refine Run.ld Tb.A26 (h := ?_)
    refine Run.mv (h := ?_)
    refine Run.iaR (ht := Tb.L26) (hR := hr.sub) (hj := rfl) (h1 := by simp; omega) (hn := by omega) (h := ?_)
    refine Run.ldrA (ht := Tb.A76) (hn := Tb.S76) (hR := hr.sub) (hj := cells_at hxk) (h := ?_)
    refine Run.al Tb.Z76 (h := fun g5 => ?_)
    refine Run.st Tb.S76 (h := ?_)
    refine Run.fin ?_
    refine At.seq ?_
    refine At.reg rfl ?_
    refine Run.as (h := ?_)
    refine Run.fin ?_
    refine At.block ?_
    refine At.loop (α := Nat) (fun k => ⟨[(0, .slice co N N), (3, .pointer (some ⟨g3, 0, none⟩)), (4, .int .i64 i), (5, .pointer (some ⟨g5, 0, none⟩)), (6, .int .u64 k)], row 80 3 co N ((putK (putCs cs ((pures rs).take i)) x.1 k).map cellsC) :: cel g5 76 [.int .u64 x.1.off, .int .u64 x.1.len, .bool x.1.hole, .slice x.2.1 x.1.data.length x.2.2] :: cel g3 28 [.int .u64 id, .int .u64 par, .int .u64 size, .slice ao rs.length cp] :: F, []⟩) (fun k => k ≤ x.1.len.toNat) (fun k => x.1.len.toNat - k) (0) (Nat.zero_le _) (Ent.of (by repeat (first | exact SubE.nil | refine SubE.cons (by first | rfl | (show some _ = some _; simp; done)) ?_)) (by rw [putK_zero]; repeat (first | exact SubL.refl | refine SubL.cons (by repeat (first | exact Pick.here | apply Pick.there)) ?_ | refine SubL.skip ?_ | exact SubL.nil))) (fun k hk => ?_)
    refine At.seq ?_
    refine At.seq ?_
    refine At.reg rfl ?_
    refine Run.mv (h := ?_)
    refine Run.fa Tb.F76_1 (h := ?_)
    refine Run.ld Tb.A22 (h := ?_)
    refine Run.lt (h := ?_)
    refine Run.fin ?_
    refine At.cnd' (ht := fun hc23 => ?_) (hf := fun hc23 => ?_)
    · skip
      have hrc := runCells_at hxf (k := k) (by omega)
      refine At.skip ?_
      refine At.seq ?_
      refine At.block ?_
      refine At.seq ?_
      
      refine At.reg rfl ?_
      refine Run.fa Tb.F76_2 (h := ?_)
      refine Run.ld Tb.A4 (h := ?_)
      refine Run.bd Tb.B80 (h := ?_)
      refine Run.al Tb.Z80 (h := fun g7 => ?_)
      refine Run.st Tb.S80 (h := ?_)
      refine Run.fin ?_
      refine At.seq ?_
      refine At.cut (α := Int) (fun v => ⟨[(0, .slice co N N), (3, .pointer (some ⟨g3, 0, none⟩)), (4, .int .i64 i), (5, .pointer (some ⟨g5, 0, none⟩)), (6, .int .u64 k), (7, .pointer (some ⟨g7, 0, none⟩))], cel g7 80 [.bool true, .bool x.1.hole, .int .u8 v] :: row 80 3 co N ((putK (putCs cs ((pures rs).take i)) x.1 k).map cellsC) :: cel g5 76 [.int .u64 x.1.off, .int .u64 x.1.len, .bool x.1.hole, .slice x.2.1 x.1.data.length x.2.2] :: cel g3 28 [.int .u64 id, .int .u64 par, .int .u64 size, .slice ao rs.length cp] :: F, []⟩) (fun v => (runCells x.1)[k]? = some ⟨true, x.1.hole, v⟩) ?_ (fun v hv => ?_)
      · skip
        refine At.seq ?_
        refine At.reg rfl ?_
        refine Run.fa Tb.F76_2 (h := ?_)
        refine Run.ld Tb.A4 (h := ?_)
        refine Run.not (h := ?_)
        refine Run.fin ?_
        refine At.cnd' (ht := fun hc31 => ?_) (hf := fun hc31 => ?_)
        · skip
          refine At.reg rfl ?_
          refine Run.fa Tb.F76_3 (h := ?_)
          refine Run.ld Tb.A23 (h := ?_)
          refine Run.mv (h := ?_)
          refine Run.iaR (ht := Tb.L23) (hR := hxd.sub) (j := k) (hj := rfl) (h1 := by rw [ints_length, f4 hc31]; omega) (hn := by rw [f4 hc31]; omega) (h := ?_)
          refine Run.ldr0 (ht := Tb.A5) (hR := hxd.sub) (hj := Sx.ints_at (by rw [f4 hc31]; omega)) (h := ?_)
          refine Run.fa Tb.F80_2 (h := ?_)
          refine Run.st Tb.S5 (h := ?_)
          refine Run.fin ?_
          exact At.join (x.1.data.getD k 0) (by rw [hrc, if_neg hc31])
        · skip
          have hh31 : x.1.hole = true := Decidable.not_not.1 hc31
          refine At.skip ?_
          exact At.join (0) (by rw [hrc, if_pos hh31])
      · skip
        refine At.rowR (hp := by first | exact Pick.here | (apply Pick.there; exact Pick.here)) (h := fun hRc _ _ _ => ?_)
        refine At.reg rfl ?_
        refine Run.mv (h := ?_)
        refine Run.fa Tb.F76_0 (h := ?_)
        refine Run.ld Tb.A22 (h := ?_)
        refine Run.mv (h := ?_)
        refine Run.add (h := ?_)
        refine Run.eqi (b := ((x.1.off.toNat + k : Nat) : Int)) (by rw [wu64 (by omega) (by omega)]; omega) ?_
        refine Run.ldA Tb.A80 Tb.S80 (h := ?_)
        refine Run.iaR (ht := Tb.L78) (hR := hRc (by repeat (first | exact Pick.here | apply Pick.there))) (j := x.1.off.toNat + k) (hj := rfl) (h1 := by rw [List.length_map, putK_len hxf hxl (by omega)]; omega) (hn := by omega) (h := ?_)
        refine Run.str0 (hsz := Tb.S80) (hj := by rw [List.getElem?_map, List.getElem?_eq_getElem (by rw [putK_len hxf hxl (by omega)]; omega)]; rfl) (h := ?_)
        refine Run.chunks (L' := row 80 3 co N ((putK (putCs cs ((pures rs).take i)) x.1 (k + 1)).map cellsC) :: cel g5 76 [.int .u64 x.1.off, .int .u64 x.1.len, .bool x.1.hole, .slice x.2.1 x.1.data.length x.2.2] :: cel g3 28 [.int .u64 id, .int .u64 par, .int .u64 size, .slice ao rs.length cp] :: F) (fun _ hf => by
            have h9 := SubL.star (L' := row 80 3 co N (((putK (putCs cs ((pures rs).take i)) x.1 k).map cellsC).set (x.1.off.toNat + k) (cellsC ⟨true, x.1.hole, v⟩)) :: cel g5 76 [.int .u64 x.1.off, .int .u64 x.1.len, .bool x.1.hole, .slice x.2.1 x.1.data.length x.2.2] :: cel g3 28 [.int .u64 id, .int .u64 par, .int .u64 size, .slice ao rs.length cp] :: F) (by repeat (first | exact SubL.refl | refine SubL.cons (by repeat (first | exact Pick.here | apply Pick.there)) ?_ | refine SubL.skip ?_ | exact SubL.nil)) hf
            rw [← List.map_set, putK_set hxf hxl hv] at h9
            exact h9) ?_
        refine Run.fin ?_
        refine At.inb_norm ?_
        refine At.reg rfl ?_
        refine Run.mv (h := ?_)
        refine Run.add (h := ?_)
        refine Run.eqi (b := ((k + 1 : Nat) : Int)) (by rw [wu64 (by omega) (by omega)]; omega) ?_
        refine Run.as (h := ?_)
        refine Run.fin ?_
        exact At.again (k + 1) (by omega) (by omega)
    · skip
      refine At.exit ?_
      refine At.then_exit ?_
      refine At.then_exit ?_
      refine At.inb_hit ?_
      refine At.inb_norm ?_
      have hke : k = x.1.len.toNat := by omega
      rw [hke, putK_end hxf, ← putCs_succ (pures_at hxk)]
      refine At.reg rfl ?_
      refine Run.mv (h := ?_)
      refine Run.add (h := ?_)
      refine Run.eqi (b := ((i + 1 : Nat) : Int)) (by rw [wi64 (by omega) (by omega)]; omega) ?_
      refine Run.as (h := ?_)
      refine Run.fin ?_
      exact At.again (i + 1) (by omega) (by omega)
  · skip
    refine At.exit ?_
    refine At.then_exit ?_
    refine At.then_exit ?_
    refine At.inb_hit ?_
    have hie : i = rs.length := by omega
    rw [hie, List.take_of_length_le (by simp [pures])]
    exact At.doneN (hΦ := by exact ⟨rfl, rfl⟩)
theorem rrestore {w0 : World} {L : List HP} {co : Option Addr} {n cc : Nat} {l : List AV} (hl : RdS w0 L 4 co (l.map cellsA)) (hn : n = l.length) (hle : n ≤ 1099511627776) (hok : ∀ v ∈ l, AvOk v) (hrd : ∀ v ∈ l, RdA w0 L v) :
    CallOk Tb.P w0 L 26 [.slice co n cc] fun u L' => (l.map AV.ar = [] ∧ u = .tuple #[.slice none 0 0, .int .i64 0, .int .i64 2] ∧ L' = L) ∨ (∃ (i : Nat) (a : Ar) (e : Int), ChOk (l.map AV.ar) i ∧ (l.map AV.ar)[i]? = some a ∧ ((¬ May a ∧ e = 250) ∨ (May a ∧ ¬ Link (l.map AV.ar) i a ∧ e = 251)) ∧ u = .tuple #[.slice none 0 0, .int .i64 i, .int .i64 e] ∧ L' = L) ∨ (l.map AV.ar ≠ [] ∧ ChOk (l.map AV.ar) n ∧ ∃ q N, N = (restP (l.map AV.ar)).length ∧ u = .tuple #[.slice (some ⟨q, 0, none⟩) N N, .int .i64 0, .int .i64 0] ∧ L' = row 5 1 (some ⟨q, 0, none⟩) N (ints .u8 (restP (l.map AV.ar))) :: L) := by
  refine enter Try.func26 rfl Try.ntmps26 (Nat.le_of_ble_eq_true rfl) ?_
  refine At.seq ?_
  refine At.reg rfl ?_
  refine Run.as (h := ?_)
  refine Run.as (h := ?_)
  refine Run.as (h := ?_)
  refine Run.fin ?_
  refine At.seq ?_
  refine At.seq ?_
  refine At.reg rfl ?_
  refine Run.mv (h := ?_)
  refine Run.len Tb.L53 (h := ?_)
  refine Run.eq (h := ?_)
  refine Run.fin ?_
  refine At.cnd' (ht := fun hc12 => ?_) (hf := fun hc12 => ?_)
  · skip
    refine At.seq ?_
    refine At.reg rfl ?_
    refine Run.as (h := ?_)
    refine Run.as (h := ?_)
    refine Run.as (h := ?_)
    refine Run.fin ?_
    refine At.ret ?_
    refine At.then_ret ?_
    exact At.done (hΦ := by exact .inl ⟨by rw [List.eq_nil_of_length_eq_zero (l := l) (by omega)]; rfl, rfl, rfl⟩)
  · skip
    refine At.skip ?_
    refine At.seq ?_
    refine At.seq ?_
    refine At.reg rfl ?_
    refine Run.as (h := ?_)
    refine Run.fin ?_
    refine At.block ?_
    refine At.loop (α := Nat) (fun k => ⟨[(0, .slice co n cc), (5, .int .i64 k)], L, []⟩) (fun k => k ≤ n ∧ ChOk (l.map AV.ar) k) (fun k => n - k) (0) (⟨Nat.zero_le _, fun i a h => by omega⟩) (Ent.of (by repeat (first | exact SubE.nil | refine SubE.cons (by first | rfl | (show some _ = some _; simp; done)) ?_)) (by repeat (first | exact SubL.refl | refine SubL.cons (by repeat (first | exact Pick.here | apply Pick.there)) ?_ | refine SubL.skip ?_ | exact SubL.nil))) (fun k hx => ?_)
    obtain ⟨hk, hch⟩ := hx
    refine At.seq ?_
    refine At.seq ?_
    refine At.reg rfl ?_
    refine Run.mv (h := ?_)
    refine Run.mv (h := ?_)
    refine Run.len Tb.L53 (h := ?_)
    refine Run.lt (h := ?_)
    refine Run.fin ?_
    refine At.cnd' (ht := fun hc16 => ?_) (hf := fun hc16 => ?_)
    · skip
      obtain ⟨v, hvk⟩ : ∃ v, l[k]? = some v := ⟨l[k]'(by omega), List.getElem?_eq_getElem _⟩
      have hvm := List.mem_of_getElem? hvk
      obtain ⟨v1, v2, v3, v4, v5⟩ := hok v hvm
      obtain ⟨hvr, hvd⟩ := hrd v hvm
      have hva := ar_at hvk
      obtain ⟨v0, hv0⟩ : ∃ v, l[0]? = some v := ⟨l[0]'(by omega), List.getElem?_eq_getElem _⟩
      obtain ⟨pv, hpv⟩ : ∃ pv : AV, 0 < k → l[k - 1]? = some pv := by
        rcases Nat.eq_zero_or_pos k with h0 | h0
        · exact ⟨v, fun h => by omega⟩
        · exact ⟨l[k - 1]'(by omega), fun _ => List.getElem?_eq_getElem _⟩
      refine At.skip ?_
      refine At.seq ?_
      refine At.block ?_
      refine At.seq ?_
      refine At.seq ?_
      refine At.reg rfl ?_
      refine Run.mv (h := ?_)
      refine Run.mv (h := ?_)
      refine Run.iaR (ht := Tb.L53) (hR := hl.sub) (hj := rfl) (h1 := by simp; omega) (hn := by omega) (h := ?_)
      refine Run.ldrA (ht := Tb.A28) (hn := Tb.S28) (hR := hl.sub) (hj := cellsA_at hvk) (h := ?_)
      refine Run.call Tb.N33 (hc := rcheck hvr.sub rfl v4 v5 v3) (h := ?_)
      rintro _ _ ⟨bm, rfl, hbm, rfl⟩
      refine Run.ne (h := ?_)
      refine Run.fin ?_
      refine At.cnd' (ht := fun hc24 => ?_) (hf := fun hc24 => ?_)
      · skip
        refine At.seq ?_
        refine At.reg rfl ?_
        refine Run.mv (h := ?_)
        refine Run.as (h := ?_)
        refine Run.as (h := ?_)
        refine Run.as (h := ?_)
        refine Run.fin ?_
        refine At.ret ?_
        refine At.then_ret ?_
        refine At.inb_ret ?_
        refine At.then_ret ?_
        refine At.then_ret ?_
        refine At.inb_ret ?_
        refine At.then_ret ?_
        exact At.done (hΦ := by exact .inr (.inl ⟨k, v.ar, 250, hch, hva, .inl ⟨fun h => by rw [hbm.2 h] at hc24; simp at hc24, rfl⟩, rfl, rfl⟩))
      · skip
        have hmv : May v.ar := hbm.1 (by cases bm <;> simp_all)
        refine At.skip ?_
        refine At.seq ?_
        refine At.seq ?_
        refine At.reg rfl ?_
        refine Run.mv (h := ?_)
        refine Run.eq (h := ?_)
        refine Run.mv (h := ?_)
        refine Run.andB 5 2 (bq := decide (v0.par ≠ 0)) (ht := fun hg34 => by
            refine Run.mv (h := ?_)
            refine Run.iaR (ht := Tb.L53) (hR := hl.sub) (j := 0) (hj := rfl) (h1 := by simp; omega) (hn := by omega) (h := ?_)
            refine Run.fa Tb.F28_1 (h := ?_)
            refine Run.ldr (ht := Tb.A22) (hR := hl.sub) (hj := cellsA_at hv0) (h := ?_)
            refine Run.ne (h := ?_)
            exact Run.fin_sc ScEnd.here) (hrest := ?_)
        refine Run.fin ?_
        refine At.cnd' (ht := fun hc34 => ?_) (hf := fun hc34 => ?_)
        · skip
          refine At.seq ?_
          refine At.reg rfl ?_
          refine Run.as (h := ?_)
          refine Run.as (h := ?_)
          refine Run.as (h := ?_)
          refine Run.fin ?_
          refine At.ret ?_
          refine At.then_ret ?_
          refine At.inb_ret ?_
          refine At.then_ret ?_
          refine At.then_ret ?_
          refine At.inb_ret ?_
          refine At.then_ret ?_
          have hk0 : k = 0 := by omega
          subst hk0
          exact At.done (hΦ := by exact .inr (.inl ⟨0, v.ar, 251, hch, hva, .inr ⟨hmv, fun h => hc34.2 (by rw [hv0] at hvk; cases hvk; exact h.1 rfl), rfl⟩, rfl, rfl⟩))
        · skip
          refine At.skip ?_
          refine At.seq ?_
          refine At.draw [(0, 0), (1, 0), (2, 0), (3, 0), (4, 0), (5, 0), (6, 0), (7, 1), (8, 0), (9, 0), (10, 0), (11, 0), (12, 0), (13, 1), (14, 0), (15, 0), (16, 0), (17, 0), (18, 0), (19, 0), (20, 1), (21, 0), (22, 0), (23, 0), (24, 1), (25, 0), (26, 0), (27, 0)] Tb.mixed (by kernel_rfl) ?_
          refine Run.mv (h := ?_)
          refine Run.gt (h := ?_)
          refine Run.mv (h := ?_)
          refine Run.andB 24 2 (bq := decide (v.par ≠ pv.id) || decide (v.size ≠ v0.size)) (ht := fun hg62 => by
              refine Run.mv (h := ?_)
              refine Run.mv (h := ?_)
              refine Run.iaR (ht := Tb.L53) (hR := hl.sub) (hj := rfl) (h1 := by simp; omega) (hn := by omega) (h := ?_)
              refine Run.fa Tb.F28_1 (h := ?_)
              refine Run.ldr (ht := Tb.A22) (hR := hl.sub) (hj := cellsA_at hvk) (h := ?_)
              refine Run.mv (h := ?_)
              refine Run.mv (h := ?_)
              refine Run.sub (h := ?_)
              refine Run.eqi (b := ((k - 1 : Nat) : Int)) (by rw [wi64 (by omega) (by omega)]; omega) ?_
              refine Run.iaR (ht := Tb.L53) (hR := hl.sub) (hj := rfl) (h1 := by simp; omega) (hn := by omega) (h := ?_)
              refine Run.fa Tb.F28_0 (h := ?_)
              refine Run.ldr (ht := Tb.A22) (hR := hl.sub) (hj := cellsA_at (hpv (by omega))) (h := ?_)
              refine Run.ne (h := ?_)
              refine Run.mv (h := ?_)
              refine Run.orB 10 15 (bq := decide (v.size ≠ v0.size)) (ht := fun hg61 => by
                  refine Run.mv (h := ?_)
                  refine Run.mv (h := ?_)
                  refine Run.iaR (ht := Tb.L53) (hR := hl.sub) (hj := rfl) (h1 := by simp; omega) (hn := by omega) (h := ?_)
                  refine Run.fa Tb.F28_2 (h := ?_)
                  refine Run.ldr (ht := Tb.A22) (hR := hl.sub) (hj := cellsA_at hvk) (h := ?_)
                  refine Run.mv (h := ?_)
                  refine Run.iaR (ht := Tb.L53) (hR := hl.sub) (j := 0) (hj := rfl) (h1 := by simp; omega) (hn := by omega) (h := ?_)
                  refine Run.fa Tb.F28_2 (h := ?_)
                  refine Run.ldr (ht := Tb.A22) (hR := hl.sub) (hj := cellsA_at hv0) (h := ?_)
                  refine Run.ne (h := ?_)
                  exact Run.fin_sc ScEnd.here) (hrest := ?_)
              exact Run.fin_sc ScEnd.here) (hrest := ?_)
          refine Run.fin ?_
          refine At.cnd' (ht := fun hc62 => ?_) (hf := fun hc62 => ?_)
          · skip
            refine At.seq ?_
            refine At.reg rfl ?_
            refine Run.mv (h := ?_)
            refine Run.as (h := ?_)
            refine Run.as (h := ?_)
            refine Run.as (h := ?_)
            refine Run.fin ?_
            refine At.ret ?_
            refine At.inb_ret ?_
            refine At.then_ret ?_
            refine At.then_ret ?_
            refine At.inb_ret ?_
            refine At.then_ret ?_
            have hnl : ¬ Link (l.map AV.ar) k v.ar := fun h => by
              obtain ⟨e1, e2⟩ := h.2 _ (by omega) (ar_at (hpv (by omega)))
              have s1 := hch.size (k - 1) pv.ar (by omega) (ar_at (hpv (by omega)))
              have s2 := hch.size 0 v0.ar (by omega) (ar_at hv0)
              have p3 := (hok pv (List.mem_of_getElem? (hpv (by omega)))).2.2.1
              have p4 := (hok v0 (List.mem_of_getElem? hv0)).2.2.1
              simp only [AV.ar] at s1 s2 e1 e2
              rcases hc62.2 with h1 | h1
              · exact h1 e1
              · exact h1 (by omega)
            exact At.done (hΦ := by exact .inr (.inl ⟨k, v.ar, 251, hch, hva, .inr ⟨hmv, hnl, rfl⟩, rfl, rfl⟩))
          · skip
            have hlk : Link (l.map AV.ar) k v.ar := ⟨fun h0 => Decidable.byContradiction fun h => hc34 ⟨by omega, by
                have e : v0 = v := by subst h0; rw [hv0] at hvk; exact Option.some.inj hvk
                rw [e]; exact h⟩, fun p h0 hp => by
              rw [ar_at (hpv h0)] at hp; cases hp
              have e1 : v.par = pv.id := Decidable.byContradiction fun h => hc62 ⟨by omega, .inl h⟩
              have e2 : v.size = v0.size := Decidable.byContradiction fun h => hc62 ⟨by omega, .inr h⟩
              have s1 := hch.size (k - 1) pv.ar (by omega) (ar_at (hpv h0))
              have s2 := hch.size 0 v0.ar (by omega) (ar_at hv0)
              have p3 := (hok pv (List.mem_of_getElem? (hpv h0))).2.2.1
              have p4 := (hok v0 (List.mem_of_getElem? hv0)).2.2.1
              simp only [AV.ar] at s1 s2 ⊢
              exact ⟨e1, by omega⟩⟩
            refine At.skip ?_
            refine At.inb_norm ?_
            refine At.reg rfl ?_
            refine Run.mv (h := ?_)
            refine Run.add (h := ?_)
            refine Run.eqi (b := ((k + 1 : Nat) : Int)) (by rw [wi64 (by omega) (by omega)]; omega) ?_
            refine Run.as (h := ?_)
            refine Run.fin ?_
            exact At.again (k + 1) (⟨by omega, hch.snoc hva hmv hlk⟩) (by omega)
    · skip
      refine At.exit ?_
      refine At.then_exit ?_
      refine At.then_exit ?_
      refine At.inb_hit ?_
      refine At.seq ?_
      obtain rfl : n = k := by omega
      obtain ⟨v0, hv0⟩ : ∃ v, l[0]? = some v := ⟨l[0]'(by omega), List.getElem?_eq_getElem _⟩
      have hm0 := (hch 0 v0.ar (by omega) (ar_at hv0)).1
      obtain ⟨m1, m2, m3, m4, _⟩ := hm0
      simp only [AV.ar] at m3 m4
      obtain ⟨N, hN⟩ : ∃ N : Nat, (N : Int) = v0.size := ⟨v0.size.toNat, by omega⟩
      have hN0 : size0 (l.map AV.ar) = N := by rw [← hch.size 0 v0.ar (by omega) (ar_at hv0)]; simp only [AV.ar]; omega
      have hlr : ∀ a ∈ l.map AV.ar, ∀ r ∈ a.runs, 0 ≤ r.off ∧ 0 ≤ r.len := fun a ha r hr => by
        obtain ⟨w, hw, rfl⟩ := List.mem_map.1 ha
        obtain ⟨q, hq, rfl⟩ := List.mem_map.1 hr
        have := (hok w hw).2.2.2.2 q hq
        exact ⟨this.1, this.2.2.1⟩
      obtain ⟨hCl0, hCb⟩ := cellsTo_ok hch hlr n (Nat.le_refl _) (by simp; omega)
      have hCl := hCl0.trans hN0
      refine At.reg rfl ?_
      refine Run.mv (h := ?_)
      refine Run.iaR (ht := Tb.L53) (hR := hl.sub) (j := 0) (hj := rfl) (h1 := by simp; omega) (hn := by omega) (h := ?_)
      refine Run.fa Tb.F28_2 (h := ?_)
      refine Run.ldr (ht := Tb.A22) (hR := hl.sub) (hj := cellsA_at hv0) (h := ?_)
      refine Run.mk (ht := Tb.G78) (hz1 := by simp [Value.oneCell']) (n := N) (ha := hN.symm) (hb := hN.symm) (hlen := by simp only [maxLen]; omega) (hby := by omega) (h := fun g68 => ?_)
      refine Run.as (h := ?_)
      refine Run.fin ?_
      refine At.seq ?_
      refine At.seq ?_
      refine At.reg rfl ?_
      refine Run.as (h := ?_)
      refine Run.fin ?_
      refine At.block ?_
      refine At.loop (α := Nat) (fun k => ⟨[(0, .slice co n cc), (6, .slice (some ⟨g68, 0, none⟩) N N), (7, .int .i64 k)], row 80 3 (some ⟨g68, 0, none⟩) N ((cellsTo (l.map AV.ar) k).map cellsC) :: L, []⟩) (fun k => k ≤ n) (fun k => n - k) (0) (Nat.zero_le _) (Ent.of (by repeat (first | exact SubE.nil | refine SubE.cons (by first | rfl | (show some _ = some _; simp; done)) ?_)) (by rw [show (cellsTo (l.map AV.ar) 0).map cellsC = List.replicate N [.bool false, .bool false, .int .u8 0] by simp [cellsTo, hN0, cellsC, clZ]]; exact SubL.refl)) (fun k hk2 => ?_)
      refine At.seq ?_
      refine At.seq ?_
      refine At.reg rfl ?_
      refine Run.mv (h := ?_)
      refine Run.mv (h := ?_)
      refine Run.len Tb.L53 (h := ?_)
      refine Run.lt (h := ?_)
      refine Run.fin ?_
      refine At.cnd' (ht := fun hc72 => ?_) (hf := fun hc72 => ?_)
      · skip
        obtain ⟨v, hvk⟩ : ∃ v, l[k]? = some v := ⟨l[k]'(by omega), List.getElem?_eq_getElem _⟩
        have hvm := List.mem_of_getElem? hvk
        obtain ⟨v1, v2, v3, v4, v5⟩ := hok v hvm
        obtain ⟨hvr, hvd⟩ := hrd v hvm
        have hva := ar_at hvk
        refine At.skip ?_
        refine At.seq ?_
        refine At.block ?_
        refine At.reg rfl ?_
        refine Run.mv (h := ?_)
        refine Run.mv (h := ?_)
        refine Run.mv (h := ?_)
        refine Run.iaR (ht := Tb.L53) (hR := hl.sub) (hj := rfl) (h1 := by simp; omega) (hn := by omega) (h := ?_)
        refine Run.ldrA (ht := Tb.A28) (hn := Tb.S28) (hR := hl.sub) (hj := cellsA_at hvk) (h := ?_)
        refine Run.call Tb.N54 (hc := rlay (cs := cellsTo (l.map AV.ar) k) (by repeat (first | exact Pick.here | apply Pick.there)) ((cellsTo_ok hch hlr k (by omega) (by simp; omega)).1.trans hN0) hvr.sub (fun r h => (hvd r h).sub) v4 (by rw [← hN0]; exact ch_fit hch hlr (by omega) hva) (by omega)) (h := ?_)
        rintro _ _ ⟨rfl, rfl⟩
        rw [show putCs (cellsTo (l.map AV.ar) k) (pures v.rs) = cellsTo (l.map AV.ar) (k + 1) from (cellsTo_succ hva).symm]
        refine Run.fin ?_
        refine At.inb_norm ?_
        refine At.reg rfl ?_
        refine Run.mv (h := ?_)
        refine Run.add (h := ?_)
        refine Run.eqi (b := ((k + 1 : Nat) : Int)) (by rw [wi64 (by omega) (by omega)]; omega) ?_
        refine Run.as (h := ?_)
        refine Run.fin ?_
        exact At.again (k + 1) (by omega) (by omega)
      · skip
        refine At.exit ?_
        refine At.then_exit ?_
        refine At.then_exit ?_
        refine At.inb_hit ?_
        refine At.seq ?_
        obtain rfl : n = k := by omega
        refine At.reg rfl ?_
        refine Run.mv (h := ?_)
        refine Run.len Tb.L78 (h := ?_)
        refine Run.mk (ht := Tb.G23) (hz1 := by simp [Value.oneCell']) (n := N) (ha := rfl) (hb := rfl) (hlen := by simp only [maxLen]; omega) (hby := by omega) (h := fun g83 => ?_)
        refine Run.as (h := ?_)
        refine Run.fin ?_
        refine At.seq ?_
        refine At.seq ?_
        refine At.reg rfl ?_
        refine Run.as (h := ?_)
        refine Run.fin ?_
        refine At.block ?_
        refine At.loop (α := Nat) (fun k => ⟨[(6, .slice (some ⟨g68, 0, none⟩) N N), (8, .slice (some ⟨g83, 0, none⟩) N N), (9, .int .i64 k)], row 5 1 (some ⟨g83, 0, none⟩) N (ints .u8 (outM ((cellsTo (l.map AV.ar) n).map (·.b)) (k))) :: row 80 3 (some ⟨g68, 0, none⟩) N ((cellsTo (l.map AV.ar) n).map cellsC) :: L, []⟩) (fun k => k ≤ N) (fun k => N - k) (0) (Nat.zero_le _) (Ent.of (by repeat (first | exact SubE.nil | refine SubE.cons (by first | rfl | (show some _ = some _; simp; done)) ?_)) (by rw [show ints .u8 (outM ((cellsTo (l.map AV.ar) n).map (·.b)) 0) = List.replicate N [.int .u8 0] by simp [outM, ints, hCl]]; exact SubL.refl)) (fun k hk3 => ?_)
        refine At.seq ?_
        refine At.seq ?_
        refine At.reg rfl ?_
        refine Run.mv (h := ?_)
        refine Run.mv (h := ?_)
        refine Run.len Tb.L78 (h := ?_)
        refine Run.lt (h := ?_)
        refine Run.fin ?_
        refine At.cnd' (ht := fun hc87 => ?_) (hf := fun hc87 => ?_)
        · skip
          obtain ⟨c, hck⟩ : ∃ c, (cellsTo (l.map AV.ar) n)[k]? = some c := ⟨(cellsTo (l.map AV.ar) n)[k]'(by omega), List.getElem?_eq_getElem _⟩
          refine At.skip ?_
          refine At.seq ?_
          refine At.block ?_
          refine At.rowR (e := 5) (h := fun hRo _ _ _ => ?_)
          refine At.rowR (e := 80) (h := fun hRc _ _ _ => ?_)
          refine At.reg rfl ?_
          refine Run.mv (h := ?_)
          refine Run.mv (h := ?_)
          refine Run.mv (h := ?_)
          refine Run.mv (h := ?_)
          refine Run.iaR (ht := Tb.L78) (hR := hRc (by repeat (first | exact Pick.here | apply Pick.there))) (j := k) (hj := rfl) (h1 := by rw [List.length_map]; omega) (hn := by omega) (h := ?_)
          refine Run.fa Tb.F80_2 (h := ?_)
          refine Run.ldr (ht := Tb.A5) (hR := hRc (by repeat (first | exact Pick.here | apply Pick.there))) (hj := cellsC_at hck) (h := ?_)
          refine Run.iaR (ht := Tb.L23) (hR := hRo (by repeat (first | exact Pick.here | apply Pick.there))) (j := k) (hj := rfl) (h1 := by rw [ints_length, outM_len (by simp; omega)]; simp; omega) (hn := by omega) (h := ?_)
          refine Run.str0 (hsz := Tb.S5) (hj := Sx.ints_at (by rw [outM_len (by simp; omega)]; simp; omega)) (h := ?_)
          refine Run.chunks (L' := row 5 1 (some ⟨g83, 0, none⟩) N (ints .u8 (outM ((cellsTo (l.map AV.ar) n).map (·.b)) (k + 1))) :: row 80 3 (some ⟨g68, 0, none⟩) N ((cellsTo (l.map AV.ar) n).map cellsC) :: L) (fun _ hf => by rw [ints_set, outM_set (by rw [List.getElem?_map, hck]; rfl)] at hf; exact hf) ?_
          refine Run.fin ?_
          refine At.inb_norm ?_
          refine At.reg rfl ?_
          refine Run.mv (h := ?_)
          refine Run.add (h := ?_)
          refine Run.eqi (b := ((k + 1 : Nat) : Int)) (by rw [wi64 (by omega) (by omega)]; omega) ?_
          refine Run.as (h := ?_)
          refine Run.fin ?_
          exact At.again (k + 1) (by omega) (by omega)
        · skip
          refine At.exit ?_
          refine At.then_exit ?_
          refine At.then_exit ?_
          refine At.inb_hit ?_
          refine At.seq ?_
          obtain rfl : N = k := by omega
          have hfin : outM ((cellsTo (l.map AV.ar) n).map (·.b)) N = restP (l.map AV.ar) := by
            unfold outM
            rw [List.take_of_length_le (by simp; omega), hCb]
            rw [show (restTo (l.map AV.ar) n).length - N = 0 by rw [← hCb, List.length_map, hCl]; omega, List.replicate_zero, List.append_nil, restTo, List.take_of_length_le (by simp; omega)]; rfl
          rw [hfin]
          have hNl : N = (restP (l.map AV.ar)).length := by rw [← hfin, outM_len (by simp; omega)]; simp; omega
          refine At.reg rfl ?_
          refine Run.mv (h := ?_)
          refine Run.as (h := ?_)
          refine Run.as (h := ?_)
          refine Run.as (h := ?_)
          refine Run.fin ?_
          refine At.ret ?_
          exact At.done (hΦ := by exact .inr (.inr ⟨fun h => by rw [List.map_eq_nil_iff] at h; subst h; exact absurd hv0 (by simp), hch, g83, N, hNl, rfl, rfl⟩))
end Go.Proofs.Ytllpfpdanonhkaa
