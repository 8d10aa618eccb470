/- Rows: slices whose block is one's own; slices that are read. append, make, copy, clear. No condition. -/
import Derived.Test.YtllpfpdanonhkaaSxCond
import Derived.Laws.AppendOwn
import Derived.Laws.MakeOwn
import Derived.Laws.OwnMore
import Derived.Laws.CopyRow
namespace Go.Sx
open Go.RowKit

/-! ### Numbers that fit -/
theorem wi64 {x : Int} (h1 : -9223372036854775808 ≤ x) (h2 : x < 9223372036854775808) : IntKind.i64.wrap x = x := by rw [IntKind.wrap_i64]; omega
theorem wu64 {x : Int} (h1 : 0 ≤ x) (h2 : x < 18446744073709551616) : IntKind.u64.wrap x = x := by rw [IntKind.wrap_u64]; omega
theorem wu32 {x : Int} (h1 : 0 ≤ x) (h2 : x < 4294967296) : IntKind.u32.wrap x = x := by simp [IntKind.wrap, IntKind.bits, IntKind.signed]; omega
theorem wu16 {x : Int} (h1 : 0 ≤ x) (h2 : x < 65536) : IntKind.u16.wrap x = x := by simp [IntKind.wrap, IntKind.bits, IntKind.signed]; omega
theorem wu8 {x : Int} (h1 : 0 ≤ x) (h2 : x < 256) : IntKind.u8.wrap x = x := by simp [IntKind.wrap, IntKind.bits, IntKind.signed]; omega

/-! ### Elements -/
/-- Each has sz cells. -/
def Els (sz : Nat) (l : List (List Value)) : Prop := ∀ x ∈ l, x.length = sz ∧ ∀ v ∈ x, v.oneCell' = true
def ints (k : IntKind) (l : List Int) : List (List Value) := l.map fun b => [.int k b]

theorem Els.nil {sz : Nat} : Els sz [] := fun _ h => by cases h
theorem Els.cons {sz : Nat} {x : List Value} {l : List (List Value)} (h : x.length = sz ∧ ∀ v ∈ x, v.oneCell' = true) (k : Els sz l) : Els sz (x :: l) := fun y hy => by
  rcases List.mem_cons.1 hy with rfl | hy
  · exact h
  · exact k y hy
theorem Els.app {sz : Nat} {l l' : List (List Value)} (h : Els sz l) (k : Els sz l') : Els sz (l ++ l') := fun y hy => by
  rcases List.mem_append.1 hy with hy | hy
  · exact h y hy
  · exact k y hy
theorem Els.ints {k : IntKind} {l : List Int} : Els 1 (ints k l) := fun x hx => by
  obtain ⟨b, _, rfl⟩ := List.mem_map.1 hx
  simp [Value.oneCell']
theorem Els.rep {sz n : Nat} {x : List Value} (h : x.length = sz ∧ ∀ v ∈ x, v.oneCell' = true) : Els sz (List.replicate n x) := fun y hy => by
  obtain ⟨_, rfl⟩ := List.mem_replicate.1 hy
  exact h
theorem Els.set {sz n : Nat} {x : List Value} {l : List (List Value)} (h : Els sz l) (k : x.length = sz ∧ ∀ v ∈ x, v.oneCell' = true) : Els sz (l.set n x) := fun y hy => by
  rcases List.mem_or_eq_of_mem_set hy with hy | rfl
  · exact h y hy
  · exact k
theorem Els.take {sz n : Nat} {l : List (List Value)} (h : Els sz l) : Els sz (l.take n) := fun y hy => h y (List.mem_of_mem_take hy)
theorem Els.drop {sz n : Nat} {l : List (List Value)} (h : Els sz l) : Els sz (l.drop n) := fun y hy => h y (List.mem_of_mem_drop hy)

theorem Els.len {sz : Nat} : ∀ {l : List (List Value)}, Els sz l → l.flatten.length = l.length * sz
  | [], _ => by simp
  | x :: l, h => by
    have h1 := (h x List.mem_cons_self).1
    have h2 := Els.len (l := l) fun y hy => h y (List.mem_cons_of_mem _ hy)
    simp only [List.flatten_cons, List.length_append, List.length_cons, h1, h2, Nat.succ_mul]
    omega
theorem Els.one {sz : Nat} {l : List (List Value)} (h : Els sz l) : ∀ v ∈ l.flatten, v.oneCell' = true := fun v hv => by
  obtain ⟨x, hx, hvx⟩ := List.mem_flatten.1 hv
  exact (h x hx).2 v hvx

theorem flat_at {sz : Nat} : ∀ {l : List (List Value)}, Els sz l → ∀ {i j : Nat} {cs : List Value} {v : Value}, l[i]? = some cs → cs[j]? = some v → l.flatten[i * sz + j]? = some v
  | [], _, _, _, _, _, h, _ => by simp at h
  | x :: l, he, 0, j, cs, v, h, hv => by
    simp at h; subst h
    have hj : j < x.length := (List.getElem?_eq_some_iff.1 hv).1
    simp only [List.flatten_cons, Nat.zero_mul, Nat.zero_add]
    rw [List.getElem?_append_left hj]; exact hv
  | x :: l, he, i + 1, j, cs, v, h, hv => by
    have h1 := (he x List.mem_cons_self).1
    have ih := flat_at (l := l) (fun y hy => he y (List.mem_cons_of_mem _ hy)) (i := i) (by simpa using h) hv
    simp only [List.flatten_cons]
    rw [List.getElem?_append_right (by rw [h1, Nat.succ_mul]; omega), h1, show (i + 1) * sz + j - sz = i * sz + j by rw [Nat.succ_mul]; omega]
    exact ih
theorem flat_of {sz : Nat} : ∀ {l : List (List Value)}, Els sz l → ∀ {n : Nat} {v : Value}, l.flatten[n]? = some v → ∃ i j cs, l[i]? = some cs ∧ cs[j]? = some v ∧ n = i * sz + j
  | [], _, _, _, h => by simp at h
  | x :: l, he, n, v, h => by
    have h1 := (he x List.mem_cons_self).1
    simp only [List.flatten_cons] at h
    by_cases hn : n < x.length
    · rw [List.getElem?_append_left hn] at h
      exact ⟨0, n, x, rfl, h, by simp⟩
    · rw [List.getElem?_append_right (by omega)] at h
      obtain ⟨i, j, cs, a, b, c⟩ := flat_of (l := l) (fun y hy => he y (List.mem_cons_of_mem _ hy)) h
      refine ⟨i + 1, j, cs, by simpa using a, b, ?_⟩
      rw [Nat.succ_mul]; omega

/-! ### A slice that is read -/
structure RdS (w0 : World) (L : List HP) (sz : Nat) (ao : Option Addr) (l : List (List Value)) : Prop where
  els : Els sz l
  base : l = [] ∨ ∃ a, ao = some a
  spot : l = [] ∨ ∀ a, ao = some a → a.spot = none
  cel : ∀ i cs, l[i]? = some cs → ∀ j v, cs[j]? = some v → Cel w0 L (plus (adr ao) (i * sz + j)) v

theorem RdS.cons {w0 : World} {L : List HP} {d : HP} {sz : Nat} {ao : Option Addr} {l : List (List Value)} (h : RdS w0 L sz ao l) : RdS w0 (d :: L) sz ao l := ⟨h.els, h.base, h.spot, fun i cs hi j v hv => (h.cel i cs hi j v hv).cons⟩
theorem RdS.ent {w0 : World} {L L2 : List HP} {sz : Nat} {ao : Option Addr} {l : List (List Value)} (h : RdS w0 L sz ao l) (he : ∀ f, Star L2 f → Star L f) : RdS w0 L2 sz ao l := ⟨h.els, h.base, h.spot, fun i cs hi j v hv => (h.cel i cs hi j v hv).ent he⟩
theorem RdS.nil {w0 : World} {L : List HP} {sz : Nat} : RdS w0 L sz none [] := ⟨Els.nil, .inl rfl, .inl rfl, fun i cs hi => by simp at hi⟩
/-- Where something is read, its address is plain. -/
theorem RdS.plain {w0 : World} {L : List HP} {sz : Nat} {ao : Option Addr} {l : List (List Value)} (h : RdS w0 L sz ao l) (hl : 0 < l.length) : ∀ a, ao = some a → a.spot = none := by
  rcases h.spot with rfl | h
  · simp at hl
  · exact h
/-- What is read of nothing but the arguments' memory is read of all. -/
theorem RdS.all {w0 : World} {L : List HP} {sz : Nat} {ao : Option Addr} {l : List (List Value)} (h : RdS w0 [] sz ao l) : RdS w0 L sz ao l := h.ent fun _ _ => trivial

/-! ### A row of one's own -/
def row (e : TypeId) (sz : Nat) (ao : Option Addr) (cp : Nat) (l : List (List Value)) : HP := fun h => Els sz l ∧
  ((ao = none ∧ cp = 0 ∧ l = []) ∨ ∃ g cur, ao = some ⟨g, 0, none⟩ ∧ h g = some (.cells cur e (0, 0)) ∧ l.length ≤ cp ∧ cp ≤ maxLen ∧ cur.size = cp * sz ∧ cur.toList.take (l.length * sz) = l.flatten)

section
variable {w0 w : World} {L F : List HP} {e : TypeId} {sz : Nat} {ao : Option Addr} {cp : Nat} {l : List (List Value)}

theorem Sat.row (hs : Sat w0 w (Sx.row e sz ao cp l :: F)) : Els sz l ∧ ((ao = none ∧ cp = 0 ∧ l = [] ∧ Sat w0 w F) ∨
    ∃ g cur, ao = some ⟨g, 0, none⟩ ∧ l.length ≤ cp ∧ cp ≤ maxLen ∧ cur.size = cp * sz ∧ cur.toList.take (l.length * sz) = l.flatten ∧ Sat w0 w (blk g (.cells cur e (0, 0)) :: F)) := by
  obtain ⟨h1, hl, ⟨he, hr⟩, hst⟩ := hs.star
  refine ⟨he, ?_⟩
  rcases hr with ⟨a, b, c⟩ | ⟨g, cur, a, b, c, d, k, m⟩
  · exact .inl ⟨a, b, c, hs.tail⟩
  · exact .inr ⟨g, cur, a, c, d, k, m, ⟨hs.bel, h1, hl, b, hst⟩⟩
theorem Sat.toRow {g : Nat} {cur : Array Value} (hs : Sat w0 w (blk g (.cells cur e (0, 0)) :: F)) (he : Els sz l) (h1 : l.length ≤ cp) (h2 : cp ≤ maxLen) (h3 : cur.size = cp * sz) (h4 : cur.toList.take (l.length * sz) = l.flatten) :
    Sat w0 w (Sx.row e sz (some ⟨g, 0, none⟩) cp l :: F) := by
  obtain ⟨f1, hl, hb, hst⟩ := hs.star
  exact ⟨hs.bel, f1, hl, ⟨he, .inr ⟨g, cur, rfl, hb, h1, h2, h3, h4⟩⟩, hst⟩
theorem Sat.nilRow (hs : Sat w0 w F) : Sat w0 w (Sx.row e sz none 0 [] :: F) := ⟨hs.bel, fun _ => none, fun _ _ hk => (by cases hk), ⟨Els.nil, .inl ⟨rfl, rfl, rfl⟩⟩, Star.mono (fun k o hk => by simpa [Frag.sub] using hk) hs.star⟩
theorem Star.nilRow {f : Frag} (hs : Star F f) : Star (Sx.row e sz none 0 [] :: F) f := ⟨fun _ => none, fun _ _ hk => (by cases hk), ⟨Els.nil, .inl ⟨rfl, rfl, rfl⟩⟩, Star.mono (fun k o hk => by simpa [Frag.sub] using hk) hs⟩

theorem row_shape {f : Frag} (h : Sx.row e sz ao cp l f) : Els sz l ∧ (l = [] ∨ ∃ a, ao = some a) ∧ (∀ a, ao = some a → a.spot = none) ∧ l.length ≤ cp ∧ cp ≤ maxLen ∧ (ao = none → cp = 0) := by
  obtain ⟨he, ⟨a, b, c⟩ | ⟨g, cur, a, b, c, d, k, m⟩⟩ := h
  · subst a b c; exact ⟨he, .inl rfl, (fun _ h => by cases h), by simp, by simp, fun _ => rfl⟩
  · subst a; exact ⟨he, .inr ⟨_, rfl⟩, (fun _ h => by cases h; rfl), c, d, fun h => by cases h⟩

/-- A row is read as what it is. -/
theorem RdS.own (hp : Pick L (Sx.row e sz ao cp l) F) (hsh : Els sz l ∧ (l = [] ∨ ∃ a, ao = some a) ∧ (∀ a, ao = some a → a.spot = none)) : RdS w0 L sz ao l := by
  refine ⟨hsh.1, hsh.2.1, .inr hsh.2.2, fun i cs hi j v hv w hs => ?_⟩
  obtain ⟨he, ⟨a, b, c, _⟩ | ⟨g, cur, a, c, d, k, m, hb⟩⟩ := (hs.pick hp).row
  · subst c; simp at hi
  · subst a
    have h1 := flat_at he hi hv
    rw [← m, List.getElem?_take] at h1
    split at h1
    · have h2 := hb.blk_at.1
      simp only [Array.getElem?_toList] at h1
      simp only [adr, Option.getD_some, World.cell?, h2, Nat.zero_add]
      simpa using h1
    · cases h1
end

section
variable {c : Cx} {n : Nat} {S : St} {X : Act → World → Prop}
/-- Of a row: what holds of it at any rate. -/
theorem At.rows {F : List HP} {e : TypeId} {sz : Nat} {ao : Option Addr} {cp : Nat} {l : List (List Value)} (hp : Pick S.L (row e sz ao cp l) F := by repeat (first | exact Pick.here | apply Pick.there))
    (h : Els sz l → (l = [] ∨ ∃ a, ao = some a) → (∀ a, ao = some a → a.spot = none) → l.length ≤ cp → cp ≤ maxLen → (ao = none → cp = 0) → At c n S X) : At c n S X := fun a w hr hs => by
  obtain ⟨f1, _, hb, _⟩ := (hs.pick hp).star
  obtain ⟨h1, h2, h3, h4, h5, h6⟩ := row_shape hb
  exact h h1 h2 h3 h4 h5 h6 a w hr hs
end

/-! ### Table facts -/
/-- Of a slice type: its element's type, zero cells, size, bytes. -/
def elB (P : Program) (t : TypeId) : Option (TypeId × List Value × Nat × Nat) :=
  match P.underlying t with
  | some (.slice e) => match P.info? e with
    | some i => match i.zero with
      | some z => if Nat.blt 0 i.size && Nat.beq z.cells.size i.size then some (e, z.cells.toList, i.size, i.bytes) else none
      | none => none
    | none => none
  | _ => none
theorem elB_spec {P : Program} {t e : TypeId} {zl : List Value} {sz by' : Nat} (h : elB P t = some (e, zl, sz, by')) : P.underlying t = some (.slice e) ∧ ∃ i z, P.info? e = some i ∧ i.zero = some z ∧ i.size = sz ∧ i.bytes = by' ∧ z.cells.size = sz ∧ 0 < sz ∧ z.cells.toList = zl := by
  unfold elB at h
  split at h <;> try cases h
  rename_i e' hu
  split at h <;> try cases h
  rename_i i hi
  split at h <;> try cases h
  rename_i z hz
  split at h <;> try cases h
  rename_i hb
  simp only [Bool.and_eq_true, Nat.blt_eq] at hb
  exact ⟨hu, i, z, hi, hz, rfl, rfl, Nat.eq_of_beq_eq_true hb.2, hb.1, rfl⟩

/-! ### append -/
theorem RdS.news {w0 w : World} {L : List HP} {sz : Nat} {a : Addr} {l : List (List Value)} (h : RdS w0 L sz (some a) l) (hs : Sat w0 w L) : ∀ j u, l.flatten[j]? = some u → w.cell? (a.add j) = some u := fun j u hu => by
  obtain ⟨i, k, cs, h1, h2, rfl⟩ := flat_of h.els hu
  have hl : 0 < l.length := by have := (List.getElem?_eq_some_iff.1 h1).1; omega
  rw [add_plus (h.plain hl a rfl)]
  exact h.cel i cs h1 k u h2 w hs

theorem app_run {P : Program} {w0 w : World} {L F : List HP} {t ty e : TypeId} {zl : List Value} {sz by' : Nat} {ao bo : Option Addr} {cp c : Nat} {l xs : List (List Value)} (ht : elB P t = some (e, zl, sz, by')) (hp : Pick L (row e sz ao cp l) F) (hx : RdS w0 L sz bo xs)
    (hs : Sat w0 w L) (hlen : l.length + xs.length ≤ maxLen) (hby : (l.length + xs.length) * by' ≤ 140737488355328) :
    ∃ ao' cp' w', (Builtin.append_ #[t, t] ty #[.slice ao l.length cp, .slice bo xs.length c]).run P w = .ok (.slice ao' (l.length + xs.length) cp') w' ∧ Sat w0 w' (row e sz ao' cp' (l ++ xs) :: F) := by
  obtain ⟨hu, i, z, hi, hz, rfl, rfl, hzs, hsz, rfl⟩ := elB_spec ht
  have hsm : l.length + xs.length ≤ 9223372036854775807 := by simp only [maxLen] at hlen; omega
  have hs' := hs.pick hp
  obtain ⟨he, hr⟩ := hs'.row
  have hall : Els i.size (l ++ xs) := he.app hx.els
  have hnl : xs.flatten.length = xs.length * i.size := hx.els.len
  -- a new row
  have fresh : ∀ (w1 : World), Sat w0 w1 F → ∀ (olds : List Value), olds = l.flatten → ∀ C, l.length + xs.length ≤ C → C ≤ maxLen →
      Sat w0 (w1.alloc (.cells (olds.toArray ++ xs.flatten.toArray ++ Builtin.zeroCells z.cells (C - (l.length + xs.length))) e)) (row e i.size (some ⟨w1.heap.size, 0, none⟩) C (l ++ xs) :: F) := fun w1 hs1 olds ho C hC1 hC2 => by
    subst ho
    refine (hs1.push _).toRow hall (by simpa using hC1) hC2 ?_ ?_
    · simp only [Array.size_append, List.size_toArray, size_zeroCells, hzs, he.len, hnl, ← Nat.add_mul]
      congr 1; omega
    · have e1 : (l ++ xs).length * i.size = (l.flatten ++ xs.flatten).length := by rw [← hall.len, List.flatten_append]
      rw [e1, List.flatten_append]
      simp only [Array.toList_append]
      exact List.take_left
  cases bo with
  | none =>
    rcases hx.base with rfl | ⟨_, h⟩
    case inr => cases h
    refine ⟨ao, cp, w, ?_, by simpa using hs'⟩
    rcases hr with ⟨rfl, rfl, rfl, _⟩ | ⟨g, cur, rfl, hlc, _⟩
    · simp [Builtin.append_, run_underlying hu, sizeOf, typeInfo, hi, Builtin.lenOf, Builtin.firstCells]
    · simp [Builtin.append_, run_underlying hu, sizeOf, typeInfo, hi, Builtin.lenOf, Builtin.firstCells, hlc, storeCells]
  | some b =>
    have hnews := hx.news hs
    rcases hr with ⟨rfl, rfl, rfl, hF⟩ | ⟨g, cur, rfl, hlc, hcm, hcs, htk, hB⟩
    · by_cases hm : xs.length = 0
      · have : xs = [] := List.eq_nil_of_length_eq_zero hm
        subst this
        refine ⟨none, 0, w, ?_, by simpa using hs'⟩
        simp [Builtin.append_, run_underlying hu, sizeOf, typeInfo, hi, Builtin.lenOf, Builtin.firstCells, loadCells, loadCellsFrom]
      · have hr := run_append_nil (P := P) w t ty e i z hu hi hz b xs.length c xs.flatten hnl hnews (by omega) (by simp only [List.length_nil] at hsm; omega) (by simp only [List.length_nil, Nat.zero_add] at hby; omega)
        have hf := fresh w.drew (hF.drawn _) [] rfl (grownCap w xs.length 0 e) (by simpa using grownCap_ge w xs.length 0 e) (grownCap_le_maxLen w _ 0 e (by simpa using hlen))
        refine ⟨_, _, _, by simpa using hr, ?_⟩
        simpa using hf
    · by_cases hroom : l.length + xs.length ≤ cp
      · have hg := hB.blk_at.1
        have hfit : l.length * i.size + xs.flatten.length ≤ cur.size := by rw [hnl, hcs, ← Nat.add_mul]; exact Nat.mul_le_mul_right _ hroom
        have hr := run_append_room (P := P) w t ty e i hu hi g l.length cp cur hg b xs.length c xs.flatten hnl hnews hx.els.one hroom hfit
        refine ⟨_, _, _, hr, ?_⟩
        refine (hB.turn (w' := w.setRow g (cur.toList.take (l.length * i.size) ++ xs.flatten ++ cur.toList.drop (l.length * i.size + xs.flatten.length)).toArray) (o' := .cells (cur.toList.take (l.length * i.size) ++ xs.flatten ++ cur.toList.drop (l.length * i.size + xs.flatten.length)).toArray e (0, 0)) rfl rfl rfl (by simp [World.setRow]) (setRow_heap w g cur _ e _ hg) fun k hk => setRow_other w g k _ hk).toRow hall (by simpa using hroom) hcm ?_ ?_
        · simp only [List.size_toArray, List.length_append, List.length_take, List.length_drop, Array.length_toList]
          omega
        · rw [htk, List.flatten_append]
          have e1 : (l ++ xs).length * i.size = (l.flatten ++ xs.flatten).length := by rw [← hall.len, List.flatten_append]
          rw [e1]
          exact List.take_left
      · have holds : ∀ j u, l.flatten[j]? = some u → w.cell? ((⟨g, 0, none⟩ : Addr).add j) = some u := fun j u hj => by
          have hg := hB.blk_at.1
          rw [add_plus rfl]
          rw [← htk, List.getElem?_take] at hj
          split at hj
          · simp only [World.cell?, hg, Nat.zero_add]
            simpa using hj
          · cases hj
        have hr := run_append_grow (P := P) w t ty e i z hu hi hz ⟨g, 0, none⟩ l.length cp l.flatten he.len holds b xs.length c xs.flatten hnl hnews (by omega) (by omega) (growslice_fits (by omega) hby)
        have hf := fresh w.drew (hB.tail.drawn _) l.flatten rfl (grownCap w (l.length + xs.length) cp e) (grownCap_ge w _ cp e) (grownCap_le_maxLen w _ cp e hlen)
        exact ⟨_, _, _, hr, hf⟩
end Go.Sx
