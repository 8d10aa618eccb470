/- A slice and what has been put behind it, in its own block or in another; lists of chunks by number. No condition. -/
import Derived.Test.YtllpfpdanonhkaaSxStr
namespace Go.Sx
open Go.RowKit

/-! ### append, the old row kept -/
theorem app_run2 {P : Program} {w0 w : World} {L F : List HP} {t ty e : TypeId} {zl : List Value} {sz by' : Nat} {ao bo : Option Addr} {cp c : Nat} {l xs : List (List Value)} (ht : elB P t = some (e, zl, sz, by')) (hp : Pick L (row e sz ao cp l) F) (hx : RdS w0 L sz bo xs)
    (hs : Sat w0 w L) (hlen : l.length + xs.length ≤ maxLen) (hby : (l.length + xs.length) * by' ≤ 140737488355328) :
    ∃ ao' cp' w', (Builtin.append_ #[t, t] ty #[.slice ao l.length cp, .slice bo xs.length c]).run P w = .ok (.slice ao' (l.length + xs.length) cp') w' ∧ ((ao' = ao ∧ cp' = cp ∧ Sat w0 w' (row e sz ao cp (l ++ xs) :: F)) ∨ Sat w0 w' (row e sz ao' cp' (l ++ xs) :: row e sz ao cp l :: F)) := by
  obtain ⟨hu, i, z, hi, hz, rfl, rfl, hzs, hsz, rfl⟩ := elB_spec ht
  have hsm : l.length + xs.length ≤ 9223372036854775807 := by simp only [maxLen] at hlen; omega
  have hs' := hs.pick hp
  obtain ⟨he, hr⟩ := hs'.row
  have hall : Els i.size (l ++ xs) := he.app hx.els
  have hnl : xs.flatten.length = xs.length * i.size := hx.els.len
  -- a new row
  have fresh : ∀ (F : List HP) (w1 : World), Sat w0 w1 F → ∀ (olds : List Value), olds = l.flatten → ∀ C, l.length + xs.length ≤ C → C ≤ maxLen →
      Sat w0 (w1.alloc (.cells (olds.toArray ++ xs.flatten.toArray ++ Builtin.zeroCells z.cells (C - (l.length + xs.length))) e)) (row e i.size (some ⟨w1.heap.size, 0, none⟩) C (l ++ xs) :: F) := fun F w1 hs1 olds ho C hC1 hC2 => by
    subst ho
    refine (hs1.push _).toRow hall (by simpa using hC1) hC2 ?_ ?_
    · simp only [Array.size_append, List.size_toArray, size_zeroCells, hzs, he.len, hnl, ← Nat.add_mul]
      congr 1; omega
    · have e1 : (l ++ xs).length * i.size = (l.flatten ++ xs.flatten).length := by rw [← hall.len, List.flatten_append]
      rw [e1, List.flatten_append]
      simp only [Array.toList_append]
      exact List.take_left
  cases bo with
  | none =>
    rcases hx.base with rfl | ⟨_, h⟩
    case inr => cases h
    refine ⟨ao, cp, w, ?_, .inl ⟨rfl, rfl, by simpa using hs'⟩⟩
    rcases hr with ⟨rfl, rfl, rfl, _⟩ | ⟨g, cur, rfl, hlc, _⟩
    · simp [Builtin.append_, run_underlying hu, sizeOf, typeInfo, hi, Builtin.lenOf, Builtin.firstCells]
    · simp [Builtin.append_, run_underlying hu, sizeOf, typeInfo, hi, Builtin.lenOf, Builtin.firstCells, hlc, storeCells]
  | some b =>
    have hnews := hx.news hs
    rcases hr with ⟨rfl, rfl, rfl, hF⟩ | ⟨g, cur, rfl, hlc, hcm, hcs, htk, hB⟩
    · by_cases hm : xs.length = 0
      · have : xs = [] := List.eq_nil_of_length_eq_zero hm
        subst this
        refine ⟨none, 0, w, ?_, .inl ⟨rfl, rfl, by simpa using hs'⟩⟩
        simp [Builtin.append_, run_underlying hu, sizeOf, typeInfo, hi, Builtin.lenOf, Builtin.firstCells, loadCells, loadCellsFrom]
      · have hr := run_append_nil (P := P) w t ty e i z hu hi hz b xs.length c xs.flatten hnl hnews (by omega) (by simp only [List.length_nil] at hsm; omega) (by simp only [List.length_nil, Nat.zero_add] at hby; omega)
        have hf := fresh (row e i.size none 0 [] :: F) w.drew (Sat.nilRow (hF.drawn _)) [] rfl (grownCap w xs.length 0 e) (by simpa using grownCap_ge w xs.length 0 e) (grownCap_le_maxLen w _ 0 e (by simpa using hlen))
        refine ⟨_, _, _, by simpa using hr, .inr ?_⟩
        simpa using hf
    · by_cases hroom : l.length + xs.length ≤ cp
      · have hg := hB.blk_at.1
        have hfit : l.length * i.size + xs.flatten.length ≤ cur.size := by rw [hnl, hcs, ← Nat.add_mul]; exact Nat.mul_le_mul_right _ hroom
        have hr := run_append_room (P := P) w t ty e i hu hi g l.length cp cur hg b xs.length c xs.flatten hnl hnews hx.els.one hroom hfit
        refine ⟨_, _, _, hr, .inl ⟨rfl, rfl, ?_⟩⟩
        refine (hB.turn (w' := w.setRow g (cur.toList.take (l.length * i.size) ++ xs.flatten ++ cur.toList.drop (l.length * i.size + xs.flatten.length)).toArray) (o' := .cells (cur.toList.take (l.length * i.size) ++ xs.flatten ++ cur.toList.drop (l.length * i.size + xs.flatten.length)).toArray e (0, 0)) rfl rfl rfl (by simp [World.setRow]) (setRow_heap w g cur _ e _ hg) fun k hk => setRow_other w g k _ hk).toRow hall (by simpa using hroom) hcm ?_ ?_
        · simp only [List.size_toArray, List.length_append, List.length_take, List.length_drop, Array.length_toList]
          omega
        · rw [htk, List.flatten_append]
          have e1 : (l ++ xs).length * i.size = (l.flatten ++ xs.flatten).length := by rw [← hall.len, List.flatten_append]
          rw [e1]
          exact List.take_left
      · have holds : ∀ j u, l.flatten[j]? = some u → w.cell? ((⟨g, 0, none⟩ : Addr).add j) = some u := fun j u hj => by
          have hg := hB.blk_at.1
          rw [add_plus rfl]
          rw [← htk, List.getElem?_take] at hj
          split at hj
          · simp only [World.cell?, hg, Nat.zero_add]
            simpa using hj
          · cases hj
        have hr := run_append_grow (P := P) w t ty e i z hu hi hz ⟨g, 0, none⟩ l.length cp l.flatten he.len holds b xs.length c xs.flatten hnl hnews (by omega) (by omega) (growslice_fits (by omega) hby)
        have hf := fresh (row e i.size (some ⟨g, 0, none⟩) cp l :: F) w.drew ((hB.toRow he hlc hcm hcs htk).drawn _) l.flatten rfl (grownCap w (l.length + xs.length) cp e) (grownCap_ge w _ cp e) (grownCap_le_maxLen w _ cp e hlen)
        exact ⟨_, _, _, hr, .inr hf⟩

/-- A row is its front's. -/
theorem row_take {e : TypeId} {sz : Nat} {ao : Option Addr} {cp : Nat} {l m : List (List Value)} {f : Frag} (h : row e sz ao cp (l ++ m) f) : row e sz ao cp l f := by
  obtain ⟨he, h⟩ := h
  have hl : Els sz l := fun x hx => he x (List.mem_append_left _ hx)
  refine ⟨hl, ?_⟩
  rcases h with ⟨a, b, c⟩ | ⟨g, cur, a, b, c, d, k, m1⟩
  · exact .inl ⟨a, b, (List.append_eq_nil_iff.1 c).1⟩
  · refine .inr ⟨g, cur, a, b, by simp at c; omega, d, k, ?_⟩
    have e1 := congrArg (List.take (l.length * sz)) m1
    rw [List.take_take, Nat.min_eq_left (by rw [List.length_append, Nat.add_mul]; omega)] at e1
    rw [e1, List.flatten_append, List.take_append_of_le_length (by rw [hl.len]; exact Nat.le_refl _), List.take_of_length_le (by rw [hl.len]; exact Nat.le_refl _)]
/-- A slice at ao, and at e the same with more behind it, in place or elsewhere. -/
def own2 (ty : TypeId) (sz : Nat) (ao : Option Addr) (cp : Nat) (l : List (List Value)) (e : Option Addr × Nat) (x : List (List Value)) : HP := fun h =>
  (e = (ao, cp) ∧ row ty sz ao cp (l ++ x) h) ∨ Star [row ty sz e.1 e.2 (l ++ x), row ty sz ao cp l] h
theorem own2_mk {ty : TypeId} {sz : Nat} {ao : Option Addr} {cp : Nat} {l : List (List Value)} {f : Frag} (h : row ty sz ao cp l f) : own2 ty sz ao cp l (ao, cp) [] f := .inl ⟨rfl, by simpa using h⟩
theorem own2_shape {ty : TypeId} {sz : Nat} {ao : Option Addr} {cp : Nat} {l : List (List Value)} {e : Option Addr × Nat} {x : List (List Value)} {f : Frag} (h : own2 ty sz ao cp l e x f) :
    (Els sz l ∧ (l = [] ∨ ∃ a, ao = some a) ∧ (∀ a, ao = some a → a.spot = none)) ∧ (Els sz (l ++ x) ∧ (l ++ x = [] ∨ ∃ a, e.1 = some a) ∧ (∀ a, e.1 = some a → a.spot = none)) := by
  rcases h with ⟨rfl, h⟩ | ⟨h1, _, h, h2, _, h3, _⟩
  · obtain ⟨a, b, c, _⟩ := row_shape h
    obtain ⟨a', b', c', _⟩ := row_shape (row_take h)
    exact ⟨⟨a', b', c'⟩, a, b, c⟩
  · obtain ⟨a, b, c, _⟩ := row_shape h
    obtain ⟨a', b', c', _⟩ := row_shape h3
    exact ⟨⟨a', b', c'⟩, a, b, c⟩
theorem own2_old {ty : TypeId} {sz : Nat} {ao : Option Addr} {cp : Nat} {l : List (List Value)} {e : Option Addr × Nat} {x : List (List Value)} {L F : List HP} {w0 : World} (hp : Pick L (own2 ty sz ao cp l e x) F) (hsh : Els sz l ∧ (l = [] ∨ ∃ a, ao = some a) ∧ (∀ a, ao = some a → a.spot = none)) : RdS w0 L sz ao l :=
  ⟨hsh.1, hsh.2.1, .inr hsh.2.2, fun i cs hi j v hv w hs => by
    have h1 := hs.pick hp
    obtain ⟨f1, hl, ho, hst⟩ := h1.star
    have hrow : Star (row ty sz ao cp l :: F) (ownf w0 w) := by
      rcases ho with ⟨rfl, h⟩ | h
      · exact ⟨f1, hl, row_take h, hst⟩
      · have h3 : Star (pack [row ty sz e.1 e.2 (l ++ x), row ty sz ao cp l] :: F) (ownf w0 w) := ⟨f1, hl, h, hst⟩
        exact (Star.unpack h3).tail
    exact (RdS.own (L := row ty sz ao cp l :: F) .here hsh).cel i cs hi j v hv w ⟨h1.bel, hrow⟩⟩
theorem own2_new {ty : TypeId} {sz : Nat} {ao : Option Addr} {cp : Nat} {l : List (List Value)} {e : Option Addr × Nat} {x : List (List Value)} {L F : List HP} {w0 : World} (hp : Pick L (own2 ty sz ao cp l e x) F) (hsh : Els sz (l ++ x) ∧ (l ++ x = [] ∨ ∃ a, e.1 = some a) ∧ (∀ a, e.1 = some a → a.spot = none)) : RdS w0 L sz e.1 (l ++ x) :=
  ⟨hsh.1, hsh.2.1, .inr hsh.2.2, fun i cs hi j v hv w hs => by
    have h1 := hs.pick hp
    obtain ⟨f1, hl, ho, hst⟩ := h1.star
    have hrow : Star (row ty sz e.1 e.2 (l ++ x) :: F) (ownf w0 w) := by
      rcases ho with ⟨rfl, h⟩ | h
      · exact ⟨f1, hl, h, hst⟩
      · have h3 : Star (pack [row ty sz e.1 e.2 (l ++ x), row ty sz ao cp l] :: F) (ownf w0 w) := ⟨f1, hl, h, hst⟩
        exact Star.cons_mono (fun _ h => h.tail) (Star.unpack h3)
    exact (RdS.own (L := row ty sz e.1 e.2 (l ++ x) :: F) .here hsh).cel i cs hi j v hv w ⟨h1.bel, hrow⟩⟩

section
variable {c : Cx} {ops : Array Oper} {un : Nat → Nat → Bool} {K : St → Prop} {i : Nat} {rest : List (Nat × Nat × Oper)} {fs : Fs} {env : Env} {L : List HP} {ds : List Deferred}
variable {d : Tmp} {x y : Operand} {t ty : TypeId} {pos : String} {af : Array Edge} {g : Option (Nat × Bool)}
theorem Run.apO {ao bo : Option Addr} {e2 : Option Addr × Nat} {n m cp cq sz by' : Nat} {e : TypeId} {zl : List Value} {F : List HP} {l xs ys l2 : List (List Value)} {n2 : Nat} (ht : elB c.P t = some (e, zl, sz, by')) (hx : opd env x = some (.slice e2.1 n e2.2) := by rfl) (hy : opd env y = some (.slice bo m cq) := by rfl) (hp : Pick L (own2 e sz ao cp l e2 xs) F := by repeat (first | exact Pick.here | apply Pick.there)) (hg : gok ops env g = true := by rfl)
    (hR : RdS c.w0 L sz bo ys) (hlen : l.length + xs.length + ys.length ≤ maxLen) (hby : (l.length + xs.length + ys.length) * by' ≤ 140737488355328) (hn : n = l.length + xs.length := by first | rfl | simp) (hm : m = ys.length := by first | rfl | simp) (hl2 : xs ++ ys = l2 := by rfl) (hn2 : l.length + xs.length + ys.length = n2 := by rfl) (hK : fs = [] := by rfl) (h : ∀ ao' cp', Run c ops un K rest fs ⟨(d, .slice ao' n2 cp') :: env, own2 e sz ao cp l (ao', cp') l2 :: F, ds⟩) : Run c ops un K ((i, 3, ⟨some d, .call { callee := .builtin .append, args := #[x, y], argTypes := #[t, t] }, ty, pos, af, g⟩) :: rest) fs ⟨env, L, ds⟩ := by
  subst hl2 hn2 hK
  subst hn hm
  refine .inl ⟨defd_of (by simp [Op.operands, Call.operands, hx, hy]) (.inl hg), by simp, gok_wanted hg, by simp, fun u L' => ∃ ao' cp', u = .slice ao' (l.length + xs.length + ys.length) cp' ∧ L' = own2 e sz ao cp l (ao', cp') (xs ++ ys) :: F, fun a w ha _ hs => ?_, fun _ => ⟨_, _, none, 0, rfl, rfl⟩, (fun e' he => by cases he), fun u L' ⟨ao', cp', hu, hL⟩ => by subst hu hL; exact h ao' cp'⟩
  have hev := ha.eval
  have e1 : a.eval x = .slice e2.1 (l ++ xs).length e2.2 := by rw [List.length_append]; exact (hev x (by simp [Op.operands, Call.operands])).trans (rho_of hx)
  have e3 : a.eval y = .slice bo ys.length cq := (hev y (by simp [Op.operands, Call.operands])).trans (rho_of hy)
  have h1 := hs.pick hp
  obtain ⟨f1, hl, ho, hst⟩ := h1.star
  have hRn : ∀ f, Star (own2 e sz ao cp l e2 xs :: F) f → Star L f := fun f hf => hp.unstar hf
  rcases ho with ⟨rfl, hro⟩ | ho
  · have hs1 : Sat c.w0 w (row e sz ao cp (l ++ xs) :: F) := ⟨h1.bel, f1, hl, hro, hst⟩
    have hR1 : RdS c.w0 (row e sz ao cp (l ++ xs) :: F) sz bo ys := hR.ent fun f hf => hRn f (Star.head_mono (fun _ hr => .inl ⟨rfl, hr⟩) hf)
    obtain ⟨ao', cp', w', hrun, hs'⟩ := app_run2 (ty := ty) (c := cq) ht .here hR1 hs1 (by rw [List.length_append]; exact hlen) (by rw [List.length_append]; exact hby)
    refine append_wpIn rfl e1 e3 hrun ⟨_, _, rfl, ⟨ao', cp', by rw [List.length_append], rfl⟩, ?_⟩
    rcases hs' with ⟨rfl, rfl, hs'⟩ | hs'
    · exact hs'.mono fun f hf => Star.head_mono (fun _ hr => .inl ⟨rfl, by rw [← List.append_assoc]; exact hr⟩) hf
    · refine hs'.mono fun f hf => ?_
      have h4 : Star (pack [row e sz ao' cp' (l ++ xs ++ ys), row e sz ao cp (l ++ xs)] :: F) f := Star.repack (L1 := [row e sz ao' cp' (l ++ xs ++ ys), row e sz ao cp (l ++ xs)]) hf
      exact Star.head_mono (fun _ hr => .inr (by rw [← List.append_assoc]; exact Star.cons_mono (fun _ => Star.head_mono fun _ => row_take) hr)) h4
  · have h3 : Star (pack [row e sz e2.1 e2.2 (l ++ xs), row e sz ao cp l] :: F) (ownf c.w0 w) := ⟨f1, hl, ho, hst⟩
    have hs1 : Sat c.w0 w (row e sz e2.1 e2.2 (l ++ xs) :: row e sz ao cp l :: F) := ⟨h1.bel, Star.unpack h3⟩
    have hR1 : RdS c.w0 (row e sz e2.1 e2.2 (l ++ xs) :: row e sz ao cp l :: F) sz bo ys := hR.ent fun f hf => hRn f (Star.head_mono (fun _ hr => .inr hr) (Star.repack (L1 := [row e sz e2.1 e2.2 (l ++ xs), row e sz ao cp l]) hf))
    obtain ⟨ao', cp', w', hrun, hs'⟩ := app_run2 (ty := ty) (c := cq) ht .here hR1 hs1 (by rw [List.length_append]; exact hlen) (by rw [List.length_append]; exact hby)
    refine append_wpIn rfl e1 e3 hrun ⟨_, _, rfl, ⟨ao', cp', by rw [List.length_append], rfl⟩, ?_⟩
    have h5 : Sat c.w0 w' (row e sz ao' cp' (l ++ xs ++ ys) :: row e sz ao cp l :: F) := by
      rcases hs' with ⟨rfl, rfl, hs'⟩ | hs'
      · exact hs'
      · exact hs'.mono fun f hf => Star.cons_mono (fun _ h => h.tail) hf
    refine h5.mono fun f hf => ?_
    have h4 : Star (pack [row e sz ao' cp' (l ++ xs ++ ys), row e sz ao cp l] :: F) f := Star.repack (L1 := [row e sz ao' cp' (l ++ xs ++ ys), row e sz ao cp l]) hf
    exact Star.head_mono (fun _ hr => .inr (by rw [← List.append_assoc]; exact hr)) h4
end

/-! ### Chunks by number -/
def packN (n : Nat) (c : Nat → HP) : HP := pack ((List.range n).map c)
def restN (n k : Nat) (c : Nat → HP) : HP := pack ((((List.range n).take k) ++ ((List.range n).drop (k + 1))).map c)
theorem packN_split {n k : Nat} {c : Nat → HP} (hk : k < n) : (List.range n).map c = ((List.range n).take k).map c ++ c k :: ((List.range n).drop (k + 1)).map c := by
  have h1 : (List.range n)[k]? = some k := List.getElem?_range hk
  have h2 : k < (List.range n).length := by simpa using hk
  have h3 : List.range n = (List.range n).take k ++ k :: (List.range n).drop (k + 1) := by
    have h4 := List.drop_eq_getElem_cons h2
    rw [show (List.range n)[k] = k by simp] at h4
    rw [← h4, List.take_append_drop]
  conv => lhs; rw [h3]
  rw [List.map_append, List.map_cons]
theorem pick_midN {l F : List HP} {a : HP} : Pick (l ++ a :: F) a (l ++ F) := by
  induction l with
  | nil => exact .here
  | cons _ _ ih => exact .there ih
theorem packN_open {n k : Nat} {c : Nat → HP} {F : List HP} {f : Frag} (hk : k < n) (h : Star (packN n c :: F) f) : Star (c k :: restN n k c :: F) f := by
  have h1 := Star.unpack (L1 := (List.range n).map c) h
  rw [packN_split hk, List.append_assoc, List.cons_append] at h1
  have h2 := pick_midN.star h1
  refine Star.cons_mono (fun _ h => ?_) h2
  unfold restN
  rw [List.map_append]
  refine Star.repack (L1 := _ ++ _) ?_
  rw [List.append_assoc]; exact h
theorem packN_close {n k : Nat} {c c' : Nat → HP} {F : List HP} {f : Frag} (hk : k < n) (hc : ∀ m, m < n → m ≠ k → c m = c' m) (h : Star (c' k :: restN n k c :: F) f) : Star (packN n c' :: F) f := by
  refine Star.repack (L1 := (List.range n).map c') ?_
  rw [packN_split hk, List.append_assoc, List.cons_append]
  refine pick_midN.unstar (Star.cons_mono (fun _ h => ?_) h)
  have e1 : ((List.range n).take k).map c = ((List.range n).take k).map c' := List.map_congr_left fun m hm => by
    obtain ⟨i, hi⟩ := List.getElem?_of_mem hm
    rw [List.getElem?_take] at hi
    split at hi
    · rename_i h5
      rw [List.getElem?_range (by omega)] at hi
      cases hi
      exact hc _ (by omega) (by omega)
    · cases hi
  have e2 : ((List.range n).drop (k + 1)).map c = ((List.range n).drop (k + 1)).map c' := List.map_congr_left fun m hm => by
    obtain ⟨i, hi⟩ := List.getElem?_of_mem hm
    rw [List.getElem?_drop] at hi
    have h6 := (List.getElem?_eq_some_iff.1 hi).1
    rw [List.getElem?_range (by simpa using h6)] at hi
    cases hi
    exact hc _ (by simpa using h6) (by omega)
  unfold restN at h
  rw [List.map_append, e1, e2] at h
  have h7 := Star.unpack (L1 := _ ++ _) h
  rwa [List.append_assoc] at h7
theorem packN_close0 {n : Nat} {c c' : Nat → HP} {F : List HP} {f : Frag} (hc : ∀ m, m < n → c m = c' m) (h : Star (packN n c :: F) f) : Star (packN n c' :: F) f := by
  have e : (List.range n).map c = (List.range n).map c' := List.map_congr_left fun m hm => hc m (List.mem_range.1 hm)
  unfold packN at h ⊢
  rw [← e]; exact h
theorem packN_at {n k : Nat} {c : Nat → HP} {L F : List HP} {f : Frag} (hk : k < n) (hp : Pick L (packN n c) F) (h : Star L f) : Star (c k :: restN n k c :: F) f := packN_open hk (hp.star h)
theorem range_at {α : Type} {n k : Nat} {g : Nat → α} (h : k < n) : ((List.range n).map g)[k]? = some (g k) := by rw [List.getElem?_map, List.getElem?_range h]; rfl
end Go.Sx
