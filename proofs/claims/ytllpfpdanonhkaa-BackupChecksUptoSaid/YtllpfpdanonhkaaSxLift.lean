/- From the reading of a call's arguments to what a walk asks: numbers, slices of numbers and of structs. No condition. -/
import Derived.Test.YtllpfpdanonhkaaSxStr
import Derived.ChangeSlices
import Derived.Carry
import Derived.OpenShut
import Derived.JoinedCond
namespace Go.Sx
open Go.RowKit Go.ChangeShapes

theorem Star.left : ∀ {L F : List HP} {f : Frag}, Star (L ++ F) f → Star L f
  | [], _, _, _ => trivial
  | _ :: _, _, _, ⟨h1, a, b, c⟩ => ⟨h1, a, b, Star.left c⟩
/-- A call that turns nothing, whatever else lies there. -/
theorem CallOk.frame0 {P : Program} {w0 : World} {L : List HP} {f : FuncId} {args : List Value} {v : Value} (h : ∀ L2, (∀ fr, Star L2 fr → Star L fr) → CallOk P w0 L2 f args (fun u L' => u = v ∧ L' = L2)) : ∀ F, CallOk P w0 (L ++ F) f args fun u L'' => ∃ L', L'' = L' ++ F ∧ (u = v ∧ L' = L) :=
  fun F => (h (L ++ F) fun _ => Star.left).mono fun _ _ ⟨h1, h2⟩ => ⟨L, h2, h1, rfl⟩

section
variable {H : Type} {enc : TypeId × Value → H} {P : Program} {w : World} {base : Nat} {spare : Nat → Bool} {held : Bool}

/-- A value of one cell. -/
theorem val_cells {v c : Value} (h : v.cells.toList = [c]) (hv : ∀ cs, v ≠ .agg cs) : v = c := by
  cases v <;> first | (exact absurd rfl (hv _)) | (simpa [Value.cells] using h)
theorem val_agg {cs : Array Value} : (Value.agg cs).cells = cs := rfl
theorem wf_int {k : IntKind} {n : Int} (h : (Lit.int k n).wf = true) : k.min ≤ n ∧ n ≤ k.max := by
  simpa [Lit.wf, Bool.and_eq_true, decide_eq_true_eq] using h

/-- A slice: its elements, each read by itself. -/
theorem trod_elems {t e : TypeId} {fuel sz : Nat} {cs : List Value} {x : DataW H × List MemPlace} (ht : P.underlying t = some (.slice e)) (hc : P.cellsOf e = sz) (hsz : 0 < sz) (h : DataW.trod enc P w base spare held fuel t cs = some x) :
    ∃ (ao : Option Addr) (n cp : Nat) (l : List (List Value)) (ds sp : List (DataW H)), cs = [.slice ao n cp] ∧ n = l.length ∧ n ≤ cp ∧ cp ≤ maxLen ∧ ds.length = n ∧ (x.1 = .slice ds sp ∨ (x.1 = .nil ∧ ds = [])) ∧
      (∀ i c, l[i]? = some c → c.length = sz ∧ (∀ j v, c[j]? = some v → w.cell? (plus (adr ao) (i * sz + j)) = some v) ∧ ∃ m d ps, DataW.trod enc P w base spare held m e c = some (d, ps) ∧ ds[i]? = some d) ∧
      (l = [] ∨ ∃ a, ao = some a ∧ a.spot = none) := by
  rcases DataW.trod_slice ht h with ⟨rfl, rfl⟩ | ⟨a, len, cap, elems, rest, n, _, rfl, rfl, hb, hl, hm, hlen, hel, _, _⟩
  · exact ⟨none, 0, 0, [], [], [], rfl, rfl, Nat.le_refl _, Nat.zero_le _, rfl, .inr ⟨rfl, rfl⟩, fun i c hi => by simp at hi, .inl rfl⟩
  · have each : ∀ i, i < len → ∃ c y, w.cells? base (a.add (i * sz)) sz = some c ∧ DataW.trod enc P w base spare held n e c = some y ∧ elems[i]? = some y := fun i hi => by
      have h1 := hel i hi
      rw [List.getElem?_eq_getElem (by omega), hc, Option.bind_eq_some_iff] at h1
      obtain ⟨c, h2, h3⟩ := h1
      exact ⟨c, _, h2, h3, List.getElem?_eq_getElem (by omega)⟩
    have spot : 0 < len → a.spot = none := fun h0 => by
      obtain ⟨c, y, h1, _⟩ := each 0 h0
      obtain ⟨q1, q2, q3⟩ := World.cells?_some h1
      have := q3 0 (by omega)
      simp only [Nat.zero_mul, Addr.add, if_true] at this
      cases hs : a.spot with
      | none => rfl
      | some s =>
        unfold World.cell? at this
        rw [hs] at this
        have hlt : 0 < c.length := by omega
        rw [List.getElem?_eq_getElem hlt] at this
        split at this <;> simp at this
    refine ⟨some a, len, cap, (List.range len).map fun i => ((w.cells? base (a.add (i * sz)) sz).getD []), elems.map (·.1), rest.map (·.1), rfl, by simp, hl, hm, by simpa using hlen, .inl rfl, fun i c hi => ?_, ?_⟩
    · rw [List.getElem?_map] at hi
      obtain ⟨j, hj, rfl⟩ := Option.map_eq_some_iff.1 hi
      obtain ⟨hj1, rfl⟩ : i < len ∧ j = i := by
        have := List.getElem?_eq_some_iff.1 hj
        obtain ⟨h1, h2⟩ := this
        simp at h1 h2
        exact ⟨h1, h2.symm⟩
      obtain ⟨c, y, h1, h2, h3⟩ := each j hj1
      rw [h1]
      obtain ⟨q1, q2, q3⟩ := World.cells?_some h1
      refine ⟨q2, fun k v hv => ?_, n, y.1, y.2, h2, by simp [h3]⟩
      have hk : k < sz := by have := (List.getElem?_eq_some_iff.1 hv).1; simp at this; omega
      have h4 := q3 k hk
      rw [add_plus (spot (by omega)), add_plus (by rfl)] at h4
      simp only [adr, Option.getD_some]
      rw [show plus a (j * sz + k) = plus (plus a (j * sz)) k by simp [plus, Nat.add_assoc], h4]
      simpa using hv
    · rcases Nat.eq_zero_or_pos len with h0 | h0
      · exact .inl (by simp [h0])
      · exact .inr ⟨a, rfl, spot h0⟩

/-- Each element is of a kind. -/
theorem map_of {α : Type} {F : α → List Value} {Q : α → Prop} : ∀ {l : List (List Value)}, (∀ c ∈ l, ∃ a, c = F a ∧ Q a) → ∃ as : List α, l = as.map F ∧ ∀ a ∈ as, Q a
  | [], _ => ⟨[], rfl, fun _ h => by cases h⟩
  | c :: l, h => by
    obtain ⟨a, rfl, ha⟩ := h c List.mem_cons_self
    obtain ⟨as, rfl, has⟩ := map_of (l := l) fun c hc => h c (List.mem_cons_of_mem _ hc)
    exact ⟨a :: as, rfl, fun x hx => by rcases List.mem_cons.1 hx with rfl | hx; exact ha; exact has x hx⟩

/-- The elements as a slice that is read. -/
theorem RdS.of_read {sz : Nat} {ao : Option Addr} {l : List (List Value)} {w0 : World} (hb : ∀ w', Sat w0 w' [] → ∀ a v, w0.cell? a = some v → w'.cell? a = some v) (h1 : ∀ i c, l[i]? = some c → (c.length = sz ∧ ∀ v ∈ c, v.oneCell' = true) ∧ ∀ j v, c[j]? = some v → w0.cell? (plus (adr ao) (i * sz + j)) = some v) (h2 : l = [] ∨ ∃ a, ao = some a ∧ a.spot = none) : RdS w0 [] sz ao l :=
  ⟨fun x hx => by
    obtain ⟨i, hi⟩ := List.getElem?_of_mem hx
    exact (h1 i x hi).1, h2.imp id fun ⟨a, h, _⟩ => ⟨a, h⟩, h2.imp id fun ⟨a, h, hs⟩ b hb => by rw [h] at hb; cases hb; exact hs,
    fun i cs hi j v hv w' hs => hb w' hs _ _ ((h1 i cs hi).2 j v hv)⟩
theorem sat_cell {w0 w' : World} (hs : Sat w0 w' []) (a : Addr) (v : Value) (h : w0.cell? a = some v) : w'.cell? a = some v := by
  have hlt : a.block < w0.heap.size := by
    rcases Nat.lt_or_ge a.block w0.heap.size with h1 | h1
    · exact h1
    · unfold World.cell? at h
      rw [Array.getElem?_eq_none h1] at h; cases h
  rw [hs.bel.cell hlt]; exact h

/-- A slice of numbers. -/
theorem trod_nums {t e : TypeId} {k : IntKind} {fuel : Nat} {cs : List Value} {x : DataW H × List MemPlace} (ht : P.underlying t = some (.slice e)) (he : P.underlying e = some (.int k)) (hc : P.cellsOf e = 1) (h : DataW.trod enc P w base spare held fuel t cs = some x) :
    ∃ (ao : Option Addr) (n cp : Nat) (bs : List Int) (ds sp : List (DataW H)), cs = [.slice ao n cp] ∧ n = bs.length ∧ n ≤ cp ∧ cp ≤ maxLen ∧ RdS w [] 1 ao (ints k bs) ∧ (∀ b ∈ bs, k.min ≤ b ∧ b ≤ k.max) ∧ ds.length = n ∧ (x.1 = .slice ds sp ∨ (x.1 = .nil ∧ ds = [])) := by
  obtain ⟨ao, n, cp, l, ds, sp, h1, h2, h3, h4, h5, h6, h7, h8⟩ := trod_elems ht hc (by omega) h
  obtain ⟨bs, hl, hbs⟩ := map_of (F := fun b : Int => [Value.int k b]) (Q := fun b => k.min ≤ b ∧ b ≤ k.max) (l := l) fun c hcm => by
    obtain ⟨i, hi⟩ := List.getElem?_of_mem hcm
    obtain ⟨_, _, m, d, ps, ht2, _⟩ := h7 i c hi
    obtain ⟨b, rfl, _, hw⟩ := DataW.trod_int he ht2
    exact ⟨b, rfl, wf_int hw⟩
  subst hl
  refine ⟨ao, n, cp, bs, ds, sp, h1, by simpa using h2, h3, h4, RdS.of_read (fun w' => sat_cell) (fun i c hi => ⟨⟨(h7 i c hi).1, ?_⟩, (h7 i c hi).2.1⟩) h8, hbs, h5, h6⟩
  simp only [ints, List.getElem?_map] at hi
  obtain ⟨b, _, rfl⟩ := Option.map_eq_some_iff.1 hi
  simp [Value.oneCell']

theorem Cel.of_read {w0 : World} {a : Addr} {v : Value} (h : w0.cell? a = some v) : Cel w0 [] a v := fun _ hs => sat_cell hs a v h

/-- Of a struct type: each field's type, offset, cells. -/
def fsB (P : Program) (t : TypeId) : Option (List (TypeId × Nat × Nat)) := match P.underlying t with | some (.struct fs) => some (fs.toList.map fun f => (f.type, f.offset, P.cellsOf f.type)) | _ => none
theorem cells_of {t : TypeId} {n : Nat} (h : szB P t = some n) : P.cellsOf t = n := by
  unfold szB at h
  unfold Program.cellsOf
  rw [h]; rfl
/-- A struct: its fields, each read by itself. -/
theorem trod_fields {t : TypeId} {fl : List (TypeId × Nat × Nat)} {fuel : Nat} {cs : List Value} {x : DataW H × List MemPlace} (hf : fsB P t = some fl) (h : DataW.trod enc P w base spare held fuel t cs = some x) :
    ∃ (xs : List (DataW H × List MemPlace)) (n : Nat), x.1 = .agg (xs.map (·.1)) ∧ cs.length = P.cellsOf t ∧ xs.length = fl.length ∧ ∀ (i : Nat) (ty : TypeId) (off sz : Nat), fl[i]? = some (ty, off, sz) → DataW.trod enc P w base spare held n ty ((cs.drop off).take sz) = xs[i]? := by
  unfold fsB at hf
  split at hf
  · rename_i fs hu
    simp only [Option.some.injEq] at hf
    subst hf
    obtain ⟨xs, n, _, rfl, h1, h2, h3⟩ := DataW.trod_struct hu h
    refine ⟨xs, n, rfl, h1, by simpa using h2, fun i ty off sz hi => ?_⟩
    rw [List.getElem?_map] at hi
    obtain ⟨f, hf, he⟩ := Option.map_eq_some_iff.1 hi
    simp only [Prod.mk.injEq] at he
    obtain ⟨rfl, rfl, rfl⟩ := he
    exact h3 i f (by simpa using hf)
  · cases hf
theorem list4 {α : Type} {l : List α} (h : l.length = 4) : ∃ a b c d, l = [a, b, c, d] := by
  match l, h with
  | [a, b, c, d], _ => exact ⟨a, b, c, d, rfl⟩
theorem list5 {α : Type} {l : List α} (h : l.length = 5) : ∃ a b c d e, l = [a, b, c, d, e] := by
  match l, h with
  | [a, b, c, d, e], _ => exact ⟨a, b, c, d, e, rfl⟩
theorem list2 {α : Type} {l : List α} (h : l.length = 2) : ∃ a b, l = [a, b] := by
  match l, h with
  | [a, b], _ => exact ⟨a, b, rfl⟩
theorem agg_of {P : Program} {w : World} {r : Reach} {b0 : Nat} {t : TypeId} {v : Value} {fl : List (TypeId × Nat × Nat)} (hf : fsB P t = some fl) (h : Value.okWide P w r b0 t v) : ∃ cs, v = .agg cs := by
  unfold fsB at hf
  split at hf
  · rename_i fs hu
    unfold Value.okWide at h
    rw [hu] at h
    obtain ⟨cs, h, _⟩ := h
    exact ⟨cs, h⟩
  · cases hf
theorem one_of {P : Program} {w : World} {r : Reach} {b0 : Nat} {t e : TypeId} {v : Value} (hu : P.underlying t = some (.slice e)) (h : Value.okWide P w r b0 t v) : ∀ cs, v ≠ .agg cs := fun cs hv => by
  subst hv
  unfold Value.okWide at h
  rw [hu] at h
  unfold Cell.okWide at h
  rw [hu] at h
  unfold Cell.ok at h
  rw [hu] at h
  exact h

/-! The arguments' outer forms, off the list of all. -/
structure ArgsOk (P : Program) (w : World) (base : Nat) (ps : Array TypeId) (vs : Array Value) : Prop where
  ok : ∀ (j : Nat) t v, ps[j]? = some t → vs[j]? = some v → Value.okWide P w .any base t v
theorem agg_at {P : Program} {w : World} {b0 : Nat} {ps : Array TypeId} {vs : Array Value} {t : TypeId} {v : Value} {fl : List (TypeId × Nat × Nat)} (hf : fsB P t = some fl) (h : ArgsOk P w b0 ps vs) (j : Nat) (h1 : ps[j]? = some t) (h2 : vs[j]? = some v) : ∃ cs, v = .agg cs := agg_of hf (h.ok j t v h1 h2)
theorem one_at {P : Program} {w : World} {b0 : Nat} {ps : Array TypeId} {vs : Array Value} {t e : TypeId} {v : Value} (hu : P.underlying t = some (.slice e)) (h : ArgsOk P w b0 ps vs) (j : Nat) (h1 : ps[j]? = some t) (h2 : vs[j]? = some v) : ∀ cs, v ≠ .agg cs := one_of hu (h.ok j t v h1 h2)
theorem int_at {b0 : Nat} {ps : Array TypeId} {vs : Array Value} {t : TypeId} {k : IntKind} {v : Value} {d : DataW H} {pl : List MemPlace} (ht : P.underlying t = some (.int k)) (h : ArgsOk P w b0 ps vs) (j : Nat) (h1 : ps[j]? = some t) (h2 : vs[j]? = some v) (hd : DataW.Trod enc P w base spare held t v d pl) :
    ∃ n, v = .int k n ∧ d = .lit (.int k n) ∧ pl = [] ∧ (Lit.int k n).wf = true := open_int ht (h.ok j t v h1 h2) hd

/-- A call by its contract, at the start. -/
theorem CallOk.start {P : Program} {w : World} {f : FuncId} {args : List Value} {Φ : Value → List HP → Prop} (h : CallOk P w [] f args Φ) : Calls P f args.toArray w fun e w' => ∃ u L', e = .returned u ∧ Φ u L' ∧ Below w.heap.size w w' :=
  (h w (Sat.refl w)).mono fun _ _ ⟨u, L', h1, h2, h3⟩ => ⟨u, L', h1, h2, h3.bel⟩

theorem trodAll_stays (hl : laidOutB P = true) {W W' : World} {sp' : Nat → Bool} (hb : Below W.heap.size W W') : ∀ {ts : List TypeId} {vs : List Value} {ds : List (DataW H)} {ps : List MemPlace}, (∀ t ∈ ts, P.readableRec t = true ∧ t < P.types.size) →
    DataW.TrodAll enc P W 0 (fun _ => true) true ts vs ds ps → (∀ p ∈ ps, p.block < W.heap.size) → (∀ p ∈ ps, sp' p.block = true) → DataW.TrodAll enc P W' 0 sp' true ts vs ds ps
  | [], _, _, _, _, h, _, _ => by
    obtain ⟨rfl, rfl, rfl⟩ := trodAll_nil h
    exact trodAll_mk0
  | t :: ts, vs, ds, ps, ht, h, h1, h2 => by
    obtain ⟨v, vs', d, ds', p, q, rfl, rfl, rfl, h3, h4⟩ := trodAll_cons h
    obtain ⟨k1, k2⟩ := ht t List.mem_cons_self
    exact ⟨p, q, WideElems.Trod_stays hl k1 k2 h3 (fun x hx => hb.same (h1 x (List.mem_append_left _ hx))) (fun x hx => h2 x (List.mem_append_left _ hx)),
      trodAll_stays hl hb (fun t h => ht t (List.mem_cons_of_mem _ h)) h4 (fun x hx => h1 x (List.mem_append_right _ hx)) (fun x hx => h2 x (List.mem_append_right _ hx)), rfl⟩

/-- A law that has answered true, and has turned nothing that was there. -/
theorem finish {f : Func} {s : ChangeSpec} {W W' : World} {args : Array Value} {ds gs : List (DataW H)} {before : List MemPlace} {tb : TypeId} (hl : laidOutB P = true) (hts : (f.params.toList.all fun t => P.readableRec t && decide (t < P.types.size)) = true) (hr : f.resultTypes = #[tb]) (hu : P.underlying tb = some .bool)
    (hW : DataW.Whole enc P f.params.toList s.vars false W args.toList ds gs before) (hv : s.vars = []) (h1 : (s.fn H (ds ++ gs)).results = [.lit (.bool true)]) (h2 : (s.fn H (ds ++ gs)).args = ds) (h3 : (s.fn H (ds ++ gs)).vars = []) (hb : Below W.heap.size W W') :
    s.post enc P f false true false false W args (.bool true) W' := by
  have hW' := hW
  have hlt := fun p hp => hW.lt p hp
  obtain ⟨p, q, hA, hV, rfl, hfz, hnd⟩ := hW
  rw [hv] at hV
  obtain ⟨rfl, rfl⟩ := trodVars_none hV
  have hargs : ∀ sp : Nat → Bool, (∀ x ∈ p ++ [], sp x.block = true) → DataW.TrodAll enc P W' 0 sp true f.params.toList args.toList (s.fn H (ds ++ [])).args p := fun sp hsp => by
    rw [h2]
    refine trodAll_stays hl hb (fun t ht => ?_) hA (fun x hx => by simpa using hlt x (List.mem_append_left _ hx)) (fun x hx => hsp x (List.mem_append_left _ hx))
    have := List.all_eq_true.1 hts t ht
    simpa [Bool.and_eq_true] using this
  have hvars : ∀ sp : Nat → Bool, DataW.TrodVars enc P W' sp s.vars (s.fn H (ds ++ [])).vars [] := fun sp => by rw [hv, h3]; rfl
  have hres : ∀ (b : Nat) (sp : Nat → Bool) (hd : Bool), DataW.TrodAll enc P W' b sp hd f.resultTypes.toList ((Value.bool true).resultList f.resultTypes.size) (s.fn H (ds ++ [])).results [] := fun _ _ _ => by
    rw [h1, hr]
    exact trodAll_cons_mk (shut_bool hu _) trodAll_mk0
  have hold : ∀ x ∈ p ++ [], (fun b => decide (b < W.heap.size)) x.block = true := fun x hx => by simpa using hlt x hx
  refine ⟨ds, [], p ++ [], [], p, [], hW', hres _ _ _, hargs _ hold, hvars _, hb.frame _, fun _ => ?_⟩
  refine ⟨ok_one hr rfl (okWide_bool_mk hu _), _, _, ([] ++ p) ++ [], ⟨[] ++ p, [], trodAll_append (hargs _ (fun _ _ => rfl)) (hres _ _ _), hvars _, rfl, ?_, fun h => by cases h⟩, ?_⟩
  · intro b off hp
    rw [hb.frozen (by have := hlt _ (show MemPlace.cell b off ∈ p ++ [] by simpa using hp); simpa [MemPlace.block] using this)]
    exact hfz b off (by simpa using hp)
  · intro x hx _
    simpa using hx
end
end Go.Sx
