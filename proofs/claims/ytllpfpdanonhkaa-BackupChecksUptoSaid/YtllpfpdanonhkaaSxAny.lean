/- A region that leaves its order open is met by one walk in one order, where a closed test says so. No condition. -/
import Derived.Test.YtllpfpdanonhkaaSxSwap
namespace Go.Sx
open Go.RowKit

section
variable {c : Cx} {ops : Array Oper} {un : Nat → Nat → Bool} {K : St → Prop}

theorem Run.front (hK : ∀ S S2, Ent S2 S → K S → K S2) {y : Nat × Nat × Oper} {post : List (Nat × Nat × Oper)} :
    ∀ (pre : List (Nat × Nat × Oper)), (∀ x ∈ pre, un x.1 y.1 = true ∧ okPair ops x y = true ∧ c.strict x.1 = true) → ∀ (fs : Fs) (S : St), Run c ops un K (pre ++ y :: post) fs S → Run c ops un K (y :: (pre ++ post)) fs S
  | [], _, _, _, h => h
  | x :: pre, hall, fs, S, h => by
    have hx := hall x List.mem_cons_self
    have h1 : Step c ops un x fs S (fun fs1 S1 => Step c ops un y fs1 S1 (Run c ops un K (pre ++ post))) :=
      Step.mono (fun fs1 S1 h1 => Run.front hK pre (fun z hz => hall z (List.mem_cons_of_mem _ hz)) fs1 S1 h1) h
    exact swap_ok (Run.closed hK _) hx.2.2 hx.1 hx.2.1 h1

/-- What a step of the machine meets. -/
theorem Step1.exec {n : Nat} {x : Nat × Nat × Oper} {fs : Fs} {S : St} {C : Fs → St → Prop} {a : Act} {w : World} (hk : x.2.1 ≤ 4) (hn : ∀ t, x.2.2.dst = some t → t < n)
    (hr : Rep n S a) (hs : Sat c.w0 w S.L) (h : Step1 c ops un x fs S C) :
    if Region.wanted x.2.2 (yielded ops a.tmps) then x.2.2.wpIn (FW c.r) 0 c.P a w (fun a' w' => (∃ fs' S', C fs' S' ∧ Rep n S' a' ∧ Sat c.w0 w' S'.L) ∧ ∃ u, a' = a.put x.2.2.dst u) (c.Q a S.ds)
    else ∃ fs' S', C fs' S' ∧ Rep n S' (a.put x.2.2.dst undef) ∧ Sat c.w0 w S'.L := by
  obtain ⟨i, k, o⟩ := x
  obtain ⟨hd, hsel, h⟩ := h
  have ha := hr.agree hd
  have hex := ha.exec hsel
  have hsem : (∀ d, o.op ≠ .defer d) → Oper.semAt c.r a.eval o = execOp (rho S.env) o := fun hnd => by rw [Oper.semAt_eq _ _ _ hnd, hex]
  have hwt := ha.wanted
  dsimp only at *
  match k, hk, h with
  | 0, _, ⟨v, hc, hnd, hC⟩ =>
    rcases hc with ⟨h1, h2⟩ | ⟨h1, rfl⟩
    · rw [hwt, h1, if_pos rfl]
      refine ⟨fun _ _ => trivial, ?_⟩
      show o.uponIn (FW c.r) 0 c.P a _ _ ((o.semAt c.r a.eval).run c.P w)
      rw [hsem hnd, h2 w]
      exact ⟨⟨_, _, hC, hr.put _ hn _, by rw [St.put_Leq]; exact hs⟩, _, rfl⟩
    · rw [hwt, h1, if_neg (by simp)]
      exact ⟨_, _, hC, hr.put _ hn _, by rw [St.put_Leq]; exact hs⟩
  | 1, _, ⟨h1, hnd, v, hv, hC⟩ =>
    rw [hwt, h1, if_pos rfl]
    refine ⟨fun _ _ => trivial, ?_⟩
    show o.uponIn (FW c.r) 0 c.P a _ _ ((o.semAt c.r a.eval).run c.P w)
    rw [hsem hnd, hv w hs]
    exact ⟨⟨_, _, hC, hr.put _ hn _, by rw [St.put_Leq]; exact hs⟩, _, rfl⟩
  | 2, _, ⟨h1, hnd, ob, val, hv, hC⟩ =>
    rw [hwt, h1, if_pos rfl]
    refine ⟨fun _ _ => trivial, ?_⟩
    show o.uponIn (FW c.r) 0 c.P a _ _ ((o.semAt c.r a.eval).run c.P w)
    rw [hsem hnd, hv w]
    exact ⟨⟨_, _, hC w.heap.size, Rep.put (S := { S with L := blk w.heap.size ob :: S.L }) ⟨hr.size, hr.ds, hr.val⟩ _ hn _, by rw [St.put_Leq]; exact hs.push ob⟩, _, rfl⟩
  | 3, _, ⟨h1, hnd, Φ, hv, _, _, hC⟩ =>
    rw [hwt, h1, if_pos rfl]
    refine Oper.wpIn_mono (fun a' w' ⟨u, L', e1, e2, e3⟩ => ?_) (hv a w ha hr.ds hs)
    subst e1
    exact ⟨⟨_, _, hC u L' e2, Rep.put (S := { S with L := L' }) ⟨hr.size, hr.ds, hr.val⟩ _ hn _, by rw [St.put_Leq]; exact e3⟩, _, rfl⟩
  | 4, _, ⟨h1, hnd, Φ, hv, _, _, hC⟩ =>
    rw [hwt, h1, if_pos rfl]
    refine Oper.wpIn_mono (fun a' w' ⟨u, L', e1, e2, e3⟩ => ?_) (hv [] a w ha hr.ds (by rw [List.append_nil]; exact hs))
    subst e1
    exact ⟨⟨_, _, hC u L' e2, Rep.put (S := { S with L := L' }) ⟨hr.size, hr.ds, hr.val⟩ _ hn _, by rw [St.put_Leq]; rw [List.append_nil] at e3; exact e3⟩, _, rfl⟩

theorem Step.exec {n : Nat} {x : Nat × Nat × Oper} {fs : Fs} {S : St} {C : Fs → St → Prop} {a : Act} {w : World} (hk : x.2.1 ≤ 4) (hn : ∀ t, x.2.2.dst = some t → t < n)
    (hr : Rep n S a) (hs : Sat c.w0 w S.L) (h : Step c ops un x fs S C) :
    if Region.wanted x.2.2 (yielded ops a.tmps) then x.2.2.wpIn (FW c.r) 0 c.P a w (fun a' w' => (∃ fs' S', C fs' S' ∧ Rep n S' a' ∧ Sat c.w0 w' S'.L) ∧ ∃ u, a' = a.put x.2.2.dst u) (c.Q a S.ds)
    else ∃ fs' S', C fs' S' ∧ Rep n S' (a.put x.2.2.dst undef) ∧ Sat c.w0 w S'.L := by
  rcases h with h | ⟨_, _, h⟩
  · exact Step1.exec hk hn hr hs h
  · exact Step1.exec (x := (x.1, 0, x.2.2)) (Nat.zero_le _) hn hr hs h

/-! ### The closed test -/
/-- Who waits for whom, as one number an operation. -/
def masks : List Oper → List Nat → List Nat
  | [], acc => acc
  | o :: rest, acc => masks rest (acc ++ [o.after.foldl (fun s e => if Region.binds .any e then s ||| 2 ^ e.on ||| acc.getD e.on 0 else s) 0])
def unord (ms : List Nat) (j i : Nat) : Bool := !(ms.getD i 0).testBit j

def certB (ops : Array Oper) (ms : List Nat) : Bool :=
  (List.range ops.size).all fun i => (List.range ops.size).all fun j => unord ms j i ||
    match ops[i]? with
    | some o => o.after.any fun e => Region.binds .any e && decide (e.on < i) && (e.on == j || !unord ms j e.on)
    | none => false

def pairsB (ops : Array Oper) (ms : List Nat) : List (Nat × Nat × Oper) → Bool
  | [] => true
  | x :: rest => (rest.all fun y => x.1 != y.1 && (!unord ms x.1 y.1 || okPair ops x y) && x.2.2.after.all fun e => !Region.binds .any e || e.on != y.1) && pairsB ops ms rest

/-- The list's form: kinds by place, out of the operations. -/
def listed (ops : Array Oper) (c0 : List (Nat × Nat)) : List (Nat × Nat × Oper) := c0.map fun (i, k) => (i, k, (ops[i]?).getD default)

def formB (n : Nat) (ops : Array Oper) (c0 : List (Nat × Nat)) : Bool :=
  decide (c0.length = ops.size) && ((List.range ops.size).all fun i => c0.any fun x => x.1 == i) &&
  c0.all (fun x => decide (x.1 < ops.size) && decide (x.2 ≤ 4)) &&
  ops.all fun o => (match o.dst with | some t => decide (t < n) | none => true)

def edgesB (ops : Array Oper) : Bool :=
  (List.range ops.size).all fun i => match ops[i]? with
    | some o => o.after.all fun e => !Region.binds .any e || (decide (e.on < ops.size) && e.on != i)
    | none => false

def drawB (n : Nat) (ops : Array Oper) (c0 : List (Nat × Nat)) : Bool :=
  formB n ops c0 && edgesB ops && certB ops (masks ops.toList []) && pairsB ops (masks ops.toList []) (listed ops c0)

theorem pairsB_spec {ms : List Nat} : ∀ {l : List (Nat × Nat × Oper)}, pairsB ops ms l = true →
    l.Pairwise fun x y => x.1 ≠ y.1 ∧ (unord ms x.1 y.1 = true → okPair ops x y = true) ∧ ∀ e ∈ x.2.2.after, Region.binds .any e = true → e.on ≠ y.1
  | [], _ => .nil
  | x :: rest, h => by
    simp only [pairsB, Bool.and_eq_true, List.all_eq_true] at h
    refine .cons (fun y hy => ?_) (pairsB_spec h.2)
    have := h.1 y hy
    simp only [Bool.or_eq_true, Bool.not_eq_true', Array.all_eq_true_iff_forall_mem, bne_iff_ne, ne_eq] at this
    refine ⟨this.1.1, fun hu => ?_, fun e he hb => ?_⟩
    · rcases this.1.2 with h1 | h1
      · rw [hu] at h1; cases h1
      · exact h1
    · rcases this.2 e he with h1 | h1
      · rw [hb] at h1; cases h1
      · exact h1

/-- All that waits comes behind what it waits for. -/
theorem waits_listed {ms : List Nat} (hc : certB ops ms = true) {ls : Array Bool} (hcl : ∀ j oj, ops[j]? = some oj → ls.getD j false = true → ∀ e ∈ oj.after, Region.binds .any e = true → ls.getD e.on false = true) :
    ∀ (i j : Nat) (o : Oper), ops[i]? = some o → (∀ e ∈ o.after, Region.binds .any e = true → ls.getD e.on false = true) → j < ops.size → unord ms j i = false → ls.getD j false = true := by
  intro i
  induction i using Nat.strongRecOn with
  | _ i ih =>
    intro j o ho hall hj hu
    have hi : i < ops.size := (Array.getElem?_eq_some_iff.1 ho).1
    have := List.all_eq_true.1 (List.all_eq_true.1 hc i (List.mem_range.2 hi)) j (List.mem_range.2 hj)
    simp only [hu, Bool.false_or, ho] at this
    obtain ⟨e, he, hb⟩ := Array.any_eq_true'.1 this
    simp only [Bool.and_eq_true, decide_eq_true_eq, Bool.or_eq_true, beq_iff_eq, Bool.not_eq_true'] at hb
    obtain ⟨⟨hb1, hlt⟩, h2⟩ := hb
    have hle := hall e he hb1
    rcases h2 with h2 | h2
    · rw [← h2]; exact hle
    · cases hoe : ops[e.on]? with
      | none =>
        have : ops.size ≤ e.on := by
          rcases Nat.lt_or_ge e.on ops.size with h | h
          · rw [Array.getElem?_eq_getElem h] at hoe; cases hoe
          · exact h
        omega
      | some oe => exact ih e.on hlt j oe hoe (hcl e.on oe hoe hle) hj h2

theorem Run.any {n : Nat} {Q : Exit → Act → World → Prop} {ms : List Nat} {K0 : Nat → Value → Prop} (hK : ∀ S S2, Ent S2 S → K S → K S2) (hE : ∀ ds ch w, c.E ds ch w → ∀ a, a.defers = ds → (∀ t v, K0 t v → a.tmps[t]? = some v) → Q (.panic ch) a w) (hK0 : ∀ o ∈ ops, ∀ t, o.dst = some t → ∀ v, ¬ K0 t v)
    (hQ : ∀ S a w, K S → Rep n S a → Sat c.w0 w S.L → Q .normal a w) (hdst : ∀ o ∈ ops, ∀ t, o.dst = some t → t < n) (hedge : edgesB ops = true) (hcert : certB ops ms = true) :
    ∀ (l : List (Nat × Nat × Oper)) (ls : Array Bool) (fs : Fs) (S : St) (a : Act) (w : World),
      (l.Pairwise fun x y => (unord ms x.1 y.1 = true → okPair ops x y = true ∧ c.strict x.1 = true) ∧ ∀ e ∈ x.2.2.after, Region.binds .any e = true → e.on ≠ y.1) →
      (∀ x ∈ l, ops[x.1]? = some x.2.2 ∧ x.2.1 ≤ 4 ∧ ls.getD x.1 true = false) → (∀ i, i < ops.size → ls.getD i true = false → ∃ k o, (i, k, o) ∈ l) → (l.Pairwise fun x y => x.1 ≠ y.1) →
      (∀ j oj, ops[j]? = some oj → ls.getD j false = true → ∀ e ∈ oj.after, Region.binds .any e = true → ls.getD e.on false = true) → ls.size = ops.size →
      (∀ t v, K0 t v → a.tmps[t]? = some v) → Rep n S a → Sat c.w0 w S.L → Run c ops (unord ms) K l fs S → wpAnyIn (FW c.r) 0 c.P .any ops Q l.length ls a w := by
  intro l
  generalize hlen : l.length = m
  induction m generalizing l with
  | zero =>
    intro ls fs S a w _ _ h2 _ _ _ _ hr hs hrun
    obtain rfl : l = [] := List.eq_nil_of_length_eq_zero hlen
    refine ⟨?_, hQ S a w hrun hr hs⟩
    refine List.eq_nil_iff_forall_not_mem.2 fun i hi => ?_
    obtain ⟨h0, o, ho, _⟩ := mem_ready.1 hi
    obtain ⟨k, o', hm⟩ := h2 i (Array.getElem?_eq_some_iff.1 ho).1 h0
    cases hm
  | succ m ih =>
    intro ls fs S a w hp h1 h2 hne hcl hsz hk0 hr hs hrun
    refine ⟨fun h0 => ?_, fun i hi => ?_⟩
    · -- the head may come up
      exfalso
      cases l with
      | nil => simp at hlen
      | cons x l =>
        have hx := h1 x List.mem_cons_self
        have : x.1 ∈ Region.ready .any ops ls := mem_ready.2 ⟨hx.2.2, x.2.2, hx.1, fun e he hb => by
          have hxlt : x.1 < ops.size := (Array.getElem?_eq_some_iff.1 hx.1).1
          have hed := List.all_eq_true.1 hedge x.1 (List.mem_range.2 hxlt)
          simp only [hx.1, Array.all_eq_true_iff_forall_mem, Bool.or_eq_true, Bool.not_eq_true', Bool.and_eq_true, decide_eq_true_eq, bne_iff_ne] at hed
          have hed' := (hed e he).resolve_left (by rw [hb]; simp)
          cases hl : ls.getD e.on true with
          | true =>
            have : e.on < ls.size := by rw [hsz]; exact hed'.1
            simp [this] at hl ⊢; exact hl
          | false =>
            obtain ⟨k, o, hm⟩ := h2 e.on hed'.1 hl
            rcases List.mem_cons.1 hm with heq | hm
            · exact absurd (congrArg Prod.fst heq) hed'.2
            · exact absurd rfl ((List.pairwise_cons.1 hp).1 _ hm |>.2 e he hb)⟩
        rw [h0] at this
        cases this
    · obtain ⟨hun, o, ho, hall⟩ := mem_ready.1 hi
      have hilt : i < ops.size := (Array.getElem?_eq_some_iff.1 ho).1
      obtain ⟨k, o', hm⟩ := h2 i hilt hun
      have ho' : o' = o := Option.some.inj ((h1 _ hm).1.symm.trans ho)
      subst ho'
      obtain ⟨pre, post, rfl⟩ := List.append_of_mem hm
      have hpre : ∀ x ∈ pre, unord ms x.1 i = true ∧ okPair ops x (i, k, o') = true ∧ c.strict x.1 = true := fun x hx => by
        have hxm : x ∈ pre ++ (i, k, o') :: post := List.mem_append_left _ hx
        have hx1 := h1 x hxm
        have hu : unord ms x.1 i = true := by
          cases hu : unord ms x.1 i with
          | true => rfl
          | false =>
            have hxlt : x.1 < ops.size := (Array.getElem?_eq_some_iff.1 hx1.1).1
            have := waits_listed hcert hcl i x.1 o' ho hall hxlt hu
            have hxs : x.1 < ls.size := by rw [hsz]; exact hxlt
            have h3 := hx1.2.2
            simp [hxs] at this h3
            rw [this] at h3; cases h3
        refine ⟨hu, ((List.pairwise_append.1 hp).2.2 x hx _ List.mem_cons_self).1 hu⟩
      have hfr := Run.front hK pre hpre fs S hrun
      have hst := Step.exec (n := n) (x := (i, k, o')) (h1 _ hm).2.1 (fun t ht => hdst o' (Array.mem_of_getElem? ho) t ht) hr hs hfr
      have hput : ∀ u t v, K0 t v → (a.put o'.dst u).tmps[t]? = some v := fun u t v hk => by
        cases hd : o'.dst with
        | none => exact hk0 t v hk
        | some d =>
          have hne : d ≠ t := fun e => hK0 o' (Array.mem_of_getElem? ho) d hd v (e ▸ hk)
          simp only [Act.put, Array.getElem?_setIfInBounds_ne hne]
          exact hk0 t v hk
      have hnext : ∀ a' w', ((∃ fs' S', Run c ops (unord ms) K (pre ++ post) fs' S' ∧ Rep n S' a' ∧ Sat c.w0 w' S'.L) ∧ ∃ u, a' = a.put o'.dst u) → wpAnyIn (FW c.r) 0 c.P .any ops Q m (ls.setIfInBounds i true) a' w' := by
        rintro a' w' ⟨⟨fs', S', hrun', hr', hs'⟩, u, rfl⟩
        have hsub : (pre ++ post).Sublist (pre ++ (i, k, o') :: post) := (List.Sublist.refl pre).append (List.sublist_cons_self _ _)
        have hnei : ∀ x ∈ pre ++ post, x.1 ≠ i := fun x hx => by
          rcases List.mem_append.1 hx with hx | hx
          · exact (List.pairwise_append.1 hne).2.2 x hx _ List.mem_cons_self
          · exact Ne.symm ((List.pairwise_cons.1 (List.pairwise_append.1 hne).2.1).1 x hx)
        refine ih (pre ++ post) (by simp at hlen ⊢; omega) _ fs' S' _ w' (hp.sublist hsub) (fun x hx => ?_) (fun j hj hjl => ?_) (hne.sublist hsub) (fun j oj hj hl e he hb => ?_) (by simp [hsz]) (hput u) hr' hs' hrun'
        · have := h1 x (hsub.subset hx)
          refine ⟨this.1, this.2.1, ?_⟩
          rw [getD_set_ne true (Ne.symm (hnei x hx))]; exact this.2.2
        · by_cases e : i = j
          · subst e
            have : i < ls.size := by rw [hsz]; exact hilt
            simp [this] at hjl
          · rw [getD_set_ne true e] at hjl
            obtain ⟨k2, o2, hm2⟩ := h2 j hj hjl
            refine ⟨k2, o2, ?_⟩
            rcases List.mem_append.1 hm2 with h | h
            · exact List.mem_append_left _ h
            · rcases List.mem_cons.1 h with h | h
              · exact absurd (congrArg Prod.fst h).symm e
              · exact List.mem_append_right _ h
        · by_cases e1 : i = j
          · subst e1
            have : oj = o' := Option.some.inj (hj.symm.trans ho)
            subst this
            exact getD_set_true (hall e he hb)
          · rw [getD_set_ne false e1] at hl
            exact getD_set_true (hcl j oj hj hl e he hb)
      unfold wpOpIn
      simp only [ho]
      dsimp only at hst
      split
      · rename_i hw
        rw [if_pos hw] at hst
        refine wpIn_Q (fun e a' w ⟨ch, h1, h2, h3, h4⟩ => by subst h1 h2; exact hE _ ch w h4 _ h3 hk0) (Oper.wpIn_mono hnext hst)
      · rename_i hw
        rw [if_neg hw] at hst
        exact ⟨fun _ _ => trivial, hnext _ _ ⟨hst, _, rfl⟩⟩
where
  wpIn_Q {o : Oper} {a : Act} {w : World} {K1 : Act → World → Prop} {Q1 Q2 : Exit → Act → World → Prop} (hq : ∀ e a w, Q1 e a w → Q2 e a w) (h : o.wpIn (FW c.r) 0 c.P a w K1 Q1) : o.wpIn (FW c.r) 0 c.P a w K1 Q2 := by
    unfold Oper.wpIn at *
    refine ⟨h.1, ?_⟩
    have h := h.2
    generalize (o.semAt (FW c.r).round a.eval).run c.P w = r at *
    cases r with
    | ok x w' =>
      cases x <;> simp only [Oper.uponIn] at h ⊢ <;>
        first
          | exact h
          | exact ⟨h.1, CallsIn.mono h.2 fun e w'' he => by cases e <;> first | exact he | exact hq _ _ _ he | exact let ⟨a0, w0, h0⟩ := he; ⟨a0, w0, hq _ _ _ h0⟩⟩
          | exact ⟨h.1, RoundIn.mono h.2 fun e w'' he => by cases e <;> first | exact he | exact hq _ _ _ he | exact let ⟨a0, w0, h0⟩ := he; ⟨a0, w0, hq _ _ _ h0⟩⟩
    | halt x w' => cases x <;> simp only [Oper.uponIn] at h ⊢ <;> exact hq _ _ _ h

/-! ### The two regions -/
/-- From this state on. -/
def At (c : Cx) (n : Nat) (S : St) (X : Act → World → Prop) : Prop := ∀ a w, Rep n S a → Sat c.w0 w S.L → X a w

theorem At.ent {n : Nat} {X : Act → World → Prop} {S S2 : St} (he : Ent S2 S) (h : At c n S X) : At c n S2 X :=
  fun a w hr hs => h a w ⟨hr.size, hr.ds.trans he.ds, fun t v hv => hr.val t v (he.env t v hv)⟩ (hs.ent he.L)
theorem At.mono {n : Nat} {X Y : Act → World → Prop} {S : St} (h : At c n S X) (hxy : ∀ a w, X a w → Y a w) : At c n S Y := fun a w hr hs => hxy _ _ (h a w hr hs)

/-- What a panic must meet, off the exits' own post. -/
def exc (Q : Exit → Act → World → Prop) (K0 : Nat → Value → Prop) : List Deferred → List PanicEntry → World → Prop := fun ds ch w => ∀ a, a.defers = ds → (∀ t v, K0 t v → a.tmps[t]? = some v) → Q (.panic ch) a w
/-- What the region leaves as it was. -/
def keepS (S : St) (l : List Oper) : Nat → Value → Prop := fun t v => look S.env t = some v ∧ (l.all fun o => match o.dst with | some d => !(Nat.beq d t) | none => true) = true
theorem keepS_dst {S : St} {l : List Oper} : ∀ o ∈ l, ∀ t, o.dst = some t → ∀ v, ¬ keepS S l t v := fun o ho t hd v ⟨_, h⟩ => by
  have := List.all_eq_true.1 h o ho
  rw [hd] at this
  simp at this

def kindOf : Op → Nat
  | .load .. | .lookup .. => 1
  | .alloc _ | .box .. | .buildSlice .. | .makeMap .. | .makeSlice .. => 2
  | .call { callee := .builtin .len, .. } | .call { callee := .builtin .cap, .. } | .call { callee := .builtin .max, .. } | .call { callee := .builtin .min, .. } => 0
  | .store .. | .call _ | .mapUpdate .. | .mapEntry .. | .entryStore .. | .range .. | .next .. | .panic _ | .entry _ => 3
  | .defer _ => 5
  | _ => 0

def kindsL : Nat → List Oper → List (Nat × Nat × Oper)
  | _, [] => []
  | i, o :: l => (i, kindOf o.op, o) :: kindsL (i + 1) l

def withKinds : Nat → List Nat → List Oper → List (Nat × Nat × Oper)
  | i, k :: ks, o :: l => (i, k, o) :: withKinds (i + 1) ks l
  | _, _, _ => []

theorem run_list {n : Nat} {Q : Exit → Act → World → Prop} {K0 : Nat → Value → Prop} (hE : ∀ ds ch w, c.E ds ch w → ∀ a, a.defers = ds → (∀ t v, K0 t v → a.tmps[t]? = some v) → Q (.panic ch) a w) : ∀ (l : List (Nat × Nat × Oper)) (fs : Fs) (S : St) (a : Act) (w : World),
    (∀ o ∈ l.map (·.2.2), ∀ t, o.dst = some t → t < n ∧ ∀ v, ¬ K0 t v) → (∀ t v, K0 t v → a.tmps[t]? = some v) → Rep n S a → Sat c.w0 w S.L → Run c ops un (fun S' => At c n S' (Q .normal)) l fs S → wpListIn (FW c.r) 0 c.P ops Q (l.map (·.2.2)) a w
  | [], _, _, _, _, _, _, hr, hs, h => h _ _ hr hs
  | (i, k, o) :: l, fs, S, a, w, hn, hk0, hr, hs, h => by
    have hn0 : ∀ t, o.dst = some t → t < n := fun t ht => (hn o (by simp) t ht).1
    have hnl : ∀ o ∈ l.map (·.2.2), ∀ t, o.dst = some t → t < n ∧ ∀ v, ¬ K0 t v := fun o' ho' => hn o' (by simp at ho' ⊢; exact .inr ho')
    have hput : ∀ (b : Act), b.tmps = a.tmps → ∀ u t v, K0 t v → (b.put o.dst u).tmps[t]? = some v := fun b hb u t v hk => by
      cases hd : o.dst with
      | none => simp only [Act.put, hb]; exact hk0 t v hk
      | some d =>
        have hne : d ≠ t := fun e => (hn o (by simp) d hd).2 v (e ▸ hk)
        simp only [Act.put, Array.getElem?_setIfInBounds_ne hne, hb]
        exact hk0 t v hk
    by_cases hk : k ≤ 4
    · have h1 := Step.exec (n := n) (x := (i, k, o)) hk hn0 hr hs h
      dsimp only at h1
      show wpListIn (FW c.r) 0 c.P ops Q (o :: l.map (·.2.2)) a w
      unfold wpListIn
      split
      · rename_i hw
        rw [if_pos hw] at h1
        exact Run.any.wpIn_Q (fun e a' w ⟨ch, e1, e2, e3, h⟩ => by subst e1 e2; exact hE _ _ _ h _ e3 hk0) (Oper.wpIn_mono (fun a' w' ⟨⟨fs', S', h2, h3, h4⟩, u, e⟩ => by subst e; exact run_list hE l fs' S' _ w' hnl (hput a rfl u) h3 h4 h2) h1)
      · rename_i hw
        rw [if_neg hw] at h1
        obtain ⟨fs', S', h2, h3, h4⟩ := h1
        exact ⟨fun _ _ => trivial, run_list hE l fs' S' _ w hnl (hput a rfl _) h3 h4 h2⟩
    · obtain ⟨k', rfl⟩ : ∃ k', k = k' + 5 := ⟨k - 5, by omega⟩
      obtain ⟨hd, hsel, hw, d, hv, hro, h2⟩ := h.resolve_right (fun h => absurd h.1 (by dsimp only; omega))
      have ha := hr.agree hd
      show wpListIn (FW c.r) 0 c.P ops Q (o :: l.map (·.2.2)) a w
      unfold wpListIn
      have hwt := ha.wanted
      dsimp only at hd hsel hw hv hwt h2
      rw [hwt, hw, if_pos rfl]
      refine ⟨fun _ _ => trivial, ?_⟩
      have hv' := hv w
      rw [hro, Oper.semAt_none] at hv'
      show o.uponIn (FW c.r) 0 c.P a _ _ ((o.semAt c.r a.eval).run c.P w)
      rw [hro, Oper.semAt_none, ha.exec hsel, hv']
      have hX := run_list hE l fs _ _ w hnl (hput { a with defers := d :: a.defers } rfl undef) (Rep.put (S := { S with ds := d :: S.ds }) (a := { a with defers := d :: a.defers }) ⟨hr.size, by rw [← hr.ds], hr.val⟩ _ hn0 _) (by rw [St.put_Leq]; exact hs) h2
      rw [hro] at hX
      exact hX

theorem kindsL_map : ∀ (l : List Oper) (i : Nat), (kindsL i l).map (·.2.2) = l
  | [], _ => rfl
  | o :: l, i => by simp [kindsL, kindsL_map l]
theorem withKinds_map : ∀ (ks : List Nat) (l : List Oper) (i : Nat), ks.length = l.length → (withKinds i ks l).map (·.2.2) = l
  | [], [], _, _ => rfl
  | k :: ks, o :: l, i, h => by simp [withKinds, withKinds_map ks l (i + 1) (by simpa using h)]
  | [], _ :: _, _, h => by simp at h
  | _ :: _, [], _, h => by simp at h

def dstsB (n : Nat) (l : List Oper) : Bool := l.all fun o => match o.dst with | some t => Nat.blt t n | none => true
theorem dstsB_spec {n : Nat} {l : List Oper} (h : dstsB n l = true) : ∀ o ∈ l, ∀ t, o.dst = some t → t < n := fun o ho t ht => by
  have := List.all_eq_true.1 h o ho
  rw [ht] at this
  exact Nat.le_of_ble_eq_true this

/-- A region in its own order. -/
theorem At.reg {P : Program} {r : Option Nat} {w0 : World} {E : List Deferred → List PanicEntry → World → Prop} {s : Nat → Bool} {n id : Nat} {l : List Oper} {Q : Exit → Act → World → Prop} {S : St} (hn : dstsB n l = true)
    (h : Run ⟨P, r, w0, exc Q (keepS S l), fun _ => false⟩ l.toArray (fun _ _ => false) (fun S' => At ⟨P, r, w0, E, s⟩ n S' (Q .normal)) (kindsL 0 l) [] S) : At ⟨P, r, w0, E, s⟩ n S ((Code.region id l.toArray false).wpIn (FW r) 0 P Q) := fun a w hr hs => by
  refine wpIn_region_lit ?_
  have := run_list (c := ⟨P, r, w0, exc Q (keepS S l), fun _ => false⟩) (Q := Q) (K0 := keepS S l) (fun _ _ _ h => h) (kindsL 0 l) [] S a w (by rw [kindsL_map]; exact fun o ho t ht => ⟨dstsB_spec hn o ho t ht, keepS_dst o ho t ht⟩) (fun t v hk => hr.val t v hk.1) hr hs h
  rw [kindsL_map] at this
  exact this
/-- The same, the kinds named. -/
theorem At.regK {P : Program} {r : Option Nat} {w0 : World} {E : List Deferred → List PanicEntry → World → Prop} {s : Nat → Bool} {n id : Nat} {l : List Oper} {Q : Exit → Act → World → Prop} {S : St} (ks : List Nat) (hn : dstsB n l = true) (hk : ks.length = l.length)
    (h : Run ⟨P, r, w0, exc Q (keepS S l), fun _ => false⟩ l.toArray (fun _ _ => false) (fun S' => At ⟨P, r, w0, E, s⟩ n S' (Q .normal)) (withKinds 0 ks l) [] S) : At ⟨P, r, w0, E, s⟩ n S ((Code.region id l.toArray false).wpIn (FW r) 0 P Q) := fun a w hr hs => by
  refine wpIn_region_lit ?_
  have := run_list (c := ⟨P, r, w0, exc Q (keepS S l), fun _ => false⟩) (Q := Q) (K0 := keepS S l) (fun _ _ _ h => h) (withKinds 0 ks l) [] S a w (by rw [withKinds_map _ _ _ hk]; exact fun o ho t ht => ⟨dstsB_spec hn o ho t ht, keepS_dst o ho t ht⟩) (fun t v hk => hr.val t v hk.1) hr hs h
  rw [withKinds_map _ _ _ hk] at this
  exact this

/-- Does anything that comes later leave its order with i open? -/
def laterB (ms : List Nat) : List (Nat × Nat × Oper) → Nat → Bool
  | [], _ => false
  | x :: rest, i => bif Nat.beq x.1 i then rest.any (fun y => unord ms i y.1) else laterB ms rest i
theorem laterB_pair {ms : List Nat} : ∀ {l : List (Nat × Nat × Oper)}, (l.Pairwise fun x y => x.1 ≠ y.1) → l.Pairwise fun x y => unord ms x.1 y.1 = true → laterB ms l x.1 = true
  | [], _ => .nil
  | x :: rest, h => by
    obtain ⟨h1, h2⟩ := List.pairwise_cons.1 h
    have ih := laterB_pair (ms := ms) h2
    refine List.pairwise_cons.2 ⟨fun y hy hu => ?_, List.Pairwise.imp_of_mem (fun {z y} hz _ hzy hu => ?_) ih⟩
    · simp only [laterB, show Nat.beq x.1 x.1 = true from Nat.beq_refl _, cond_true]
      exact List.any_eq_true.2 ⟨y, hy, hu⟩
    · have hne : Nat.beq x.1 z.1 = false := by
        cases hb : Nat.beq x.1 z.1
        · rfl
        · exact absurd (Nat.eq_of_beq_eq_true hb) (h1 z hz)
      simp only [laterB, hne, cond_false]
      exact hzy hu
/-- A region that leaves its order open: walked in the order c0. -/
theorem At.draw {P : Program} {r : Option Nat} {w0 : World} {E : List Deferred → List PanicEntry → World → Prop} {s : Nat → Bool} {n id : Nat} {ops : Array Oper} {Q : Exit → Act → World → Prop} {S : St} (c0 : List (Nat × Nat)) (hm : P.follows .mixedOrders = true) (hB : drawB n ops c0 = true)
    (h : Run ⟨P, r, w0, exc Q (keepS S ops.toList), laterB (masks ops.toList []) (listed ops c0)⟩ ops (unord (masks ops.toList [])) (fun S' => At ⟨P, r, w0, E, s⟩ n S' (Q .normal)) (listed ops c0) [] S) : At ⟨P, r, w0, E, s⟩ n S ((Code.region id ops true).wpIn (FW r) 0 P Q) := fun a w hr hs => by
  simp only [drawB, formB, Bool.and_eq_true, decide_eq_true_eq, List.all_eq_true] at hB
  obtain ⟨⟨⟨⟨⟨⟨hlen, hcov⟩, hrng⟩, hdst⟩, hedge⟩, hcert⟩, hpairs⟩ := hB
  have hmem : ∀ x ∈ listed ops c0, ops[x.1]? = some x.2.2 ∧ x.2.1 ≤ 4 := fun x hx => by
    obtain ⟨⟨i, k⟩, hm, rfl⟩ := List.mem_map.1 hx
    have := hrng _ hm
    exact ⟨by simp [show i < ops.size from this.1], this.2⟩
  have hall : ∀ i, i < ops.size → ∃ k o, (i, k, o) ∈ listed ops c0 := fun i hi => by
    obtain ⟨⟨i', k⟩, hm, he⟩ := List.any_eq_true.1 (hcov i (List.mem_range.2 hi))
    obtain rfl : i' = i := by simpa using he
    exact ⟨k, _, List.mem_map.2 ⟨_, hm, rfl⟩⟩
  have hpw := pairsB_spec hpairs
  have hnd : (listed ops c0).Pairwise fun x y => x.1 ≠ y.1 := hpw.imp fun h => h.1
  have hlen' : (listed ops c0).length = ops.size := by simp [listed, hlen]
  refine wpIn_region_any hm ?_
  have := Run.any (c := ⟨P, r, w0, exc Q (keepS S ops.toList), laterB (masks ops.toList []) (listed ops c0)⟩) (K0 := keepS S ops.toList) (ops := ops) (n := n) (Q := Q) (K := fun S' => At ⟨P, r, w0, E, s⟩ n S' (Q .normal)) (ms := masks ops.toList []) (fun S S2 he h => h.ent he) (fun _ _ _ h => h) (fun o ho t ht => keepS_dst o (by simpa using ho) t ht)
    (fun S a w h hr hs => h a w hr hs) (fun o ho t ht => by
      have := Array.all_eq_true_iff_forall_mem.1 hdst o ho
      rw [ht] at this; simpa using this) hedge hcert (listed ops c0) (Array.replicate ops.size false) [] S a { w with drawn := w.drawn + 1 } ((List.Pairwise.and hpw (laterB_pair hnd)).imp fun h => ⟨fun hu => ⟨h.1.2.1 hu, h.2 hu⟩, h.1.2.2⟩)
    (fun x hx => ⟨(hmem x hx).1, (hmem x hx).2, by
      have : x.1 < ops.size := (Array.getElem?_eq_some_iff.1 (hmem x hx).1).1
      simp [this]⟩) (fun i hi _ => hall i hi) hnd (fun j oj _ hl => by
        rcases Nat.lt_or_ge j ops.size with h | h
        · simp [h] at hl
        · simp [h] at hl) (by simp) (fun t v hk => hr.val t v hk.1) hr (hs.drawn _) h
  rw [hlen'] at this
  exact this
end
end Go.Sx
