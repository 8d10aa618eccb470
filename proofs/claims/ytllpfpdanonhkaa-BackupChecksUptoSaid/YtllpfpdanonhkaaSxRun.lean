/- One walk through a region serves every order of evaluation that the region leaves open: operations told apart as calm, reading, new block, acting. No condition. -/
import Derived.Test.YtllpfpdanonhkaaSxBase
namespace Go.Sx
open Go.RowKit

/-- The wide fence, in a round or in none. -/
abbrev FW (r : Option Nat) : Fence := { fn := fun _ => True, depth := none, alive := false, round := r }

abbrev Env := List (Nat × Value)
def look : Env → Nat → Option Value
  | [], _ => none
  | (k, v) :: r, t => bif Nat.beq k t then some v else look r t

structure St where
  env : Env
  L : List HP
  ds : List Deferred := []

def St.put (S : St) (d : Option Tmp) (v : Value) : St :=
  match d with
  | some t => { S with env := (t, v) :: S.env }
  | none => S

structure Rep (n : Nat) (S : St) (a : Act) : Prop where
  size : a.tmps.size = n
  ds : a.defers = S.ds
  val : ∀ t v, look S.env t = some v → a.tmps[t]? = some v

def rho (env : Env) : Operand → Value
  | .tmp t => (look env t).getD undef
  | .const v => v
  | .global g => .pointer (some ⟨g, 0, none⟩)
  | .func f => .func (.func f) #[] #[]

def yieldE (ops : Array Oper) (env : Env) (j : Nat) : Option Bool :=
  match ((ops[j]?).bind (·.dst)).bind (look env) with
  | some (.bool b) => some b
  | _ => none

def defd (ops : Array Oper) (o : Oper) (env : Env) : Bool := (o.looksAt ops).all fun t => (look env t).isSome

def Agree (ops : Array Oper) (o : Oper) (env : Env) (a : Act) : Prop := ∀ t ∈ o.looksAt ops, a.tmps[t]? = look env t

theorem look_cons_ne {t d : Nat} {v : Value} {env : Env} (h : d ≠ t) : look ((d, v) :: env) t = look env t := by
  have : Nat.beq d t = false := by
    cases hb : Nat.beq d t
    · rfl
    · exact absurd (Nat.eq_of_beq_eq_true hb) h
  simp [look, this]
theorem look_cons_same {t : Nat} {v : Value} {env : Env} : look ((t, v) :: env) t = some v := by simp [look]

theorem Rep.agree {n : Nat} {S : St} {a : Act} {ops : Array Oper} {o : Oper} (hr : Rep n S a) (hd : defd ops o S.env = true) : Agree ops o S.env a := fun t ht => by
  have := List.all_eq_true.1 hd t ht
  obtain ⟨v, hv⟩ := Option.isSome_iff_exists.1 this
  rw [hv]; exact hr.val t v hv

theorem Rep.put {n : Nat} {S : St} {a : Act} (hr : Rep n S a) (d : Option Tmp) (hd : ∀ t, d = some t → t < n) (v : Value) : Rep n (S.put d v) (a.put d v) := by
  cases d with
  | none => exact hr
  | some t =>
    refine ⟨by simp [Act.put, hr.size], hr.ds, fun k u hk => ?_⟩
    by_cases e : t = k
    · subst e
      simp only [St.put] at hk
      rw [look_cons_same] at hk
      cases hk
      have := hd t rfl
      simp [Act.put, hr.size, this]
    · simp only [St.put] at hk
      rw [look_cons_ne e] at hk
      simp only [Act.put, Array.getElem?_setIfInBounds_ne e]
      exact hr.val k u hk

theorem Agree.eval {ops : Array Oper} {o : Oper} {env : Env} {a : Act} (h : Agree ops o env a) : ∀ x ∈ o.op.operands, a.eval x = rho env x := fun x hx => by
  cases x with
  | tmp t =>
    have := h t (List.mem_append_left _ (List.mem_filterMap.2 ⟨.tmp t, by simpa using hx, rfl⟩))
    simp [Act.eval, rho, this]
  | _ => rfl

theorem Agree.exec {ops : Array Oper} {o : Oper} {env : Env} {a : Act} (h : Agree ops o env a) (hs : ∀ cs b, o.op ≠ .select cs b) : execOp a.eval o = execOp (rho env) o := execOp_congr o hs h.eval

theorem Agree.wanted {ops : Array Oper} {o : Oper} {env : Env} {a : Act} (h : Agree ops o env a) : Region.wanted o (yielded ops a.tmps) = Region.wanted o (yieldE ops env) := by
  unfold Region.wanted
  cases hg : o.guard with
  | none => rfl
  | some gw =>
    obtain ⟨g, want⟩ := gw
    have : yielded ops a.tmps g = yieldE ops env g := by
      unfold yielded yieldE
      cases ht : (ops[g]?).bind (·.dst) with
      | none => rfl
      | some t =>
        have := h t (by simp [Oper.looksAt, hg, ht])
        simp only [Option.bind_some, this]
        cases look env t with
        | none => rfl
        | some v => cases v <;> rfl
    simp only [this]

/-- What stays fixed: the program, the round, the world at the start, what a panic must meet. -/
structure Cx where
  P : Program
  r : Option Nat
  w0 : World
  E : List Deferred → List PanicEntry → World → Prop
  strict : Nat → Bool

def Cx.Q (c : Cx) (a0 : Act) (ds : List Deferred) : Exit → Act → World → Prop := fun e a w => ∃ ch, e = .panic ch ∧ a = a0 ∧ a.defers = ds ∧ c.E ds ch w

/-- An operation that yields v in whatever world, or is passed over. -/
def calmE (c : Cx) (ops : Array Oper) (o : Oper) (env : Env) (v : Value) : Prop :=
  (Region.wanted o (yieldE ops env) = true ∧ ∀ w, (execOp (rho env) o).run c.P w = .ok (.value v) w) ∨ (Region.wanted o (yieldE ops env) = false ∧ v = undef)

def quietOp (o : Oper) : Prop := (∀ cs b, o.op ≠ .select cs b) ∧ ∀ d, o.op ≠ .defer d

abbrev Fs := List (Nat × (World → Prop))

/-- One operation, from state to state. Kinds: 0 calm, 1 reading, 2 a new block, 3 acting, 4 acting whatever else lies there, 5 a defer statement. 'un': who is not ordered with whom. -/
def Step1 (c : Cx) (ops : Array Oper) (un : Nat → Nat → Bool) (x : Nat × Nat × Oper) (fs : Fs) (S : St) (C : Fs → St → Prop) : Prop :=
  defd ops x.2.2 S.env = true ∧ (∀ cs b, x.2.2.op ≠ .select cs b) ∧
    match x.2.1 with
    | 0 => ∃ v, calmE c ops x.2.2 S.env v ∧ (∀ d, x.2.2.op ≠ .defer d) ∧ C fs (S.put x.2.2.dst v)
    | 1 => Region.wanted x.2.2 (yieldE ops S.env) = true ∧ (∀ d, x.2.2.op ≠ .defer d) ∧ ∃ v, (∀ w, Sat c.w0 w S.L → (execOp (rho S.env) x.2.2).run c.P w = .ok (.value v) w) ∧
        C ((x.1, fun w => (execOp (rho S.env) x.2.2).run c.P w = .ok (.value v) w) :: fs) (S.put x.2.2.dst v)
    | 2 => Region.wanted x.2.2 (yieldE ops S.env) = true ∧ (∀ d, x.2.2.op ≠ .defer d) ∧ ∃ (ob : Obj) (val : Nat → Value),
        (∀ w, (execOp (rho S.env) x.2.2).run c.P w = .ok (.value (val w.heap.size)) { w with heap := w.heap.push ob }) ∧
        ∀ g, C fs ({ S with L := blk g ob :: S.L }.put x.2.2.dst (val g))
    | 3 => Region.wanted x.2.2 (yieldE ops S.env) = true ∧ (∀ d, x.2.2.op ≠ .defer d) ∧ ∃ Φ : Value → List HP → Prop,
        (∀ a w, Agree ops x.2.2 S.env a → a.defers = S.ds → Sat c.w0 w S.L → x.2.2.wpIn (FW c.r) 0 c.P a w (fun a' w' => ∃ u L', a' = a.put x.2.2.dst u ∧ Φ u L' ∧ Sat c.w0 w' L') (c.Q a S.ds)) ∧
        (c.strict x.1 = true → ∃ u L', Φ u L') ∧
        (∀ y ∈ fs, un y.1 x.1 = true → ∀ u L', Φ u L' → ∀ w, Sat c.w0 w L' → y.2 w) ∧
        ∀ u L', Φ u L' → C fs ({ S with L := L' }.put x.2.2.dst u)
    | 4 => Region.wanted x.2.2 (yieldE ops S.env) = true ∧ (∀ d, x.2.2.op ≠ .defer d) ∧ ∃ Φ : Value → List HP → Prop,
        (∀ F a w, Agree ops x.2.2 S.env a → a.defers = S.ds → Sat c.w0 w (S.L ++ F) → x.2.2.wpIn (FW c.r) 0 c.P a w (fun a' w' => ∃ u L', a' = a.put x.2.2.dst u ∧ Φ u L' ∧ Sat c.w0 w' (L' ++ F)) (c.Q a S.ds)) ∧
        (c.strict x.1 = true → ∃ u L', Φ u L') ∧
        (∀ y ∈ fs, un y.1 x.1 = true → ∀ u L', Φ u L' → ∀ w, Sat c.w0 w L' → y.2 w) ∧
        ∀ u L', Φ u L' → C fs ({ S with L := L' }.put x.2.2.dst u)
    | _ => Region.wanted x.2.2 (yieldE ops S.env) = true ∧ ∃ d, (∀ w, (Oper.semAt c.r (rho S.env) x.2.2).run c.P w = .ok (.defer d) w) ∧ c.r = none ∧ C fs ({ S with ds := d :: S.ds }.put x.2.2.dst undef)

/-- The same, or it is passed over. -/
def Step (c : Cx) (ops : Array Oper) (un : Nat → Nat → Bool) (x : Nat × Nat × Oper) (fs : Fs) (S : St) (C : Fs → St → Prop) : Prop :=
  Step1 c ops un x fs S C ∨ (x.2.1 ≤ 4 ∧ Region.wanted x.2.2 (yieldE ops S.env) = false ∧ Step1 c ops un (x.1, 0, x.2.2) fs S C)

/-- A run of the operations named, in this order. -/
def Run (c : Cx) (ops : Array Oper) (un : Nat → Nat → Bool) (K : St → Prop) : List (Nat × Nat × Oper) → Fs → St → Prop
  | [], _, S => K S
  | x :: rest, fs, S => Step c ops un x fs S (Run c ops un K rest)

/-! ### A state that says more -/
structure Ent (S2 S : St) : Prop where
  env : ∀ t v, look S.env t = some v → look S2.env t = some v
  L : ∀ f, Star S2.L f → Star S.L f
  ds : S2.ds = S.ds

theorem Ent.refl (S : St) : Ent S S := ⟨fun _ _ h => h, fun _ h => h, rfl⟩
theorem Ent.put {S2 S : St} (h : Ent S2 S) (d : Option Tmp) (v : Value) : Ent (S2.put d v) (S.put d v) := by
  cases d with
  | none => exact h
  | some t =>
    refine ⟨fun k u hk => ?_, h.L, h.ds⟩
    simp only [St.put] at hk ⊢
    by_cases e : t = k
    · subst e; rw [look_cons_same] at hk ⊢; exact hk
    · rw [look_cons_ne e] at hk ⊢; exact h.env k u hk

section
variable {c : Cx} {ops : Array Oper} {un : Nat → Nat → Bool} {K : St → Prop}

theorem defd_ent {S2 S : St} (h : Ent S2 S) {o : Oper} (hd : defd ops o S.env = true) : defd ops o S2.env = true := by
  unfold defd at *
  refine List.all_eq_true.2 fun t ht => ?_
  obtain ⟨v, hv⟩ := Option.isSome_iff_exists.1 (List.all_eq_true.1 hd t ht)
  rw [h.env t v hv]; rfl
theorem look_ent {S2 S : St} (h : Ent S2 S) {o : Oper} (hd : defd ops o S.env = true) : ∀ t ∈ o.looksAt ops, look S2.env t = look S.env t := fun t ht => by
  obtain ⟨v, hv⟩ := Option.isSome_iff_exists.1 (List.all_eq_true.1 hd t ht)
  rw [hv]; exact h.env t v hv
theorem rho_of_look {env env2 : Env} {o : Oper} (h : ∀ t ∈ o.looksAt ops, look env2 t = look env t) (hs : ∀ cs b, o.op ≠ .select cs b) : execOp (rho env2) o = execOp (rho env) o :=
  execOp_congr o hs fun x hx => by
    cases x with
    | tmp t => simp [rho, h t (List.mem_append_left _ (List.mem_filterMap.2 ⟨.tmp t, by simpa using hx, rfl⟩))]
    | _ => rfl
theorem wanted_of_look {env env2 : Env} {o : Oper} (h : ∀ t ∈ o.looksAt ops, look env2 t = look env t) : Region.wanted o (yieldE ops env2) = Region.wanted o (yieldE ops env) := by
  unfold Region.wanted
  cases hg : o.guard with
  | none => rfl
  | some gw =>
    obtain ⟨g, want⟩ := gw
    have : yieldE ops env2 g = yieldE ops env g := by
      unfold yieldE
      cases ht : (ops[g]?).bind (·.dst) with
      | none => rfl
      | some t => simp [h t (by simp [Oper.looksAt, hg, ht])]
    simp only [this]
theorem Agree.of_look {env env2 : Env} {o : Oper} {a : Act} (h : ∀ t ∈ o.looksAt ops, look env2 t = look env t) (ha : Agree ops o env2 a) : Agree ops o env a := fun t ht => (ha t ht).trans (h t ht)
theorem semAt_of_look {env env2 : Env} {o : Oper} (h : ∀ t ∈ o.looksAt ops, look env2 t = look env t) (hs : ∀ cs b, o.op ≠ .select cs b) (hr : c.r = none) : Oper.semAt c.r (rho env2) o = Oper.semAt c.r (rho env) o := by
  rw [hr, Oper.semAt_none, Oper.semAt_none]; exact rho_of_look h hs

theorem defd_of_look {env env2 : Env} {o : Oper} (h : ∀ t ∈ o.looksAt ops, look env2 t = look env t) (hd : defd ops o env = true) : defd ops o env2 = true := by
  unfold defd at *
  exact List.all_eq_true.2 fun t ht => by rw [h t ht]; exact List.all_eq_true.1 hd t ht

theorem Sat.ent {w0 w : World} {L L2 : List HP} (h : ∀ f, Star L2 f → Star L f) (hs : Sat w0 w L2) : Sat w0 w L := hs.mono h

theorem Star.app_mono : ∀ {L2 L F : List HP}, (∀ f, Star L2 f → Star L f) → ∀ f, Star (L2 ++ F) f → Star (L ++ F) f := fun {L2 L F} h f hs => by
  have h1 : Star (pack L2 :: F) f := Star.repack (L1 := L2) hs
  exact Star.unpack (L1 := L) (Star.head_mono h h1)

/-- What follows is asked of the state alone, up to what says more. -/
def Closed (C : Fs → St → Prop) : Prop := ∀ fs fs2 S S2, Ent S2 S → (∀ x ∈ fs2, x ∈ fs) → C fs S → C fs2 S2

theorem Step1.ent {C : Fs → St → Prop} (hC : Closed C) {x : Nat × Nat × Oper} {fs fs2 : Fs} {S S2 : St} (he : Ent S2 S) (hf : ∀ y ∈ fs2, y ∈ fs) (h : Step1 c ops un x fs S C) : Step1 c ops un x fs2 S2 C := by
  obtain ⟨i, k, o⟩ := x
  obtain ⟨hd, hs, h⟩ := h
  have hl := look_ent he hd
  have hx := rho_of_look hl hs
  have hw := wanted_of_look (o := o) hl
  refine ⟨defd_ent he hd, hs, ?_⟩
  match k, h with
  | 0, ⟨v, hc, hnd, hr⟩ =>
    refine ⟨v, ?_, hnd, hC _ _ _ _ (he.put _ _) hf hr⟩
    unfold calmE at *
    rw [hw, hx]; exact hc
  | 1, ⟨h1, hnd, v, hv, hr⟩ =>
    refine ⟨by rw [hw]; exact h1, hnd, v, fun w hsat => by rw [hx]; exact hv w (hsat.ent he.L), hC _ _ _ _ (he.put _ _) ?_ hr⟩
    intro y hm
    rw [hx] at hm
    rcases List.mem_cons.1 hm with e | hm
    · subst e; exact List.mem_cons_self
    · exact List.mem_cons_of_mem _ (hf y hm)
  | 2, ⟨h1, hnd, ob, val, hv, hr⟩ =>
    exact ⟨by rw [hw]; exact h1, hnd, ob, val, fun w => by rw [hx]; exact hv w, fun g => hC _ _ _ _ (Ent.put (S2 := { S2 with L := blk g ob :: S2.L }) (S := { S with L := blk g ob :: S.L }) ⟨he.env, fun f => Star.cons_mono he.L, he.ds⟩ _ _) hf (hr g)⟩
  | 3, ⟨h1, hnd, Φ, hv, hin, hk, hr⟩ =>
    exact ⟨by rw [hw]; exact h1, hnd, Φ, fun a w ha hds hsat => by rw [he.ds]; exact hv a w (ha.of_look hl) (by rw [← he.ds]; exact hds) (hsat.ent he.L), hin, fun y hy => hk y (hf y hy),
      fun u L' hp => hC _ _ _ _ (Ent.put (S2 := { S2 with L := L' }) (S := { S with L := L' }) ⟨he.env, fun f h => h, he.ds⟩ _ _) hf (hr u L' hp)⟩
  | 4, ⟨h1, hnd, Φ, hv, hin, hk, hr⟩ =>
    exact ⟨by rw [hw]; exact h1, hnd, Φ, fun F a w ha hds hsat => by rw [he.ds]; exact hv F a w (ha.of_look hl) (by rw [← he.ds]; exact hds) (hsat.ent (Star.app_mono he.L)), hin, fun y hy => hk y (hf y hy),
      fun u L' hp => hC _ _ _ _ (Ent.put (S2 := { S2 with L := L' }) (S := { S with L := L' }) ⟨he.env, fun f h => h, he.ds⟩ _ _) hf (hr u L' hp)⟩
  | (k' + 5), ⟨h1, d, hv, hro, hr⟩ =>
    exact ⟨by rw [hw]; exact h1, d, fun w => by rw [semAt_of_look hl hs hro]; exact hv w, hro, hC _ _ _ _ (Ent.put (S2 := { S2 with ds := d :: S2.ds }) (S := { S with ds := d :: S.ds }) ⟨he.env, he.L, by rw [he.ds]⟩ _ _) hf hr⟩

theorem Step1.mono {C C' : Fs → St → Prop} (hC : ∀ fs S, C fs S → C' fs S) {x : Nat × Nat × Oper} {fs : Fs} {S : St} (h : Step1 c ops un x fs S C) : Step1 c ops un x fs S C' := by
  obtain ⟨i, k, o⟩ := x
  obtain ⟨hd, hs, h⟩ := h
  refine ⟨hd, hs, ?_⟩
  match k, h with
  | 0, ⟨v, hc, hnd, hr⟩ => exact ⟨v, hc, hnd, hC _ _ hr⟩
  | 1, ⟨h1, hnd, v, hv, hr⟩ => exact ⟨h1, hnd, v, hv, hC _ _ hr⟩
  | 2, ⟨h1, hnd, ob, val, hv, hr⟩ => exact ⟨h1, hnd, ob, val, hv, fun g => hC _ _ (hr g)⟩
  | 3, ⟨h1, hnd, Φ, hv, hin, hk, hr⟩ => exact ⟨h1, hnd, Φ, hv, hin, hk, fun u L' hp => hC _ _ (hr u L' hp)⟩
  | 4, ⟨h1, hnd, Φ, hv, hin, hk, hr⟩ => exact ⟨h1, hnd, Φ, hv, hin, hk, fun u L' hp => hC _ _ (hr u L' hp)⟩
  | (k' + 5), ⟨h1, d, hv, hro, hr⟩ => exact ⟨h1, d, hv, hro, hC _ _ hr⟩

theorem Step.ent {C : Fs → St → Prop} (hC : Closed C) {x : Nat × Nat × Oper} {fs fs2 : Fs} {S S2 : St} (he : Ent S2 S) (hf : ∀ y ∈ fs2, y ∈ fs) (h : Step c ops un x fs S C) : Step c ops un x fs2 S2 C := by
  rcases h with h | ⟨h1, h2, h3⟩
  · exact .inl (Step1.ent hC he hf h)
  · exact .inr ⟨h1, by rw [wanted_of_look (o := x.2.2) (look_ent he h3.1)]; exact h2, Step1.ent hC he hf h3⟩

theorem Step.mono {C C' : Fs → St → Prop} (hC : ∀ fs S, C fs S → C' fs S) {x : Nat × Nat × Oper} {fs : Fs} {S : St} (h : Step c ops un x fs S C) : Step c ops un x fs S C' :=
  h.imp (Step1.mono hC) fun ⟨h1, h2, h3⟩ => ⟨h1, h2, Step1.mono hC h3⟩

/-- What has turned of the state. -/
theorem Step1.shape {C : Fs → St → Prop} {x : Nat × Nat × Oper} {fs : Fs} {S : St} (h : Step1 c ops un x fs S C) : Step1 c ops un x fs S (fun fs' S' => C fs' S' ∧ ∀ t, x.2.2.dst ≠ some t → look S'.env t = look S.env t) := by
  obtain ⟨i, k, o⟩ := x
  have hl : ∀ (S' : St) (v : Value), S'.env = S.env → ∀ t, o.dst ≠ some t → look (S'.put o.dst v).env t = look S.env t := fun S' v e t ht => by
    cases hd : o.dst with
    | none => simp [St.put, e]
    | some d => simp only [St.put, e]; exact look_cons_ne fun e' => ht (by rw [hd, e'])
  obtain ⟨hd, hs, h⟩ := h
  refine ⟨hd, hs, ?_⟩
  match k, h with
  | 0, ⟨v, hc, hnd, hr⟩ => exact ⟨v, hc, hnd, hr, hl _ _ rfl⟩
  | 1, ⟨h1, hnd, v, hv, hr⟩ => exact ⟨h1, hnd, v, hv, hr, hl _ _ rfl⟩
  | 2, ⟨h1, hnd, ob, val, hv, hr⟩ => exact ⟨h1, hnd, ob, val, hv, fun g => ⟨hr g, hl _ _ rfl⟩⟩
  | 3, ⟨h1, hnd, Φ, hv, hin, hk, hr⟩ => exact ⟨h1, hnd, Φ, hv, hin, hk, fun u L' hp => ⟨hr u L' hp, hl _ _ rfl⟩⟩
  | 4, ⟨h1, hnd, Φ, hv, hin, hk, hr⟩ => exact ⟨h1, hnd, Φ, hv, hin, hk, fun u L' hp => ⟨hr u L' hp, hl _ _ rfl⟩⟩
  | (k' + 5), ⟨h1, d, hv, hro, hr⟩ => exact ⟨h1, d, hv, hro, hr, hl _ _ rfl⟩

theorem Run.closed (hK : ∀ S S2, Ent S2 S → K S → K S2) : ∀ l : List (Nat × Nat × Oper), Closed (Run c ops un K l)
  | [] => fun _ _ _ _ he _ h => hK _ _ he h
  | _ :: rest => fun _ _ _ _ he hf h => Step.ent (Run.closed hK rest) he hf h
end
end Go.Sx
