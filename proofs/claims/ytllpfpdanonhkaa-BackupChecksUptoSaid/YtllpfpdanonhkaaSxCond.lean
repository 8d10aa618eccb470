/- Tests: what a bool says; '&&' and '||' met whole. No condition. -/
import Derived.Test.YtllpfpdanonhkaaSxCode
namespace Go.Sx
open Go.RowKit

/-- What a bool says. -/
inductive BP : Bool → Prop → Prop
  | dec {p : Prop} [h : Decidable p] : BP (decide p) p
  | and {a b : Bool} {p q : Prop} (h : BP a p) (k : BP b q) : BP (a && b) (p ∧ q)
  | or {a b : Bool} {p q : Prop} (h : BP a p) (k : BP b q) : BP (a || b) (p ∨ q)
  | not {a : Bool} {p : Prop} (h : BP a p) : BP (!a) (¬ p)
  | var {a : Bool} : BP a (a = true)
theorem BP.iff {b : Bool} {p : Prop} (h : BP b p) : b = true ↔ p := by
  induction h with
  | dec => simp
  | and _ _ h k => simp [h, k]
  | or _ _ h k => simp [h, k]
  | not _ h => simp [← h]
  | var => simp

section
variable {c : Cx} {n : Nat} {S : St} {Q : Exit → Act → World → Prop}
theorem At.cnd' {x : Operand} {b : Bool} {p : Prop} {s t : Code} (hx : Sx.opd S.env x = some (.bool b) := by rfl) (hb : BP b p := by repeat (first | exact BP.dec | apply BP.and | apply BP.or | apply BP.not | exact BP.var))
    (ht : p → At c n S (s.wpIn (FW c.r) 0 c.P Q)) (hf : ¬ p → At c n S (t.wpIn (FW c.r) 0 c.P Q)) : At c n S ((Code.cond x s t).wpIn (FW c.r) 0 c.P Q) :=
  At.cond hx (fun e => ht (hb.iff.1 e)) (fun e => hf (fun hp => by rw [hb.iff.2 hp] at e; cases e))
end

section
variable {c : Cx} {ops : Array Oper} {un : Nat → Nat → Bool} {K : St → Prop}

def noActs (l : List (Nat × Nat × Oper)) : Bool := l.all fun x => Nat.blt x.2.1 3

theorem Run.anyfs (hK : ∀ S S2, Ent S2 S → K S → K S2) : ∀ (l : List (Nat × Nat × Oper)) (fs fs2 : Fs) (S : St), noActs l = true → Run c ops un K l fs S → Run c ops un K l fs2 S
  | [], _, _, _, _, h => h
  | (i, k, o) :: l, fs, fs2, S, hn, h => by
    simp only [noActs, List.all_cons, Bool.and_eq_true] at hn
    obtain ⟨hk, hl⟩ := hn
    rcases h with h | ⟨h1, h2, hd, hs, v, hc, hnd, hr⟩
    case inr => exact .inr ⟨h1, h2, hd, hs, v, hc, hnd, Run.anyfs hK l _ _ _ hl hr⟩
    obtain ⟨hd, hs, h⟩ := h
    refine .inl ⟨hd, hs, ?_⟩
    match k, hk, h with
    | 0, _, ⟨v, hc, hnd, hr⟩ => exact ⟨v, hc, hnd, Run.anyfs hK l _ _ _ hl hr⟩
    | 1, _, ⟨h1, hnd, v, hv, hr⟩ => exact ⟨h1, hnd, v, hv, Run.anyfs hK l _ _ _ hl hr⟩
    | 2, _, ⟨h1, hnd, ob, val, hv, hr⟩ => exact ⟨h1, hnd, ob, val, hv, fun g => Run.anyfs hK l _ _ _ hl (hr g)⟩

theorem Run.append : ∀ (l1 l2 : List (Nat × Nat × Oper)) (fs : Fs) (S : St) (K1 : St → Prop), (∀ fs' S', K1 S' → Run c ops un K l2 fs' S') → Run c ops un K1 l1 fs S → Run c ops un K (l1 ++ l2) fs S
  | [], _, fs, S, _, hk, h => hk fs S h
  | _ :: l1, l2, _, _, K1, hk, h => Step.mono (fun fs1 S1 h1 => Run.append l1 l2 fs1 S1 K1 hk h1) h

/-- Are these all passed over, the guard's operation having said otherwise? -/
def skB (ops : Array Oper) (j : Nat) (want : Bool) : List (Nat × Nat × Oper) → List Nat → List Nat → Bool
  | [], _, _ => true
  | (i, k, o) :: l, seen, dead => (match o.guard with | some (j', b) => (Nat.beq j' j && (b == want)) || dead.contains j' | none => false) && decide (k ≤ 4) &&
      (match (ops[i]?).bind (·.dst), o.dst with | some a, some b => Nat.beq a b | none, none => true | _, _ => false) &&
      (o.looksAt ops).all (fun t => seen.contains t) && (match o.op with | .select .. => false | .defer _ => false | _ => true) &&
      skB ops j want l ((match o.dst with | some t => [t] | none => []) ++ seen) (i :: dead)

def dom (env : Env) : List Nat := env.map (·.1)
theorem look_dom {env : Env} {t : Nat} (h : (dom env).contains t = true) : (look env t).isSome = true := by
  induction env with
  | nil => simp [dom] at h
  | cons p env ih =>
    obtain ⟨k, v⟩ := p
    by_cases e : k = t
    · subst e; rw [look_cons_same]; rfl
    · rw [look_cons_ne e]
      refine ih ?_
      simp [dom] at h ⊢
      rcases h with h | h
      · exact absurd h.symm e
      · exact h

/-- Passed over, one and all. -/
theorem Run.skips (l2 : List (Nat × Nat × Oper)) {j : Nat} {want : Bool} {K2 : Fs → St → Prop} (m : Nat) (hmj : (ops[j]?).bind (·.dst) = some m) :
    ∀ (l : List (Nat × Nat × Oper)) (fs : Fs) (S : St) (seen dead : List Nat), skB ops j want l seen dead = true → (∀ t ∈ seen, (look S.env t).isSome = true) → look S.env m = some (.bool !want) → (∀ i ∈ dead, yieldE ops S.env i = none) →
      (∀ x ∈ l, (ops[x.1]?).bind (·.dst) ≠ some m) → (∀ x ∈ l, x.2.1 ≤ 4) →
      (∀ fs' S', Ent { S' with ds := S.ds } S' → S'.L = S.L → S'.ds = S.ds → (∀ t v, look S.env t = some v → t ∉ (l.filterMap fun x => x.2.2.dst) → look S'.env t = some v) → (∀ t ∈ (l.filterMap fun x => x.2.2.dst), look S'.env t = some undef) → K2 fs' S') →
      Run c ops un (fun S' => ∀ fs', K2 fs' S') l fs S
  | [], fs, S, _, _, _, _, _, _, _, _, hk => fun fs' => hk fs' S (Ent.refl _) rfl rfl (fun _ _ h _ => h) (fun t ht => by simp at ht)
  | (i, k, o) :: l, fs, S, seen, dead, h, hseen, hm, hdead, hne, hk0, hk => by
    simp only [skB, Bool.and_eq_true] at h
    obtain ⟨⟨⟨⟨⟨hg, _⟩, hdst⟩, hlk⟩, hop⟩, hrest⟩ := h
    have hdef : defd ops o S.env = true := by
      unfold defd
      refine List.all_eq_true.2 fun t ht => hseen t ?_
      simpa using List.all_eq_true.1 hlk t ht
    have hw : Region.wanted o (yieldE ops S.env) = false := by
      unfold Region.wanted
      cases hgd : o.guard with
      | none => rw [hgd] at hg; cases hg
      | some gw =>
        obtain ⟨j', b⟩ := gw
        rw [hgd] at hg
        simp only [Bool.or_eq_true, Bool.and_eq_true, beq_iff_eq] at hg
        rcases hg with ⟨e1, e2⟩ | hg
        · have := Nat.eq_of_beq_eq_true e1
          subst this; subst e2
          have : yieldE ops S.env j' = some (!b) := by unfold yieldE; rw [hmj, Option.bind_some, hm]
          simp [this]
        · have := hdead j' (by simpa using hg)
          simp [this]
    have hsel : ∀ cs b, o.op ≠ .select cs b := fun cs b e => by rw [e] at hop; cases hop
    have hdef' : ∀ d, o.op ≠ .defer d := fun d e => by rw [e] at hop; cases hop
    have hodst : (ops[i]?).bind (·.dst) = o.dst := by
      revert hdst
      cases h1 : (ops[i]?).bind (·.dst) <;> cases h2 : o.dst <;> simp
    have hom : o.dst ≠ some m := fun e => hne _ List.mem_cons_self (by rw [hodst]; exact e)
    refine .inr ⟨hk0 _ List.mem_cons_self, hw, hdef, hsel, undef, .inr ⟨hw, rfl⟩, hdef', ?_⟩
    have hlook : ∀ t, o.dst ≠ some t → look (S.put o.dst undef).env t = look S.env t := fun t ht => by
      cases hd : o.dst with
      | none => rfl
      | some d => exact look_cons_ne fun e => ht (by rw [hd, e])
    refine Run.skips l2 m hmj l fs (S.put o.dst undef) _ _ hrest (fun t ht => ?_) ?_ (fun i' hi' => ?_) (fun x hx => hne x (List.mem_cons_of_mem _ hx)) (fun x hx => hk0 x (List.mem_cons_of_mem _ hx)) (fun fs' S' h1 h2 h3 h4 h5 => ?_)
    · by_cases hd : o.dst = some t
      · rw [hd]; simp [St.put, look_cons_same]
      · rw [hlook t hd]
        refine hseen t ?_
        rcases List.mem_append.1 ht with h | h
        · cases hod : o.dst with
          | none => rw [hod] at h; cases h
          | some d => rw [hod] at h hd; simp at h; exact absurd (by rw [h]) hd
        · exact h
    · rw [hlook m hom]; exact hm
    · unfold yieldE
      cases hb : (ops[i']?).bind (·.dst) with
      | none => rfl
      | some t =>
        simp only [Option.bind_some]
        by_cases hd : o.dst = some t
        · rw [hd]; simp [St.put, look_cons_same, undef]
        · rw [hlook t hd]
          rcases List.mem_cons.1 hi' with e | hi''
          · subst e; rw [hodst] at hb; exact absurd hb hd
          · have := hdead i' hi''
            unfold yieldE at this
            rw [hb] at this
            simpa using this
    · refine hk fs' S' ?_ (by rw [h2, St.put_Leq]) (by rw [h3, St.put_ds]) (fun t v hv hnt => ?_) (fun t ht => ?_)
      · rw [St.put_ds] at h1; exact h1
      · have hd : o.dst ≠ some t := fun e => hnt (List.mem_filterMap.2 ⟨_, List.mem_cons_self, e⟩)
        refine h4 t v (by rw [hlook t hd]; exact hv) fun hm' => hnt ?_
        obtain ⟨x, hx, e⟩ := List.mem_filterMap.1 hm'
        exact List.mem_filterMap.2 ⟨x, List.mem_cons_of_mem _ hx, e⟩
      · by_cases hin : t ∈ l.filterMap fun x => x.2.2.dst
        · exact h5 t hin
        · obtain ⟨x, hx, e⟩ := List.mem_filterMap.1 ht
          rcases List.mem_cons.1 hx with rfl | hx
          · exact h4 t undef (by dsimp only at e; rw [e]; simp [St.put, look_cons_same]) hin
          · exact absurd (List.mem_filterMap.2 ⟨x, hx, e⟩) hin

theorem Run.nofs (hun : ∀ i j, un i j = false) : ∀ (l : List (Nat × Nat × Oper)) (fs fs2 : Fs) (S : St), Run c ops un K l fs S → Run c ops un K l fs2 S
  | [], _, _, _, h => h
  | (i, k, o) :: l, fs, fs2, S, h => by
    rcases h with h | ⟨h1, h2, hd, hs, v, hc, hnd, hr⟩
    case inr => exact .inr ⟨h1, h2, hd, hs, v, hc, hnd, Run.nofs hun l _ _ _ hr⟩
    obtain ⟨hd, hs, h⟩ := h
    refine .inl ⟨hd, hs, ?_⟩
    match k, h with
    | 0, ⟨v, hc, hnd, hr⟩ => exact ⟨v, hc, hnd, Run.nofs hun l _ _ _ hr⟩
    | 1, ⟨h1, hnd, v, hv, hr⟩ => exact ⟨h1, hnd, v, hv, Run.nofs hun l _ _ _ hr⟩
    | 2, ⟨h1, hnd, ob, val, hv, hr⟩ => exact ⟨h1, hnd, ob, val, hv, fun g => Run.nofs hun l _ _ _ (hr g)⟩
    | 3, ⟨h1, hnd, Φ, hv, hin, _, hr⟩ => exact ⟨h1, hnd, Φ, hv, hin, fun y _ hu => (by rw [hun] at hu; cases hu), fun u L' hp => Run.nofs hun l _ _ _ (hr u L' hp)⟩
    | 4, ⟨h1, hnd, Φ, hv, hin, _, hr⟩ => exact ⟨h1, hnd, Φ, hv, hin, fun y _ hu => (by rw [hun] at hu; cases hu), fun u L' hp => Run.nofs hun l _ _ _ (hr u L' hp)⟩
    | (k' + 5), ⟨h1, d, hv, hro, hr⟩ => exact ⟨h1, d, hv, hro, Run.nofs hun l _ _ _ hr⟩

theorem Step.shape {C : Fs → St → Prop} {x : Nat × Nat × Oper} {fs : Fs} {S : St} (h : Step c ops un x fs S C) : Step c ops un x fs S (fun fs' S' => C fs' S' ∧ ∀ t, x.2.2.dst ≠ some t → look S'.env t = look S.env t) :=
  h.imp Step1.shape fun ⟨h1, h2, h3⟩ => ⟨h1, h2, Step1.shape h3⟩
theorem Run.post {K' : St → Prop} (h : ∀ S, K S → K' S) : ∀ (l : List (Nat × Nat × Oper)) (fs : Fs) (S : St), Run c ops un K l fs S → Run c ops un K' l fs S
  | [], _, _, hr => h _ hr
  | _ :: l, _, _, hr => Step.mono (fun fs1 S1 h1 => Run.post h l fs1 S1 h1) hr
theorem Run.shape : ∀ (l : List (Nat × Nat × Oper)) (fs : Fs) (S : St), Run c ops un K l fs S → Run c ops un (fun S' => K S' ∧ ∀ t, t ∉ (l.filterMap fun x => x.2.2.dst) → look S'.env t = look S.env t) l fs S
  | [], _, _, h => ⟨h, fun _ _ => rfl⟩
  | x :: l, fs, S, h => by
    refine Step.mono (fun fs1 S1 ⟨h1, h2⟩ => ?_) (Step.shape h)
    refine Run.post (fun S' ⟨h5, h6⟩ => ⟨h5, fun t ht => ?_⟩) l fs1 S1 (Run.shape l fs1 S1 h1)
    have hx : x.2.2.dst ≠ some t := fun e => ht (List.mem_filterMap.2 ⟨x, List.mem_cons_self, e⟩)
    have hl : t ∉ (l.filterMap fun x => x.2.2.dst) := fun hm => by
      obtain ⟨y, hy, e⟩ := List.mem_filterMap.1 hm
      exact ht (List.mem_filterMap.2 ⟨y, List.mem_cons_of_mem _ hy, e⟩)
    rw [h6 t hl, h2 t hx]

/-- How the second half of '&&' or '||' ends. -/
def ScEnd (t2 : Nat) (bq : Bool) (L : List HP) (ds : List Deferred) : St → Prop := fun S' => look S'.env t2 = some (.bool bq) ∧ (∀ f, Star S'.L f → Star L f) ∧ S'.ds = ds
theorem ScEnd.closed {t2 : Nat} {bq : Bool} {L : List HP} {ds : List Deferred} : ∀ S S2, Ent S2 S → ScEnd t2 bq L ds S → ScEnd t2 bq L ds S2 :=
  fun _ _ he ⟨h1, h2, h3⟩ => ⟨he.env _ _ h1, fun f hf => h2 f (he.L f hf), he.ds.trans h3⟩
theorem ScEnd.here {t2 : Nat} {bq : Bool} {L L' : List HP} {ds : List Deferred} {env : Env} (h : look env t2 = some (.bool bq) := by rfl) (hl : SubL L' L := by repeat (first | exact SubL.refl | refine SubL.cons (by repeat (first | exact Pick.here | apply Pick.there)) ?_ | refine SubL.skip ?_ | exact SubL.nil)) : ScEnd t2 bq L ds ⟨env, L', ds⟩ :=
  ⟨h, fun _ => hl.star, rfl⟩

/-- Do these write what the state has already, or the guard's own place? -/
def freshB (env : Env) (m : Nat) (G : List (Nat × Nat × Oper)) : Bool := G.all fun x => (match x.2.2.dst with | some t => !(dom env).contains t && !(Nat.beq t m) | none => true) && Nat.ble x.2.1 4
def neB (ops : Array Oper) (m : Nat) (G : List (Nat × Nat × Oper)) : Bool := G.all fun x => match (ops[x.1]?).bind (·.dst) with | some t => !(Nat.beq t m) | none => true

theorem Run.sc {want : Bool} {nG j m t2 d ip : Nat} {a b : Operand} {ty : TypeId} {pos : String} {af : Array Edge} {g : Option (Nat × Bool)} {bp bq : Bool} {l rest : List (Nat × Nat × Oper)} {fs : Fs} {env : Env} {L : List HP} {ds : List Deferred} {r : Bool}
    (hK : ∀ S S2, Ent S2 S → K S → K S2) (hun : (∀ i j, un i j = false) ∨ noActs rest = true)
    (hl : l.drop nG = (ip, 0, ⟨some d, .pick (.tmp m) a b, ty, pos, af, g⟩) :: rest) (hm : look env m = some (.bool bp)) (hmj : (ops[j]?).bind (·.dst) = some m)
    (hsk : skB ops j want (l.take nG) (dom env) [] = true) (hfr : freshB env m (l.take nG) = true) (hne : neB ops m (l.take nG) = true) (hg : gok ops env g = true)
    (ht : bp = want → Run c ops un (ScEnd t2 bq L ds) (l.take nG) fs ⟨(m, .bool want) :: env, L, ds⟩)
    (hab : (want = true ∧ a = .tmp t2 ∧ b = .const (.bool false) ∧ r = (bp && bq)) ∨ (want = false ∧ a = .const (.bool true) ∧ b = .tmp t2 ∧ r = (bp || bq))) (ht2 : (l.take nG).any (fun x => match x.2.2.dst with | some t => Nat.beq t t2 | none => false) = true)
    (hrest : Run c ops un K rest fs ⟨(d, .bool r) :: env, L, ds⟩) : Run c ops un K l fs ⟨env, L, ds⟩ := by
  have hrest' : ∀ fs' S', Ent S' ⟨(d, .bool r) :: env, L, ds⟩ → Run c ops un K rest fs' S' := fun fs' S' he => by
    have h1 := Run.closed hK rest fs fs _ S' he (fun _ h => h) hrest
    rcases hun with h | h
    · exact Run.nofs h rest _ _ _ h1
    · exact Run.anyfs hK rest _ _ _ h h1
  rw [← List.take_append_drop nG l, hl]
  have hdom : ∀ t v, look env t = some v → t ∉ ((l.take nG).filterMap fun x => x.2.2.dst) := fun t v hv hmem => by
    obtain ⟨x, hx, e⟩ := List.mem_filterMap.1 hmem
    have := List.all_eq_true.1 hfr x hx
    rw [e] at this
    simp only [Bool.and_eq_true, Bool.not_eq_true'] at this
    have h2 : (dom env).contains t = true := by
      have h3 : ∀ (env : Env), look env t = some v → (dom env).contains t = true := fun env => by
        induction env with
        | nil => intro h; cases h
        | cons p env ih =>
          obtain ⟨k, u⟩ := p
          intro h
          by_cases e : k = t
          · subst e; simp [dom]
          · rw [look_cons_ne e] at h
            have := ih h
            simp [dom] at this ⊢
            exact .inr this
      exact h3 env hv
    rw [h2] at this
    simp at this
  have hmG : m ∉ ((l.take nG).filterMap fun x => x.2.2.dst) := hdom m _ hm
  -- the pick, once its two sides are known
  have fin : ∀ (fs' : Fs) (S' : St) (bb : Bool), look S'.env m = some (.bool bb) → (bb = want → look S'.env t2 = some (.bool bq)) → bb = bp → (look S'.env t2).isSome = true → (∀ t v, look env t = some v → look S'.env t = some v) → (∀ f, Star S'.L f → Star L f) → S'.ds = ds →
      Run c ops un K ((ip, 0, ⟨some d, .pick (.tmp m) a b, ty, pos, af, g⟩) :: rest) fs' S' := fun fs' S' bb h1 h2 h3 h4 h5 h6 h7 => by
    have hgk : gok ops S'.env g = true := by
      cases g with
      | none => rfl
      | some gw =>
        obtain ⟨gi, gb⟩ := gw
        unfold gok at hg ⊢
        dsimp only at hg ⊢
        have : ∀ b', yieldE ops env gi = some b' → yieldE ops S'.env gi = some b' := fun b' hb => by
          unfold yieldE at hb ⊢
          cases hd : (ops[gi]?).bind (·.dst) with
          | none => rw [hd] at hb; cases hb
          | some u =>
            rw [hd] at hb
            simp only [Option.bind_some] at hb ⊢
            cases hlk : look env u with
            | none => rw [hlk] at hb; cases hb
            | some v => rw [h5 u v hlk]; rw [hlk] at hb; exact hb
        cases hy : yieldE ops env gi with
        | none => rw [hy] at hg; cases hg
        | some b' => rw [hy] at hg; rw [this b' hy]; exact hg
    have hsome : ∀ x ∈ [Operand.tmp m, a, b], (opd S'.env x).isSome = true := fun x hx => by
      rcases hab with ⟨_, rfl, rfl, _⟩ | ⟨_, rfl, rfl, _⟩ <;> simp at hx <;> rcases hx with rfl | rfl | rfl <;> simp [opd, h1, h4]
    have hrm : rho S'.env (.tmp m) = .bool bb := rho_of h1
    have hval : (if bb = true then rho S'.env a else rho S'.env b) = .bool r := by
      rcases hab with ⟨rfl, rfl, rfl, rfl⟩ | ⟨rfl, rfl, rfl, rfl⟩
      · cases bb with
        | true => rw [if_pos rfl, rho_of (x := .tmp t2) (h2 rfl), ← h3]; simp
        | false => rw [if_neg (by simp), ← h3]; simp [rho]
      · cases bb with
        | true => rw [if_pos rfl, ← h3]; simp [rho]
        | false => rw [if_neg (by simp), rho_of (x := .tmp t2) (h2 rfl), ← h3]; simp
    obtain ⟨env', L', ds'⟩ := S'
    refine Run.calm (v := .bool r) (by simpa [Op.operands] using hsome) (by simp) (by simp) hgk (fun w => ?_) (hrest' _ _ ⟨fun t v hv => ?_, h6, h7⟩)
    · simp only [execOp, hrm, asBool]
      simp [hval]
    · by_cases e : d = t
      · subst e; rw [look_cons_same] at hv; simp only [St.put, look_cons_same]; exact hv
      · rw [look_cons_ne e] at hv; simp only [St.put]; rw [look_cons_ne e]; exact h5 t v hv
  by_cases hbp : bp = want
  · -- the second half is run
    have e0 : Ent (⟨env, L, ds⟩ : St) ⟨(m, .bool want) :: env, L, ds⟩ := ⟨fun t v hv => (by
      by_cases e : m = t
      · subst e; rw [look_cons_same] at hv; rw [← hbp] at hv; rw [hm]; exact hv
      · rw [look_cons_ne e] at hv; exact hv), fun _ h => h, rfl⟩
    have h2 := Run.shape _ _ _ (Run.closed ScEnd.closed _ _ fs _ _ e0 (fun _ h => h) (ht hbp))
    refine Run.append _ _ _ _ _ (fun fs' S' ⟨⟨h3, h4, h5⟩, h6⟩ => ?_) h2
    exact fin fs' S' bp (by rw [h6 m hmG]; exact hm) (fun _ => h3) rfl (by rw [h3]; rfl) (fun t v hv => by rw [h6 t (hdom t v hv)]; exact hv) h4 h5
  · -- it is passed over
    have hnot : look env m = some (.bool !want) := by rw [hm]; cases bp <;> cases want <;> simp at hbp ⊢
    have h1 := Run.skips (c := c) (ops := ops) (un := un) (j := j) (want := want) (K2 := fun fs' S' => Run c ops un K ((ip, 0, ⟨some d, .pick (.tmp m) a b, ty, pos, af, g⟩) :: rest) fs' S') [] m hmj (l.take nG) fs ⟨env, L, ds⟩ (dom env) [] hsk
      (fun t ht => look_dom (by simpa using ht)) hnot (fun _ h => by cases h) (fun x hx e => by
        have := List.all_eq_true.1 hne x hx
        rw [e] at this
        simp at this) (fun x hx => by
        have := List.all_eq_true.1 hfr x hx
        simp only [Bool.and_eq_true] at this
        exact Nat.le_of_ble_eq_true this.2) (fun fs' S' _ h2 h3 h4 h5 => by
        refine fin fs' S' (!want) (h4 m _ hnot hmG) (fun e => by cases want <;> cases e) (by cases bp <;> cases want <;> simp at hbp ⊢) ?_ (fun t v hv => h4 t v hv (hdom t v hv)) (fun f hf => by rw [h2] at hf; exact hf) h3
        have : t2 ∈ ((l.take nG).filterMap fun x => x.2.2.dst) := by
          obtain ⟨x, hx, e⟩ := List.any_eq_true.1 ht2
          refine List.mem_filterMap.2 ⟨x, hx, ?_⟩
          cases hd : x.2.2.dst with
          | none => rw [hd] at e; cases e
          | some t => rw [hd] at e; rw [Nat.eq_of_beq_eq_true e]
        rw [h5 t2 this]; rfl)
    exact Run.append _ _ _ _ _ (fun fs' S' h2 => h2 fs') h1

/-- Parted on a bool. -/
theorem Run.spl {t : Nat} {b : Bool} {p : Prop} {l : List (Nat × Nat × Oper)} {fs : Fs} {env : Env} {L : List HP} {ds : List Deferred} (hK : ∀ S S2, Ent S2 S → K S → K S2 := by first | exact fun _ _ he h => At.ent he h | exact ScEnd.closed)
    (hx : look env t = some (.bool b) := by rfl) (hb : BP b p := by repeat (first | exact BP.dec | apply BP.and | apply BP.or | apply BP.not | exact BP.var))
    (ht : p → Run c ops un K l fs ⟨(t, .bool true) :: env, L, ds⟩) (hf : ¬ p → Run c ops un K l fs ⟨(t, .bool false) :: env, L, ds⟩) : Run c ops un K l fs ⟨env, L, ds⟩ := by
  have key : ∀ bb, b = bb → Ent (⟨env, L, ds⟩ : St) ⟨(t, .bool bb) :: env, L, ds⟩ := fun bb e0 => ⟨fun k v hk => (by
    by_cases e : t = k
    · subst e; rw [look_cons_same] at hk; rw [← e0] at hk; rw [hx]; exact hk
    · rw [look_cons_ne e] at hk; exact hk), fun _ h => h, rfl⟩
  cases hbb : b with
  | true => exact Run.closed hK l fs fs _ _ (key true hbb) (fun _ h => h) (ht (hb.iff.1 hbb))
  | false => exact Run.closed hK l fs fs _ _ (key false hbb) (fun _ h => h) (hf fun hp => by rw [hb.iff.2 hp] at hbb; cases hbb)

theorem Run.andB (nG j : Nat) {m t2 d ip : Nat} {ty : TypeId} {pos : String} {af : Array Edge} {g : Option (Nat × Bool)} {bp bq : Bool} {p : Prop} {l rest : List (Nat × Nat × Oper)} {fs : Fs} {env : Env} {L : List HP} {ds : List Deferred}
    (hl : l.drop nG = (ip, 0, ⟨some d, .pick (.tmp m) (.tmp t2) (.const (.bool false)), ty, pos, af, g⟩) :: rest := by rfl) (hm : look env m = some (.bool bp) := by rfl) (hmj : (ops[j]?).bind (·.dst) = some m := by rfl) (hb : BP bp p := by repeat (first | exact BP.dec | apply BP.and | apply BP.or | apply BP.not | exact BP.var))
    (hsk : (skB ops j true (l.take nG) (dom env) [] && freshB env m (l.take nG) && neB ops m (l.take nG) && (l.take nG).any (fun x => match x.2.2.dst with | some t => Nat.beq t t2 | none => false) && gok ops env g) = true := by rfl)
    (hK : ∀ S S2, Ent S2 S → K S → K S2 := by first | exact fun _ _ he h => At.ent he h | exact ScEnd.closed) (hun : (∀ i j, un i j = false) ∨ noActs rest = true := by first | exact .inl fun _ _ => rfl | exact .inr rfl)
    (ht : p → Run c ops un (ScEnd t2 bq L ds) (l.take nG) fs ⟨(m, .bool true) :: env, L, ds⟩) (hrest : Run c ops un K rest fs ⟨(d, .bool (bp && bq)) :: env, L, ds⟩) : Run c ops un K l fs ⟨env, L, ds⟩ := by
  simp only [Bool.and_eq_true] at hsk
  obtain ⟨⟨⟨⟨h1, h2⟩, h3⟩, h5⟩, h6⟩ := hsk
  exact Run.sc (want := true) hK hun hl hm hmj h1 h2 h3 h6 (fun e => ht (hb.iff.1 e)) (.inl ⟨rfl, rfl, rfl, rfl⟩) h5 hrest
theorem Run.orB (nG j : Nat) {m t2 d ip : Nat} {ty : TypeId} {pos : String} {af : Array Edge} {g : Option (Nat × Bool)} {bp bq : Bool} {p : Prop} {l rest : List (Nat × Nat × Oper)} {fs : Fs} {env : Env} {L : List HP} {ds : List Deferred}
    (hl : l.drop nG = (ip, 0, ⟨some d, .pick (.tmp m) (.const (.bool true)) (.tmp t2), ty, pos, af, g⟩) :: rest := by rfl) (hm : look env m = some (.bool bp) := by rfl) (hmj : (ops[j]?).bind (·.dst) = some m := by rfl) (hb : BP bp p := by repeat (first | exact BP.dec | apply BP.and | apply BP.or | apply BP.not | exact BP.var))
    (hsk : (skB ops j false (l.take nG) (dom env) [] && freshB env m (l.take nG) && neB ops m (l.take nG) && (l.take nG).any (fun x => match x.2.2.dst with | some t => Nat.beq t t2 | none => false) && gok ops env g) = true := by rfl)
    (hK : ∀ S S2, Ent S2 S → K S → K S2 := by first | exact fun _ _ he h => At.ent he h | exact ScEnd.closed) (hun : (∀ i j, un i j = false) ∨ noActs rest = true := by first | exact .inl fun _ _ => rfl | exact .inr rfl)
    (ht : ¬ p → Run c ops un (ScEnd t2 bq L ds) (l.take nG) fs ⟨(m, .bool false) :: env, L, ds⟩) (hrest : Run c ops un K rest fs ⟨(d, .bool (bp || bq)) :: env, L, ds⟩) : Run c ops un K l fs ⟨env, L, ds⟩ := by
  simp only [Bool.and_eq_true] at hsk
  obtain ⟨⟨⟨⟨h1, h2⟩, h3⟩, h5⟩, h6⟩ := hsk
  exact Run.sc (want := false) hK hun hl hm hmj h1 h2 h3 h6 (fun e => ht fun hp => by rw [hb.iff.2 hp] at e; cases e) (.inr ⟨rfl, rfl, rfl, rfl⟩) h5 hrest

/-- The run's end. -/
theorem Run.fin {c' : Cx} {n : Nat} {X : Act → World → Prop} {fs : Fs} {S : St} (h : At c' n S X) : Run c ops un (fun S' => At c' n S' X) [] fs S := h
theorem Run.fin_sc {t2 : Nat} {bq : Bool} {L : List HP} {ds : List Deferred} {fs : Fs} {S : St} (h : ScEnd t2 bq L ds S) : Run c ops un (ScEnd t2 bq L ds) [] fs S := h
end
end Go.Sx
