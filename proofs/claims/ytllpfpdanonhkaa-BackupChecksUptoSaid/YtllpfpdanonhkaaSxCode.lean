/- The rules of statements, of calls, of a function's beginning and end. No condition. -/
import Derived.Test.YtllpfpdanonhkaaSxMem
import Derived.DefersIn
namespace Go.Sx
open Go.RowKit

/-! ### A state that says more, piece by piece -/
inductive SubE : Env → Env → Prop
  | nil {big : Env} : SubE [] big
  | cons {t : Nat} {v : Value} {r big : Env} (h : look big t = some v) (k : SubE r big) : SubE ((t, v) :: r) big
theorem SubE.look {r big : Env} (h : SubE r big) : ∀ t v, look r t = some v → Sx.look big t = some v := by
  induction h with
  | nil => intro t v hv; cases hv
  | @cons t v r big h _ ih =>
    intro k u hk
    by_cases e : t = k
    · subst e; rw [look_cons_same] at hk; cases hk; exact h
    · rw [look_cons_ne e] at hk; exact ih k u hk

inductive SubL : List HP → List HP → Prop
  | refl {L : List HP} : SubL L L
  | nil {L : List HP} : SubL L []
  | cons {L F L' : List HP} {c : HP} (h : Pick L c F) (k : SubL F L') : SubL L (c :: L')
  | skip {F L' : List HP} {d : HP} (k : SubL F L') : SubL (d :: F) L'
theorem SubL.star {L L' : List HP} (h : SubL L L') : ∀ {f : Frag}, Star L f → Star L' f := by
  induction h with
  | refl => exact fun h => h
  | nil => exact fun _ => trivial
  | cons h _ ih => exact fun hs => Star.cons_mono (fun _ => ih) (h.star hs)
  | skip _ ih => exact fun hs => ih hs.tail

theorem Ent.of {S2 S : St} (he : SubE S.env S2.env) (hl : SubL S2.L S.L) (hd : S2.ds = S.ds := by rfl) : Ent S2 S := ⟨he.look, fun _ => hl.star, hd⟩

section
variable {c : Cx} {n : Nat} {S : St} {Q : Exit → Act → World → Prop} {X : Act → World → Prop}

theorem At.skip (h : At c n S (Q .normal)) : At c n S (Code.skip.wpIn (FW c.r) 0 c.P Q) := fun a w hr hs => wpIn_skip (h a w hr hs)
theorem At.seq {x y : Code} (h : At c n S (x.wpIn (FW c.r) 0 c.P (Exit.then (y.wpIn (FW c.r) 0 c.P Q) Q))) : At c n S ((Code.seq x y).wpIn (FW c.r) 0 c.P Q) := fun a w hr hs => wpIn_seq (h a w hr hs)
theorem At.block {id : Nat} {x : Code} (h : At c n S (x.wpIn (FW c.r) 0 c.P (Exit.inBlock id Q))) : At c n S ((Code.block id x).wpIn (FW c.r) 0 c.P Q) := fun a w hr hs => wpIn_block (h a w hr hs)
theorem At.exit {id : Nat} (h : At c n S (Q (.exit id))) : At c n S ((Code.exit id).wpIn (FW c.r) 0 c.P Q) := fun a w hr hs => wpIn_exit (h a w hr hs)
theorem At.ret (h : At c n S (Q .ret)) : At c n S (Code.ret.wpIn (FW c.r) 0 c.P Q) := fun a w hr hs => wpIn_ret (h a w hr hs)
theorem At.inb_hit {id : Nat} (h : At c n S (Q .normal)) : At c n S (Exit.inBlock id Q (.exit id)) := fun a w hr hs => by simp only [Exit.inBlock, if_true]; exact h a w hr hs
theorem At.inb_miss {id id' : Nat} (hne : id' ≠ id) (h : At c n S (Q (.exit id'))) : At c n S (Exit.inBlock id Q (.exit id')) := fun a w hr hs => by simp only [Exit.inBlock, hne, if_false]; exact h a w hr hs
theorem At.then_ret {Kx : Act → World → Prop} (h : At c n S (Q .ret)) : At c n S (Exit.then Kx Q .ret) := h
theorem At.inb_ret {id : Nat} (h : At c n S (Q .ret)) : At c n S (Exit.inBlock id Q .ret) := h
theorem At.inb_norm {id : Nat} (h : At c n S (Q .normal)) : At c n S (Exit.inBlock id Q .normal) := h
theorem At.then_exit {id : Nat} {Kx : Act → World → Prop} (h : At c n S (Q (.exit id))) : At c n S (Exit.then Kx Q (.exit id)) := h

theorem Rep.opd {a : Act} (hr : Rep n S a) {x : Operand} {v : Value} (h : opd S.env x = some v) : a.eval x = v := by
  cases x with
  | tmp t => have := hr.val t v h; simp [Act.eval, this]
  | const u => simpa [Act.eval, Sx.opd] using h
  | global g => simpa [Act.eval, Sx.opd] using h
  | func f => simpa [Act.eval, Sx.opd] using h

theorem At.cond {x : Operand} {b : Bool} {p q : Code} (hx : Sx.opd S.env x = some (.bool b) := by rfl) (ht : b = true → At c n S (p.wpIn (FW c.r) 0 c.P Q)) (hf : b = false → At c n S (q.wpIn (FW c.r) 0 c.P Q)) :
    At c n S ((Code.cond x p q).wpIn (FW c.r) 0 c.P Q) := fun a w hr hs => wpIn_cond_split (hr.opd hx) (fun e => ht e a w hr hs) (fun e => hf e a w hr hs)
theorem At.cnd {x : Operand} {r : Prop} [Decidable r] {p q : Code} (hx : Sx.opd S.env x = some (.bool (decide r)) := by rfl) (ht : r → At c n S (p.wpIn (FW c.r) 0 c.P Q)) (hf : ¬ r → At c n S (q.wpIn (FW c.r) 0 c.P Q)) :
    At c n S ((Code.cond x p q).wpIn (FW c.r) 0 c.P Q) := At.cond hx (fun e => ht (of_decide_eq_true e)) (fun e => hf (of_decide_eq_false e))
theorem At.condT {x : Operand} {p q : Code} (hx : Sx.opd S.env x = some (.bool true) := by rfl) (ht : At c n S (p.wpIn (FW c.r) 0 c.P Q)) : At c n S ((Code.cond x p q).wpIn (FW c.r) 0 c.P Q) :=
  fun a w hr hs => wpIn_cond_true (hr.opd hx) (ht a w hr hs)
theorem At.condF {x : Operand} {p q : Code} (hx : Sx.opd S.env x = some (.bool false) := by rfl) (hf : At c n S (q.wpIn (FW c.r) 0 c.P Q)) : At c n S ((Code.cond x p q).wpIn (FW c.r) 0 c.P Q) :=
  fun a w hr hs => wpIn_cond_false (hr.opd hx) (hf a w hr hs)

/-- What the chunks give at once. -/
theorem At.fact {p : Prop} (hp : ∀ w, Sat c.w0 w S.L → p) (h : p → At c n S X) : At c n S X := fun a w hr hs => h (hp w hs) a w hr hs
/-- The chunks, said otherwise. -/
theorem At.chunks {L' : List HP} (hl : ∀ f, Star S.L f → Star L' f) (h : At c n { S with L := L' } X) : At c n S X := fun a w hr hs => h a w ⟨hr.size, hr.ds, hr.val⟩ (hs.mono hl)
/-- One of several. -/
theorem At.sm {α : Sort _} {L' : α → List HP} (hl : ∀ f, Star S.L f → ∃ x, Star (L' x) f) (h : ∀ x, At c n { S with L := L' x } X) : At c n S X := fun a w hr hs =>
  let ⟨x, hx⟩ := hl _ hs.star
  h x a w ⟨hr.size, hr.ds, hr.val⟩ ⟨hs.bel, hx⟩

/-- A loop, its rounds told by a ghost. -/
theorem At.loop {α : Type} {body : Code} (I : α → St) (φ : α → Prop) (μ : α → Nat) (x0 : α) (h0 : φ x0) (he : Ent S (I x0))
    (hbody : ∀ x, φ x → At c n (I x) (body.wpIn (FW c.r) 0 c.P (Exit.then (fun a w => ∃ y, φ y ∧ μ y < μ x ∧ Rep n (I y) a ∧ Sat c.w0 w (I y).L) Q))) : At c n S ((Code.loop body).wpIn (FW c.r) 0 c.P Q) := by
  intro a w hr hs b k cs hro hb hroom
  have key : ∀ j x a w, μ x = j → φ x → Rep n (I x) a → Sat c.w0 w (I x).L →
      ∃ e a' w', Q e a' w' ∧ ArrivesIn (Machine.fenced c.P (FW c.r)) c.P (lone (b.atR a (.code body :: .inLoop body :: k)) cs w) b k cs e a' w' := by
    intro j
    induction j using Nat.strongRecOn with
    | _ j ih =>
      intro x a w hn hx hr hs
      obtain ⟨e, a₁, w₁, hq, harr⟩ := hbody x hx a w hr hs b (.inLoop body :: k) cs hro hb hroom
      cases e with
      | normal =>
        obtain ⟨y, hy, hlt, hr1, hs1⟩ := hq
        obtain ⟨e₂, a₂, w₂, hq₂, harr₂⟩ := ih (μ y) (hn ▸ hlt) y a₁ w₁ rfl hy hr1 hs1
        exact ⟨e₂, a₂, w₂, hq₂, .of_steps (StepsIn.trans harr (.one (fenced_calm hb hroom rfl) stepR_inLoop)) harr₂⟩
      | exit id => exact ⟨_, a₁, w₁, hq, .pass (x := .inLoop body) rfl (fun _ _ => .inl (by simp)) harr⟩
      | goto l => exact ⟨_, a₁, w₁, hq, .pass (x := .inLoop body) rfl (fun _ _ => .inl (by simp)) harr⟩
      | ret => exact ⟨_, a₁, w₁, hq, .pass (x := .inLoop body) rfl (fun _ _ => .inl (by simp)) harr⟩
      | panic ch => exact ⟨_, a₁, w₁, hq, .pass (x := .inLoop body) rfl (fun _ _ => .inl (by simp)) harr⟩
      | outgrown => exact ⟨_, a₁, w₁, hq, .pass (x := .inLoop body) rfl (fun _ _ => .inl (by simp)) harr⟩
  have hr0 : Rep n (I x0) a := ⟨hr.size, hr.ds.trans he.ds, fun t v hv => hr.val t v (he.env t v hv)⟩
  obtain ⟨e, a', w', hq, harr⟩ := key _ x0 a w rfl h0 hr0 (hs.ent he.L)
  exact ⟨e, a', w', hq, .of_steps (.one (fenced_calm hb hroom rfl) stepR_loop) harr⟩

/-- A round's end. -/
theorem At.again {α : Type} {I : α → St} {φ : α → Prop} {μ : α → Nat} {m : Nat} (y : α) (hy : φ y) (hm : μ y < m) (he : SubE (I y).env S.env := by repeat (first | exact SubE.nil | refine SubE.cons rfl ?_)) (hl : SubL S.L (I y).L := by repeat (first | exact SubL.refl | refine SubL.cons (by repeat (first | exact Pick.here | apply Pick.there)) ?_ | refine SubL.skip ?_ | exact SubL.nil)) (hd : S.ds = (I y).ds := by rfl) :
    At c n S (fun a w => ∃ y, φ y ∧ μ y < m ∧ Rep n (I y) a ∧ Sat c.w0 w (I y).L) := fun _ _ hr hs =>
  ⟨y, hy, hm, ⟨hr.size, hr.ds.trans hd, fun t v hv => hr.val t v (he.look t v hv)⟩, hs.ent fun _ => hl.star⟩

/-- A cut: what goes on is walked once, for whatever meets φ. -/
theorem At.cut {α : Type} {x : Code} {K : Act → World → Prop} (I : α → St) (φ : α → Prop) (h : At c n S (x.wpIn (FW c.r) 0 c.P (Exit.then (fun a w => ∃ y, φ y ∧ Rep n (I y) a ∧ Sat c.w0 w (I y).L) Q))) (k : ∀ y, φ y → At c n (I y) K) :
    At c n S (x.wpIn (FW c.r) 0 c.P (Exit.then K Q)) := fun a w hr hs => wpIn_mono (h a w hr hs) fun e _ _ hq => by
  cases e with
  | normal => obtain ⟨y, hy, hr', hs'⟩ := hq; exact k y hy _ _ hr' hs'
  | _ => exact hq
theorem At.join {α : Type} {I : α → St} {φ : α → Prop} (y : α) (hy : φ y) (he : SubE (I y).env S.env := by repeat (first | exact SubE.nil | refine SubE.cons rfl ?_)) (hl : SubL S.L (I y).L := by repeat (first | exact SubL.refl | refine SubL.cons (by repeat (first | exact Pick.here | apply Pick.there)) ?_ | refine SubL.skip ?_ | exact SubL.nil)) (hd : S.ds = (I y).ds := by rfl) :
    At c n S (fun a w => ∃ y, φ y ∧ Rep n (I y) a ∧ Sat c.w0 w (I y).L) := fun _ _ hr hs =>
  ⟨y, hy, ⟨hr.size, hr.ds.trans hd, fun t v hv => hr.val t v (he.look t v hv)⟩, hs.ent fun _ => hl.star⟩
end

/-! ### Calls -/
/-- What a call answers, whatever else lies there: Φ of the value and the chunks behind it. -/
def CallOk (P : Program) (w0 : World) (L : List HP) (f : FuncId) (args : List Value) (Φ : Value → List HP → Prop) : Prop :=
  ∀ w, Sat w0 w L → Calls P f args.toArray w fun e w' => ∃ u L', e = .returned u ∧ Φ u L' ∧ Sat w0 w' L'
/-- The same where it may panic. -/
def CallOkE (P : Program) (w0 : World) (L : List HP) (f : FuncId) (args : List Value) (Φ : Value → List HP → Prop) (E : List PanicEntry → World → Prop) : Prop :=
  ∀ w, Sat w0 w L → Calls P f args.toArray w fun e w' => (∃ u L', e = .returned u ∧ Φ u L' ∧ Sat w0 w' L') ∨ ∃ ch, e = .panicked ch ∧ E ch w'

theorem CallOk.mono {P : Program} {w0 : World} {L : List HP} {f : FuncId} {args : List Value} {Φ Ψ : Value → List HP → Prop} (h : CallOk P w0 L f args Φ) (k : ∀ u L', Φ u L' → Ψ u L') : CallOk P w0 L f args Ψ :=
  fun w hs => (h w hs).mono fun _ _ ⟨u, L', e1, e2, e3⟩ => ⟨u, L', e1, k u L' e2, e3⟩

def fnB (P : Program) (f : FuncId) : Bool := match P.funcs[f]? with | some fn => fn.body.isSome && !(fn.name == "runtime.NumGoroutine") | none => false

inductive ArgsR : Env → List Operand → List Value → Prop
  | nil {env : Env} : ArgsR env [] []
  | cons {env : Env} {x : Operand} {v : Value} {xs : List Operand} {vs : List Value} (h : opd env x = some v) (r : ArgsR env xs vs) : ArgsR env (x :: xs) (v :: vs)
theorem ArgsR.map {env : Env} {xs : List Operand} {vs : List Value} (h : ArgsR env xs vs) : xs.map (rho env) = vs ∧ ∀ x ∈ xs, (opd env x).isSome = true := by
  induction h with
  | nil => simp
  | cons h _ ih => simp [ih.1, rho_of h, h]; simpa using ih.2

section
variable {c : Cx} {ops : Array Oper} {un : Nat → Nat → Bool} {K : St → Prop} {i : Nat} {rest : List (Nat × Nat × Oper)} {fs : Fs} {env : Env} {L : List HP} {ds : List Deferred}
variable {d : Tmp} {ty : TypeId} {pos : String} {af : Array Edge} {g : Option (Nat × Bool)} {aty : Array TypeId}

theorem run_enter {P : Program} {f : FuncId} (hF : fnB P f = true) (args : Array Value) (w : World) : (callFunc f args).run P w = .ok (.enter f args) w := by
  unfold fnB at hF
  split at hF
  · rename_i fn hfn
    simp only [Bool.and_eq_true, Bool.not_eq_true', beq_eq_false_iff_ne, ne_eq] at hF
    have hb : fn.body ≠ none := by intro hbb; simp [hbb] at hF
    simp [callFunc, hfn, hF.2, hb]
  · cases hF

/-- What calls one's own text: a function by name, or a closure. -/
inductive Leads : Value → List Value → FuncId → List Value → Prop
  | func {f : FuncId} {a b : List Value} {args : List Value} : Leads (.func (.func f) a.toArray b.toArray) args f (a ++ args ++ b)

theorem Leads.run {P : Program} {v : Value} {args vs : List Value} {f : FuncId} (h : Leads v args f vs) (hF : fnB P f = true) (w : World) : ((do let d ← Deferred.ofValue v args.toArray; invoke d.target d.args) : Sem Next).run P w = .ok (.enter f vs.toArray) w := by
  cases h with
  | func => simp [Deferred.ofValue, invoke, run_enter hF]

theorem Run.callE {f : FuncId} {cv : Operand} {v : Value} {xs : List Operand} {args vs : List Value} {Φ : Value → List HP → Prop} {E : List PanicEntry → World → Prop} (hF : fnB c.P f = true) (hv : opd env cv = some v := by rfl) (ha : ArgsR env xs args := by repeat (first | exact ArgsR.nil | (apply ArgsR.cons; rfl))) (hl : Leads v args f vs := by exact Leads.func) (hg : gok ops env g = true := by rfl)
    (hc : CallOkE c.P c.w0 L f vs Φ E) (hE : ∀ ch w, E ch w → c.E ds ch w) (hin : c.strict i = true → ∃ u L', Φ u L' := by (intro hq; cases hq)) (hk : ∀ e ∈ fs, un e.1 i = true → ∀ u L', Φ u L' → ∀ w, Sat c.w0 w L' → e.2 w := by (intro _ _ hq; cases hq)) (h : ∀ u L', Φ u L' → Run c ops un K rest fs ⟨(d, u) :: env, L', ds⟩) : Run c ops un K ((i, 3, ⟨some d, .call { callee := .value cv, args := xs.toArray, argTypes := aty }, ty, pos, af, g⟩) :: rest) fs ⟨env, L, ds⟩ := by
  refine .inl ⟨defd_of (by simp [Op.operands, Call.operands, hv]; exact ha.map.2) (.inl hg), by simp, gok_wanted hg, by simp, Φ, fun a w hag hds hs => ?_, hin, hk, h⟩
  refine ⟨fun _ _ => trivial, ?_⟩
  show Oper.uponIn (FW c.r) 0 c.P _ a _ _ ((Oper.semAt c.r a.eval _).run c.P w)
  rw [Oper.semAt_eq _ _ _ (by simp), hag.exec (by simp)]
  have hr := hl.run hF w
  have e1 : (execOp (rho env) ⟨some d, .call { callee := .value cv, args := xs.toArray, argTypes := aty }, ty, pos, af, g⟩).run c.P w = .ok (.enter f vs.toArray) w := by
    rw [← hr]
    simp [execOp, resolve, rho_of hv, ha.map.1]
  rw [e1]
  refine ⟨fun h => (by cases h), trivial, ?_⟩
  have := (callsIn_wide (n := 0)).2 ((hc w hs).mono (R' := fun
      | .returned v, w'' => (∃ u L', a.put (some d) v = a.put (some d) u ∧ Φ u L' ∧ Sat c.w0 w'' L')
      | .panicked chain, w'' => c.Q a ds (.panic chain) a w''
      | .outgrown, _ => LetsOut (c.Q a ds)) fun e w' he => by
    rcases he with ⟨u, L', rfl, h2, h3⟩ | ⟨ch, rfl, h2⟩
    · exact ⟨u, L', rfl, h2, h3⟩
    · exact ⟨ch, rfl, rfl, hds, hE _ _ h2⟩)
  exact this.2

theorem CallOk.toE {P : Program} {w0 : World} {f : FuncId} {args : List Value} {Φ : Value → List HP → Prop} (h : CallOk P w0 L f args Φ) : CallOkE P w0 L f args Φ (fun _ _ => False) := fun w hs => (h w hs).mono fun _ _ he => .inl he

/-- A call by its contract. -/
theorem Run.call {f : FuncId} {cv : Operand} {v : Value} {xs : List Operand} {args vs : List Value} {Φ : Value → List HP → Prop} (hF : fnB c.P f = true) (hv : opd env cv = some v := by rfl) (ha : ArgsR env xs args := by repeat (first | exact ArgsR.nil | (apply ArgsR.cons; rfl))) (hl : Leads v args f vs := by exact Leads.func) (hg : gok ops env g = true := by rfl)
    (hc : CallOk c.P c.w0 L f vs Φ) (hin : c.strict i = true → ∃ u L', Φ u L' := by (intro hq; cases hq)) (hk : ∀ e ∈ fs, un e.1 i = true → ∀ u L', Φ u L' → ∀ w, Sat c.w0 w L' → e.2 w := by (intro _ _ hq; cases hq)) (h : ∀ u L', Φ u L' → Run c ops un K rest fs ⟨(d, u) :: env, L', ds⟩) : Run c ops un K ((i, 3, ⟨some d, .call { callee := .value cv, args := xs.toArray, argTypes := aty }, ty, pos, af, g⟩) :: rest) fs ⟨env, L, ds⟩ :=
  Run.callE hF hv ha hl hg hc.toE (fun _ _ h => h.elim) hin hk h

/-- The same, whatever else lies there. -/
theorem Run.call4 {f : FuncId} {cv : Operand} {v : Value} {xs : List Operand} {args vs : List Value} {Φ : Value → List HP → Prop} (hF : fnB c.P f = true) (hv : opd env cv = some v := by rfl) (ha : ArgsR env xs args := by repeat (first | exact ArgsR.nil | (apply ArgsR.cons; rfl))) (hl : Leads v args f vs := by exact Leads.func) (hg : gok ops env g = true := by rfl)
    (hc : ∀ F, CallOk c.P c.w0 (L ++ F) f vs fun u L'' => ∃ L', L'' = L' ++ F ∧ Φ u L') (hin : c.strict i = true → ∃ u L', Φ u L') (hk : ∀ e ∈ fs, un e.1 i = true → ∀ u L', Φ u L' → ∀ w, Sat c.w0 w L' → e.2 w) (h : ∀ u L', Φ u L' → Run c ops un K rest fs ⟨(d, u) :: env, L', ds⟩) : Run c ops un K ((i, 4, ⟨some d, .call { callee := .value cv, args := xs.toArray, argTypes := aty }, ty, pos, af, g⟩) :: rest) fs ⟨env, L, ds⟩ := by
  refine .inl ⟨defd_of (by simp [Op.operands, Call.operands, hv]; exact ha.map.2) (.inl hg), by simp, gok_wanted hg, by simp, Φ, fun F a w hag hds hs => ?_, hin, hk, h⟩
  refine ⟨fun _ _ => trivial, ?_⟩
  show Oper.uponIn (FW c.r) 0 c.P _ a _ _ ((Oper.semAt c.r a.eval _).run c.P w)
  rw [Oper.semAt_eq _ _ _ (by simp), hag.exec (by simp)]
  have hr := hl.run hF w
  have e1 : (execOp (rho env) ⟨some d, .call { callee := .value cv, args := xs.toArray, argTypes := aty }, ty, pos, af, g⟩).run c.P w = .ok (.enter f vs.toArray) w := by
    rw [← hr]
    simp [execOp, resolve, rho_of hv, ha.map.1]
  rw [e1]
  refine ⟨fun h => (by cases h), trivial, ?_⟩
  have := (callsIn_wide (n := 0)).2 ((hc F w hs).mono (R' := fun
      | .returned v, w'' => (∃ u L', a.put (some d) v = a.put (some d) u ∧ Φ u L' ∧ Sat c.w0 w'' (L' ++ F))
      | .panicked chain, w'' => c.Q a ds (.panic chain) a w''
      | .outgrown, _ => LetsOut (c.Q a ds)) fun e w' he => by
    obtain ⟨u, L', rfl, ⟨L'', rfl, h2⟩, h3⟩ := he
    exact ⟨u, L'', rfl, h2, h3⟩)
  exact this.2
end

/-! ### A function's beginning and end -/
def envOf : Nat → List Value → Env
  | _, [] => []
  | k, v :: vs => (k, v) :: envOf (k + 1) vs

theorem envOf_look : ∀ (vs : List Value) (k t : Nat) (v : Value), look (envOf k vs) t = some v → k ≤ t ∧ vs[t - k]? = some v
  | [], _, _, _, h => by cases h
  | u :: vs, k, t, v, h => by
    by_cases e : k = t
    · subst e
      simp only [envOf, look_cons_same] at h
      exact ⟨Nat.le_refl _, by simpa using h⟩
    · simp only [envOf, look_cons_ne e] at h
      obtain ⟨h1, h2⟩ := envOf_look vs (k + 1) t v h
      refine ⟨by omega, ?_⟩
      rw [show t - k = (t - (k + 1)) + 1 by omega]
      simpa using h2

def Post (w0 : World) (Φ : Value → List HP → Prop) (E : List PanicEntry → World → Prop) : Ending → World → Prop := fun e w' => (∃ u L', e = .returned u ∧ Φ u L' ∧ Sat w0 w' L') ∨ ∃ ch, e = .panicked ch ∧ E ch w'

theorem enterE {P : Program} {w0 : World} {L : List HP} {f : FuncId} {fn : Func} {code : Code} {n : Nat} {args : List Value} {Φ : Value → List HP → Prop} {E : List PanicEntry → World → Prop} (hf : P.funcs[f]? = some fn) (hb : fn.body = some code) (hn : fn.ntmps = n) (hle : args.length ≤ n)
    (h : At ⟨P, none, w0, fun _ _ _ => False, fun _ => false⟩ n ⟨envOf 0 args, L, []⟩ (code.wpIn (FW none) 0 P (bodyPost P fn (Post w0 Φ E)))) : CallOkE P w0 L f args Φ E := fun w hs => by
  refine (callsIn_wide (n := 0)).1 (callsIn_of_wp (F := Fence.wide) (c := code) hf hb trivial (h _ w ⟨?_, rfl, fun t v hv => ?_⟩ hs))
  · simp [hn]; omega
  · obtain ⟨_, h2⟩ := envOf_look args 0 t v hv
    rw [Nat.sub_zero] at h2
    have hlt : t < args.length := (List.getElem?_eq_some_iff.1 h2).1
    show (args.toArray ++ Array.replicate (fn.ntmps - args.toArray.size) undef)[t]? = some v
    rw [Array.getElem?_append_left (by simpa using hlt)]
    simpa using h2
theorem enter {P : Program} {w0 : World} {L : List HP} {f : FuncId} {fn : Func} {code : Code} {n : Nat} {args : List Value} {Φ : Value → List HP → Prop} (hf : P.funcs[f]? = some fn) (hb : fn.body = some code) (hn : fn.ntmps = n) (hle : args.length ≤ n)
    (h : At ⟨P, none, w0, fun _ _ _ => False, fun _ => false⟩ n ⟨envOf 0 args, L, []⟩ (code.wpIn (FW none) 0 P (bodyPost P fn (Post w0 Φ fun _ _ => False)))) : CallOk P w0 L f args Φ := fun w hs =>
  (enterE hf hb hn hle h w hs).mono fun _ _ he => by
    rcases he with he | ⟨_, _, he⟩
    · exact he
    · exact he.elim

/-- What a function's results are, off the state. -/
inductive ResR (P : Program) (w0 : World) : St → List ResultVar → List Value → Prop
  | nil {S : St} : ResR P w0 S [] []
  | tmp {S : St} {t : Tmp} {v : Value} {r : List ResultVar} {vs : List Value} (h : look S.env t = some v) (k : ResR P w0 S r vs) : ResR P w0 S (.tmp t :: r) (v :: vs)
  | cell {S : St} {t : Tmp} {u : TypeId} {a : Addr} {v : Value} {r : List ResultVar} {vs : List Value} (h : look S.env t = some (.pointer (some a))) (ht : aggB P u = some false) (hc : Cel w0 S.L a v) (k : ResR P w0 S r vs) : ResR P w0 S (.cell t u :: r) (v :: vs)
  | agg {S : St} {t : Tmp} {u : TypeId} {a : Addr} {cs : List Value} {r : List ResultVar} {vs : List Value} (h : look S.env t = some (.pointer (some a))) (hs : a.spot = none) (ht : aggB P u = some true) (hn : szB P u = some cs.length) (hc : CelR w0 S.L a cs) (k : ResR P w0 S r vs) : ResR P w0 S (.cell t u :: r) (.agg cs.toArray :: vs)

def tupleOf : List Value → Value
  | [v] => v
  | vs => .tuple vs.toArray

def resv (tmps : Array Value) : ResultVar → Sem Value
  | .tmp t => pure (tmps.getD t undef)
  | .cell a t => do loadVar t (← asAddr (tmps.getD a undef))

theorem ResR.run {P : Program} {w0 w : World} {S : St} {rs : List ResultVar} {vs : List Value} {n : Nat} {a : Act} (h : ResR P w0 S rs vs) (hr : Rep n S a) (hs : Sat w0 w S.L) :
    (rs.mapM (resv a.tmps)).run P w = .ok vs w := by
  induction h with
  | nil => rfl
  | tmp h _ ih => simp [List.mapM_cons, resv, hr.val _ _ h, ih]
  | cell h ht hc _ ih => simp [List.mapM_cons, resv, hr.val _ _ h, asAddr, run_loadVar_one ht (hc _ hs), ih]
  | agg h hsp ht hn hc _ ih => simp [List.mapM_cons, resv, hr.val _ _ h, asAddr, run_loadVar_agg ht hn hsp (fun j v hj => hc j v hj _ hs), ih]

theorem ResR.results {P : Program} {w0 w : World} {S : St} {fn : Func} {rs : List ResultVar} {vs : List Value} {n : Nat} {a : Act} (hrs : fn.results = rs.toArray) (h : ResR P w0 S rs vs) (hr : Rep n S a) (hs : Sat w0 w S.L) :
    (Go.results fn a.tmps).run P w = .ok (tupleOf vs) w := by
  have h1 := h.run hr hs
  have e0 : Go.results fn a.tmps = (do let vs ← fn.results.mapM (resv a.tmps); pure (if h : vs.size = 1 then vs[0] else .tuple vs)) := by
    unfold Go.results
    congr 1
  rw [e0, hrs]
  simp only [List.mapM_toArray, Sem.run_bind, Sem.run_map, h1, Result.andThen_ok, Sem.run_pure]
  congr 1
  match vs with
  | [] => simp [tupleOf]
  | [v] => simp [tupleOf]
  | v :: u :: vs => simp [tupleOf]

section
variable {c : Cx} {n : Nat} {S : St} {P : Program} {fn : Func} {Φ : Value → List HP → Prop} {E : List PanicEntry → World → Prop} {rs : List ResultVar} {vs : List Value}
/-- The return. -/
theorem At.done {L' : List HP} (hrs : fn.results = rs.toArray := by rfl) (hres : ResR c.P c.w0 S rs vs := by repeat (first | exact ResR.nil | (apply ResR.tmp; rfl))) (hΦ : Φ (tupleOf vs) L') (hl : SubL S.L L' := by repeat (first | exact SubL.refl | refine SubL.cons (by repeat (first | exact Pick.here | apply Pick.there)) ?_ | refine SubL.skip ?_ | exact SubL.nil)) (hds : S.ds = [] := by rfl) : At c n S (bodyPost c.P fn (Post c.w0 Φ E) .ret) := fun _ _ hr hs =>
  ⟨hr.ds.trans hds, tupleOf vs, hres.results hrs hr hs, .inl ⟨_, L', rfl, hΦ, hs.ent fun _ => hl.star⟩⟩
/-- The end without a return. -/
theorem At.doneN {L' : List HP} (hrs : fn.results = rs.toArray := by rfl) (hres : ResR c.P c.w0 S rs vs := by repeat (first | exact ResR.nil | (apply ResR.tmp; rfl))) (hΦ : Φ (tupleOf vs) L') (hl : SubL S.L L' := by repeat (first | exact SubL.refl | refine SubL.cons (by repeat (first | exact Pick.here | apply Pick.there)) ?_ | refine SubL.skip ?_ | exact SubL.nil)) (hds : S.ds = [] := by rfl) : At c n S (bodyPost c.P fn (Post c.w0 Φ E) .normal) := fun _ _ hr hs =>
  ⟨hr.ds.trans hds, tupleOf vs, hres.results hrs hr hs, .inl ⟨_, L', rfl, hΦ, hs.ent fun _ => hl.star⟩⟩
end
end Go.Sx
