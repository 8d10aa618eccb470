/- Functions that defer; deferred functions that recover. No condition. -/
import Derived.Test.YtllpfpdanonhkaaSxAid
import Derived.RecoverIn
namespace Go.Sx
open Go.RowKit

theorem nost {b : Bool} {p : Prop} (h : b = false) : b = true → p := fun h2 => by rw [h] at h2; cases h2

/-- A deferred call of a function value, without arguments. -/
abbrev dcl (f : FuncId) (cap : List Value) : Deferred := { target := .fn (.func f) cap.toArray, args := #[] }

section
variable {c : Cx} {ops : Array Oper} {un : Nat → Nat → Bool} {K : St → Prop} {i : Nat} {rest : List (Nat × Nat × Oper)} {fs : Fs} {env : Env} {L : List HP} {ds : List Deferred}
theorem Run.df {dd : Option Tmp} {f : FuncId} {cap : List Value} {cv : Operand} {aty : Array TypeId} {ty : TypeId} {pos : String} {af : Array Edge} {g : Option (Nat × Bool)} (hv : opd env cv = some (.func (.func f) #[] cap.toArray) := by rfl) (hr : c.r = none := by rfl) (hg : gok ops env g = true := by rfl)
    (h : Run c ops un K rest fs (St.put ⟨env, L, dcl f cap :: ds⟩ dd undef)) : Run c ops un K ((i, 5, ⟨dd, .defer { callee := .value cv, args := #[], argTypes := aty }, ty, pos, af, g⟩) :: rest) fs ⟨env, L, ds⟩ := by
  refine .inl ⟨defd_of (by simp [Op.operands, Call.operands, hv]) (.inl hg), by simp, gok_wanted hg, dcl f cap, fun w => ?_, hr, h⟩
  rw [hr, Oper.semAt_none]
  simp [execOp, resolve, rho_of hv, Deferred.ofValue]
end

section
variable {c : Cx} {ops : Array Oper} {un : Nat → Nat → Bool} {K : St → Prop} {i : Nat} {rest : List (Nat × Nat × Oper)} {fs : Fs} {env : Env} {L : List HP} {ds : List Deferred} {d : Tmp} {x y : Operand} {ty t t2 t3 : TypeId} {pos : String} {af : Array Edge} {g : Option (Nat × Bool)}
/-- A load's value, said of any world that has the cell. -/
theorem ld_fact {P : Program} {w0 w : World} {a : Addr} {v : Value} (hs : Sat w0 w L) (ht : aggB P t = some false) (hc : Cel w0 L a v) (hx : opd env x = some (.pointer (some a)) := by rfl) : (execOp (rho env) ⟨some d, .load t x, ty, pos, af, g⟩).run P w = .ok (.value v) w := by
  simp [execOp, rho_of hx, Instr.loadAt, Instr.sureAddr, run_loadVar_one ht (hc w hs)]
/-- The same, of a block that lies here. -/
theorem ldo_fact {P : Program} {w0 w : World} {b k : Nat} {u : TypeId} {l : List Value} {F : List HP} {v : Value} (hs : Sat w0 w L) (ht : aggB P t = some false) (hx : opd env x = some (.pointer (some ⟨b, k, none⟩)) := by rfl)
    (hp : Pick L (cel b u l) F := by repeat (first | exact Pick.here | apply Pick.there)) (hv : l[k]? = some v := by rfl) : (execOp (rho env) ⟨some d, .load t x, ty, pos, af, g⟩).run P w = .ok (.value v) w := ld_fact hs ht (Cel.own hp hv) hx
theorem ldoA_fact {P : Program} {w0 w : World} {b k n : Nat} {u : TypeId} {l vs : List Value} {F : List HP} (hs : Sat w0 w L) (ht : aggB P t = some true) (hn : szB P t = some n) (hx : opd env x = some (.pointer (some ⟨b, k, none⟩)) := by rfl)
    (hp : Pick L (cel b u l) F := by repeat (first | exact Pick.here | apply Pick.there)) (hv : TakeR l k n vs := by repeat (first | exact TakeR.nil | (apply TakeR.cons; rfl))) : (execOp (rho env) ⟨some d, .load t x, ty, pos, af, g⟩).run P w = .ok (.value (.agg vs.toArray)) w := by
  have h1 := run_loadVar_agg (a := ⟨b, k, none⟩) (w := w) ht (by rw [hn, hv.get.1]) rfl (fun j v hj => (Cel.own hp (hv.get.2 j v hj)) w hs)
  simp [execOp, rho_of hx, Instr.loadAt, Instr.sureAddr, h1]
/-- Of an element. -/
theorem ldr0_fact {P : Program} {w0 w : World} {ao : Option Addr} {sz j : Nat} {l : List (List Value)} {cs : List Value} {v : Value} (hs : Sat w0 w L) (ht : aggB P t = some false) (hx : opd env x = some (.pointer (some (plus (adr ao) (j * sz)))) := by rfl) (hR : RdS w0 L sz ao l) (hj : l[j]? = some cs) (hv : cs[0]? = some v := by rfl) : (execOp (rho env) ⟨some d, .load t x, ty, pos, af, g⟩).run P w = .ok (.value v) w :=
  ld_fact hs ht (hR.cel j cs hj 0 v hv) hx
theorem ldrA_fact {P : Program} {w0 w : World} {ao : Option Addr} {sz j : Nat} {l : List (List Value)} {cs : List Value} (hs : Sat w0 w L) (ht : aggB P t = some true) (hn : szB P t = some sz) (hx : opd env x = some (.pointer (some (plus (adr ao) (j * sz)))) := by rfl) (hR : RdS w0 L sz ao l) (hj : l[j]? = some cs) : (execOp (rho env) ⟨some d, .load t x, ty, pos, af, g⟩).run P w = .ok (.value (.agg cs.toArray)) w := by
  have h1 := (hR.els cs (List.mem_of_getElem? hj)).1
  have h2 := run_loadVar_agg (a := plus (adr ao) (j * sz)) (w := w) ht (by rw [hn, h1]) rfl (fun k v hk => by
    have e : plus (plus (adr ao) (j * sz)) k = plus (adr ao) (j * sz + k) := by simp [plus, Nat.add_assoc]
    rw [e]; exact hR.cel j cs hj k v hk w hs)
  simp [execOp, rho_of hx, Instr.loadAt, Instr.sureAddr, h2]
theorem hkNil {un : Nat → Nat → Bool} {i : Nat} {G : Nat × (World → Prop) → Prop} : ∀ e ∈ ([] : Fs), un e.1 i = true → G e := fun _ h => by cases h
theorem hkSkip {un : Nat → Nat → Bool} {i j : Nat} {R : World → Prop} {fs : Fs} {G : Nat × (World → Prop) → Prop} (h : un j i = false) (k : ∀ e ∈ fs, un e.1 i = true → G e) : ∀ e ∈ (j, R) :: fs, un e.1 i = true → G e := fun e he hu => by
  rcases List.mem_cons.1 he with rfl | he
  · rw [h] at hu; cases hu
  · exact k e he hu
theorem hkUse {un : Nat → Nat → Bool} {i j : Nat} {R : World → Prop} {fs : Fs} {G : Nat × (World → Prop) → Prop} (h : G (j, R)) (k : ∀ e ∈ fs, un e.1 i = true → G e) : ∀ e ∈ (j, R) :: fs, un e.1 i = true → G e := fun e he hu => by
  rcases List.mem_cons.1 he with rfl | he
  · exact h
  · exact k e he hu
theorem run_eqNil {P : Program} {w : World} {ms : Array (String × TypeId)} (ht : P.underlying t = some (.interface ms)) : (Op.equal t .nilIface .nilIface).run P w = .ok true w ∧ ∀ u v, (Op.equal t (.iface u v) .nilIface).run P w = .ok false w := by
  have h1 : ∀ k, (Op.equalIn (k + 1) t .nilIface .nilIface).run P w = .ok true w := fun k => by simp [Op.equalIn, underlying, ht]
  have h2 : ∀ k u v, (Op.equalIn (k + 1) t (.iface u v) .nilIface).run P w = .ok false w := fun k u v => by simp [Op.equalIn, underlying, ht]
  exact ⟨h1 9999, h2 9999⟩
def ifcB (P : Program) (t : TypeId) : Bool := match P.underlying t with | some (.interface _) => true | _ => false
theorem ifcB_spec {P : Program} (h : ifcB P t = true) : ∃ ms, P.underlying t = some (.interface ms) := by
  unfold ifcB at h
  split at h
  · exact ⟨_, by assumption⟩
  · cases h
/-- An interface value beside the literal nil. -/
theorem Run.neN0 (ht : ifcB c.P t = true) (hx : opd env x = some .nilIface := by rfl) (hg : gok ops env g = true := by rfl) (h : Run c ops un K rest fs ⟨(d, .bool false) :: env, L, ds⟩) :
    Run c ops un K ((i, 0, ⟨some d, .binOp .neq t x (.const .nilIface) t2, ty, pos, af, g⟩) :: rest) fs ⟨env, L, ds⟩ :=
  Run.calm (fun z hz => by
    have : z = x ∨ z = .const .nilIface := by simpa [Op.operands] using hz
    rcases this with rfl | rfl
    · rw [hx]; rfl
    · rfl) (by simp) (by simp) hg (fun w => by
    obtain ⟨ms, hm⟩ := ifcB_spec ht
    have := (run_eqNil (P := c.P) (w := w) hm).1
    have hy : rho env (.const .nilIface) = .nilIface := rfl
    simp [execOp, rho_of hx, hy, eqGuard, binOp, this]) h
theorem Run.neN1 {u : TypeId} {v : Value} (ht : ifcB c.P t = true) (hx : opd env x = some (.iface u v) := by rfl) (hg : gok ops env g = true := by rfl) (h : Run c ops un K rest fs ⟨(d, .bool true) :: env, L, ds⟩) :
    Run c ops un K ((i, 0, ⟨some d, .binOp .neq t x (.const .nilIface) t2, ty, pos, af, g⟩) :: rest) fs ⟨env, L, ds⟩ :=
  Run.calm (fun z hz => by
    have : z = x ∨ z = .const .nilIface := by simpa [Op.operands] using hz
    rcases this with rfl | rfl
    · rw [hx]; rfl
    · rfl) (by simp) (by simp) hg (fun w => by
    obtain ⟨ms, hm⟩ := ifcB_spec ht
    have := (run_eqNil (P := c.P) (w := w) hm).2 u v
    have hy : rho env (.const .nilIface) = .nilIface := rfl
    simp [execOp, rho_of hx, hy, eqGuard, binOp, this]) h
/-- What an interface holds, where it is what one asks for. -/
theorem Run.ta {v : Value} (ht : concB c.P t = true) (hx : opd env x = some (.iface t v) := by rfl) (hg : gok ops env g = true := by rfl) (h : Run c ops un K rest fs ⟨(d, .tuple #[v, .bool true]) :: env, L, ds⟩) :
    Run c ops un K ((i, 0, ⟨some d, .typeAssert x t3 t true, ty, pos, af, g⟩) :: rest) fs ⟨env, L, ds⟩ :=
  Run.calm (by simp [Op.operands, hx]) (by simp) (by simp) hg (fun w => by
    unfold concB at ht
    split at ht
    · cases ht
    · rename_i dd hne hu
      have h2 : (Instr.typeAssert (.iface t v) t3 t true).run c.P w = .ok (.tuple #[v, .bool true]) w := by
        simp only [Instr.typeAssert, underlying]
        cases dd <;> first | exact (hne _ rfl).elim | (simp [hu]; done)
      simp [execOp, rho_of hx, h2]
    · cases ht) h
end

def DefOk (P : Program) (w0 : World) (L : List HP) (f : FuncId) (args : List Value) (u : FrameMode) (Ψ : FrameMode → List HP → Prop) : Prop :=
  ∀ w, Sat w0 w L → CallsDIn (FW none) 0 P f args.toArray u w fun e u' w' => (∃ v, e = .returned v) ∧ ∃ L', Ψ u' L' ∧ Sat w0 w' L'

theorem enterD {P : Program} {w0 : World} {L : List HP} {f : FuncId} {fn : Func} {code : Code} {n : Nat} {args : List Value} {Φ : Value → List HP → Prop} {E : List PanicEntry → World → Prop} (hf : P.funcs[f]? = some fn) (hb : fn.body = some code) (hn : fn.ntmps = n) (hle : args.length ≤ n)
    (h : At ⟨P, none, w0, fun _ _ _ => False, fun _ => false⟩ n ⟨envOf 0 args, L, []⟩ (code.wpIn (FW none) 0 P (bodyPostDIn (FW none) 0 P fn (Post w0 Φ E)))) : CallOkE P w0 L f args Φ E := fun w hs => by
  refine (callsIn_wide (n := 0)).1 (callsIn_of_wp_defers (F := Fence.wide) (c := code) hf hb trivial (h _ w ⟨?_, rfl, fun t v hv => ?_⟩ hs))
  · simp [hn]; omega
  · obtain ⟨_, h2⟩ := envOf_look args 0 t v hv
    rw [Nat.sub_zero] at h2
    have hlt : t < args.length := (List.getElem?_eq_some_iff.1 h2).1
    show (args.toArray ++ Array.replicate (fn.ntmps - args.toArray.size) undef)[t]? = some v
    rw [Array.getElem?_append_left (by simpa using hlt)]
    simpa using h2

theorem leave1 {P : Program} {w0 : World} {L L1 : List HP} {fn : Func} {rs : List ResultVar} {vs : List Value} {Φ : Value → List HP → Prop} {E : List PanicEntry → World → Prop} {f : FuncId} {cap : List Value} {u : FrameMode} {a : Act} {w : World} (keys : Env) (hu : u ≠ .run) (hda : a.defers = [dcl f cap]) (hk : ∀ t v, look keys t = some v → a.tmps[t]? = some v) (hF : fnB P f = true)
    (hd : DefOk P w0 L f cap u (fun u' L' => settle u' = .returning ∧ L' = L1)) (hs : Sat w0 w L) (hrs : fn.results = rs.toArray) (hres : ResR P w0 ⟨keys, L1, []⟩ rs vs) (hΦ : ∃ L2, Φ (tupleOf vs) L2 ∧ SubL L1 L2) : LeavesIn (FW none) 0 P fn a.tmps (Post w0 Φ E) a.defers u w := by
  rw [hda]
  refine ⟨hu, fun h => (by cases h), .func f, cap.toArray, f, cap.toArray, rfl, ?_, fun _ _ => trivial, ?_⟩
  · show (invoke (.fn (.func f) cap.toArray) #[]).run P w = _
    simp [invoke, run_enter hF]
  · refine CallsDIn.mono (hd w hs) fun e u' w' ⟨⟨v, hv⟩, L', ⟨h1, h2⟩, h3⟩ => ?_
    subst hv h2
    show LeavesIn (FW none) 0 P fn a.tmps (Post w0 Φ E) [] (settle u') w'
    rw [h1]
    obtain ⟨L2, hp, hl⟩ := hΦ
    have hrun := (ResR.results (n := a.tmps.size) (a := { a with defers := [] }) hrs hres ⟨rfl, rfl, hk⟩ h3)
    exact ⟨tupleOf vs, hrun, .inl ⟨_, L2, rfl, hp, h3.ent fun _ => hl.star⟩⟩

section
variable {c : Cx} {n : Nat} {P : Program} {fn : Func} {Φ : Value → List HP → Prop} {E : List PanicEntry → World → Prop} {rs : List ResultVar} {vs : List Value}
/-- The return of a function that has deferred one call. -/
theorem At.leave {env : Env} {L L1 : List HP} {f : FuncId} {cap : List Value} (hF : fnB c.P f = true) (hd : DefOk c.P c.w0 L f cap .returning (fun u' L' => settle u' = .returning ∧ L' = L1)) (hrs : fn.results = rs.toArray := by rfl) (hres : ResR c.P c.w0 ⟨env, L1, []⟩ rs vs) (hΦ : ∃ L2, Φ (tupleOf vs) L2 ∧ SubL L1 L2) :
    At c n ⟨env, L, [dcl f cap]⟩ (bodyPostDIn (FW none) 0 c.P fn (Post c.w0 Φ E) .ret) := fun _ _ hr hs =>
  leave1 env (by simp) hr.ds hr.val hF hd hs hrs hres hΦ
end

/-- A deferred function that begins by recovering. -/
theorem enterRec {P : Program} {w0 : World} {L : List HP} {f : FuncId} {fn : Func} {rest : Code} {n id d1 d2 : Nat} {at' : Array TypeId} {ty1 ty2 : TypeId} {p1 p2 : String} {af1 af2 : Array Edge} {args : List Value} {Φ : Value → List HP → Prop} {u u' : FrameMode} {x : Value} (hf : P.funcs[f]? = some fn)
    (hb : fn.body = some (.seq (.region id #[⟨some d1, .call { callee := .builtin .recover, args := #[], argTypes := at' }, ty1, p1, af1, none⟩, ⟨some d2, .assign (.tmp d1), ty2, p2, af2, none⟩] false) rest)) (hn : fn.ntmps = n) (hle : args.length ≤ n) (h1 : d1 < n) (h2 : d2 < n)
    (hu : (u = .returning ∧ x = .nilIface ∧ u' = u) ∨ ∃ older, u = .panicking ({ v := x, recovered := false } :: older) ∧ u' = .panicking ({ v := x, recovered := true } :: older))
    (h : At ⟨P, none, w0, fun _ _ _ => False, fun _ => false⟩ n ⟨(d2, x) :: (d1, x) :: envOf 0 args, L, []⟩ (rest.wpIn (FW none) 0 P (bodyPost P fn (Post w0 Φ fun _ _ => False)))) : DefOk P w0 L f args u (fun u2 L' => u2 = u' ∧ ∃ v, Φ v L') := fun w hs => by
  refine callsDIn_of_wpSIn hf hb trivial fun c₀ cs hc => wpSIn_seq (wpSIn_region ?_)
  have key : ∀ (cs' : List Frame), cs' = { c₀ with mode := u' } :: cs → ∀ a : Act, Rep n ⟨(d2, x) :: (d1, x) :: envOf 0 args, L, []⟩ a →
      rest.wpSIn (FW none) 0 P (bodyPostS P fn c₀ cs fun e u2 w' => (∃ v, e = .returned v) ∧ ∃ L', (u2 = u' ∧ ∃ v, Φ v L') ∧ Sat w0 w' L') a cs' w := fun cs' hcs a hr => by
    subst hcs
    refine wpSIn_of_wpIn rfl (wpIn_mono (h a w hr hs) fun e a' w' hq => ?_)
    cases e with
    | normal =>
      obtain ⟨hd, v, hv, hp⟩ := hq
      rcases hp with ⟨v', L', e1, e2, e3⟩ | ⟨_, e1, _⟩
      · exact ⟨hd, u', rfl, v, hv, ⟨v, rfl⟩, L', ⟨rfl, v', e2⟩, e3⟩
      · cases e1
    | ret =>
      obtain ⟨hd, v, hv, hp⟩ := hq
      rcases hp with ⟨v', L', e1, e2, e3⟩ | ⟨_, e1, _⟩
      · exact ⟨hd, u', rfl, v, hv, ⟨v, rfl⟩, L', ⟨rfl, v', e2⟩, e3⟩
      · cases e1
    | panic ch =>
      obtain ⟨hd, hp⟩ := hq
      rcases hp with ⟨_, _, e1, _⟩ | ⟨_, _, e1⟩
      · cases e1
      · exact e1.elim
    | exit _ => exact hq.elim
    | goto _ => exact hq.elim
    | outgrown =>
      rcases hq with ⟨_, _, e1, _⟩ | ⟨_, e1, _⟩ <;> cases e1
  have hr0 : Rep n ⟨envOf 0 args, L, []⟩ { tmps := args.toArray ++ Array.replicate (fn.ntmps - args.toArray.size) undef, defers := [] } := by
    refine ⟨by simp [hn]; omega, rfl, fun t v hv => ?_⟩
    obtain ⟨_, h2⟩ := envOf_look args 0 t v hv
    rw [Nat.sub_zero] at h2
    have hlt : t < args.length := (List.getElem?_eq_some_iff.1 h2).1
    show (args.toArray ++ Array.replicate (fn.ntmps - args.toArray.size) undef)[t]? = some v
    rw [Array.getElem?_append_left (by simpa using hlt)]
    simpa using h2
  have hr1 : ∀ y, Rep n ⟨(d1, y) :: envOf 0 args, L, []⟩ (Act.put _ (some d1) y) := fun y => hr0.put (some d1) (fun t ht => by cases ht; exact h1) y
  have hr2 : ∀ y, Rep n ⟨(d2, y) :: (d1, y) :: envOf 0 args, L, []⟩ ((Act.put _ (some d1) y).put (some d2) y) := fun y => (hr1 y).put (some d2) (fun t ht => by cases ht; exact h2) y
  have hev : ∀ y, (Act.put { tmps := args.toArray ++ Array.replicate (fn.ntmps - args.toArray.size) undef, defers := [] } (some d1) y).eval (.tmp d1) = y := fun y => (hr1 y).opd (x := .tmp d1) (by simp [opd, look_cons_same])
  have hrec : recoverD (c₀ :: cs) = (match u with | .panicking _ => some (x, { c₀ with mode := u' } :: cs) | _ => none) := by
    rcases hu with ⟨rfl, rfl, rfl⟩ | ⟨older, rfl, rfl⟩ <;> simp [recoverD, hc]
  have hsz : (#[⟨some d1, .call { callee := .builtin .recover, args := #[], argTypes := at' }, ty1, p1, af1, none⟩, ⟨some d2, .assign (.tmp d1), ty2, p2, af2, none⟩] : Array Oper).size = 2 := rfl
  rw [hsz, show List.range 2 = [0, 1] from rfl]
  simp only [wpOpsSIn, List.getElem?_toArray, List.getElem?_cons_zero, List.getElem?_cons_succ, Region.wanted, if_true]
  refine ⟨fun _ _ => trivial, ?_⟩
  have e0 : ∀ (a : Act) (w : World), (execOp a.eval ⟨some d1, .call { callee := .builtin .recover, args := #[], argTypes := at' }, ty1, p1, af1, none⟩).run P w = .ok .recover w := fun a w => by simp [execOp, resolve, invoke, builtin]
  have e1 : ∀ (a : Act) (w : World), (execOp a.eval ⟨some d2, .assign (.tmp d1), ty2, p2, af2, none⟩).run P w = .ok (.value (a.eval (.tmp d1))) w := fun a w => by simp [execOp]
  rw [e0]
  dsimp only
  rw [hrec]
  rcases hu with ⟨rfl, rfl, rfl⟩ | ⟨older, rfl, rfl⟩
  · dsimp only
    refine ⟨fun _ _ => trivial, ?_⟩
    rw [e1, hev]
    exact key _ (by rw [← hc]) _ (hr2 _)
  · dsimp only
    refine ⟨fun _ _ => trivial, ?_⟩
    rw [e1, hev]
    exact key _ rfl _ (hr2 _)
end Go.Sx
