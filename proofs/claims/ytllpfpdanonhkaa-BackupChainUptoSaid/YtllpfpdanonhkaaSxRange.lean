/- A range over a function: the iterator's contract, the loop, the marks at a function's end. No condition. -/
import Derived.Test.YtllpfpdanonhkaaSxStr
import Derived.RangeFuncIn
import Derived.RangeFuncRecord
import Derived.RangeFuncLeaves
namespace Go.Sx
open Go.RowKit

abbrev yieldV (l : Nat) : Value := .func (.yield l) #[] #[]

/-- A round: what it does to the chunk A, whatever else lies there. -/
def YOk (P : Program) (w0 : World) (l : Nat) (args : List Value) (A B C : HP) : Prop :=
  ∀ F w, Sat w0 w (A :: F) → ∃ fn tmps assign body, (Instr.yield l args.toArray).run P w = .ok (.round l fn tmps assign body) w ∧
    RoundIn (FW none) 0 P l fn tmps assign body w fun e w' => (e = .returned (.bool true) ∧ Sat w0 w' (B :: F)) ∨ (e = .returned (.bool false) ∧ Sat w0 w' (C :: F))

/-- What an iterator promises: the rounds' arguments are xs. -/
def SeqOk (P : Program) (w0 : World) (Lit : List HP) (gf : FuncId) (lb : List Value) (xs : List (List Value)) : Prop :=
  ∀ (l : Nat) (J : Nat → HP) (Jx : HP), (∀ j args, xs[j]? = some args → YOk P w0 l args (J j) (J (j + 1)) Jx) →
    CallOk P w0 (J 0 :: Lit) gf (yieldV l :: lb) fun _ L' => L' = J xs.length :: Lit ∨ L' = Jx :: Lit

section
variable {c : Cx} {ops : Array Oper} {un : Nat → Nat → Bool} {K : St → Prop} {i : Nat} {rest : List (Nat × Nat × Oper)} {fs : Fs} {env : Env} {L : List HP} {ds : List Deferred}
variable {d : Tmp} {ty : TypeId} {pos : String} {af : Array Edge} {g : Option (Nat × Bool)} {aty : Array TypeId}

/-- A call of yield. -/
theorem Run.callY {l : Nat} {cv : Operand} {xs : List Operand} {args : List Value} {A B C : HP} {F : List HP} (hy : YOk c.P c.w0 l args A B C) (hv : opd env cv = some (yieldV l) := by rfl) (ha : ArgsR env xs args := by repeat (first | exact ArgsR.nil | (apply ArgsR.cons; rfl))) (hg : gok ops env g = true := by rfl)
    (hp : Pick L A F := by repeat (first | exact Pick.here | apply Pick.there)) (hk : ∀ e ∈ fs, un e.1 i = true → ∀ L', L' = B :: F ∨ L' = C :: F → ∀ w, Sat c.w0 w L' → e.2 w := by (intro _ _ hq; cases hq))
    (h1 : Run c ops un K rest fs ⟨(d, .bool true) :: env, B :: F, ds⟩) (h2 : Run c ops un K rest fs ⟨(d, .bool false) :: env, C :: F, ds⟩) : Run c ops un K ((i, 3, ⟨some d, .call { callee := .value cv, args := xs.toArray, argTypes := aty }, ty, pos, af, g⟩) :: rest) fs ⟨env, L, ds⟩ := by
  refine .inl ⟨defd_of (by simp [Op.operands, Call.operands, hv]; exact ha.map.2) (.inl hg), by simp, gok_wanted hg, by simp, fun u L' => (u = .bool true ∧ L' = B :: F) ∨ (u = .bool false ∧ L' = C :: F), fun a w hag hds hs => ?_, fun _ => ⟨_, _, .inl ⟨rfl, rfl⟩⟩, fun e he hu u L' hh => hk e he hu L' (hh.imp (·.2) (·.2)), fun u L' hh => ?_⟩
  · refine ⟨fun _ _ => trivial, ?_⟩
    show Oper.uponIn (FW c.r) 0 c.P _ a _ _ ((Oper.semAt c.r a.eval _).run c.P w)
    rw [Oper.semAt_eq _ _ _ (by simp), hag.exec (by simp)]
    obtain ⟨fn, tmps, assign, body, e0, hR⟩ := hy F w (hs.pick hp)
    have e1 : (execOp (rho env) ⟨some d, .call { callee := .value cv, args := xs.toArray, argTypes := aty }, ty, pos, af, g⟩).run c.P w = .ok (.round l fn tmps assign body) w := by
      rw [← e0]
      simp [execOp, resolve, rho_of hv, ha.map.1, Deferred.ofValue, invoke]
    rw [e1]
    refine ⟨fun h => (by cases h), hR.1, fun cc cs hr => ?_⟩
    obtain ⟨e, w', he, hc⟩ := hR.2 cc cs (fun _ h => by cases h)
    refine ⟨e, w', ?_, hc⟩
    rcases he with ⟨rfl, hs'⟩ | ⟨rfl, hs'⟩
    · exact ⟨_, _, rfl, .inl ⟨rfl, rfl⟩, hs'⟩
    · exact ⟨_, _, rfl, .inr ⟨rfl, rfl⟩, hs'⟩
  · rcases hh with ⟨rfl, rfl⟩ | ⟨rfl, rfl⟩
    · exact h1
    · exact h2
def arrZ (P : Program) (t : TypeId) : Option (Nat × Nat × List Value) :=
  match P.underlying t with
  | some (.array n e) => match szB P e, zeroL P t with | some s, some z => some (n, s, z) | _, _ => none
  | _ => none
/-- An array's value, built whole. -/
theorem Run.bdA {n sz : Nat} {t : TypeId} {zl : List Value} {parts : List (Nat × Operand)} {xs : List (List Value)} (ht : arrZ c.P t = some (n, sz, zl))
    (hf : SeqR env sz 0 parts xs := by repeat (first | exact SeqR.nil | (apply SeqR.cons; rfl; constructor; rfl; simp [Value.oneCell']))) (hzl : zl.length = xs.length * sz := by rfl) (hg : gok ops env g = true := by rfl)
    (h : Run c ops un K rest fs ⟨(d, .agg xs.flatten.toArray) :: env, L, ds⟩) : Run c ops un K ((i, 0, ⟨some d, .build t parts.toArray, ty, pos, af, g⟩) :: rest) fs ⟨env, L, ds⟩ := by
  obtain ⟨ho, he, hn, hr⟩ := hf.run
  refine Run.calm (by intro y hy; simp [Op.operands] at hy; obtain ⟨a, hy⟩ := hy; exact ho _ hy) (by simp) (by simp) hg (fun w => ?_) h
  unfold arrZ at ht
  split at ht
  case h_2 => cases ht
  rename_i n' e' hut
  split at ht
  case h_2 => cases ht
  rename_i s z hs hz
  cases ht
  have h1 := hr [] zl (by simp) hzl
  have hsz : (sizeOf e').run c.P w = .ok sz w := by
    cases hi : c.P.info? e' with
    | none => simp [szB, hi] at hs
    | some inf => simp [szB, hi] at hs; simp [sizeOf, typeInfo, hi, hs]
  unfold zeroL at hz
  cases hi : c.P.info? t with
  | none => rw [hi] at hz; cases hz
  | some inf =>
    rw [hi] at hz
    cases hzz : inf.zero with
    | none => simp [hzz] at hz
    | some v0 =>
      simp [hzz] at hz
      have e0 : v0.cells = zl.toArray := by rw [← hz]
      simp only [List.nil_append] at h1
      simp [execOp, Instr.build, zeroValue, typeInfo, hi, hzz, underlying, hut, e0, hsz, h1]
/-- An array's value: an element that is several cells. -/
def arrE (P : Program) (t : TypeId) : Option (Nat × TypeId × Nat) :=
  match P.underlying t with
  | some (.array n e) => match szB P e, aggB P e with | some s, some true => some (n, e, s) | _, _ => none
  | _ => none
theorem Run.ixv {x y : Operand} {t e : TypeId} {n sz j : Nat} {cs : List Value} {k : IntKind} {jv : Int} (hu : arrE c.P t = some (n, e, sz)) (hx : opd env x = some (.agg cs.toArray) := by rfl) (hy : opd env y = some (.int k jv) := by rfl) (hg : gok ops env g = true := by rfl) (hj : jv = (j : Int)) (hjn : j < n)
    (h : Run c ops un K rest fs ⟨(d, .agg ((cs.drop (j * sz)).take sz).toArray) :: env, L, ds⟩) : Run c ops un K ((i, 0, ⟨some d, .index t x y, ty, pos, af, g⟩) :: rest) fs ⟨env, L, ds⟩ := by
  subst hj
  refine Run.calm (by simp [Op.operands, hx, hy]) (by simp) (by simp) hg (fun w => ?_) h
  unfold arrE at hu
  split at hu
  case h_2 => cases hu
  rename_i n' e' hut
  split at hu
  case h_2 => cases hu
  rename_i s hs ha
  cases hu
  obtain ⟨inf, hi, rfl⟩ : ∃ inf, c.P.info? e = some inf ∧ inf.size = sz := by
    unfold szB at hs
    cases hinf : c.P.info? e with
    | none => rw [hinf] at hs; cases hs
    | some inf => rw [hinf] at hs; exact ⟨inf, rfl, by simpa using hs⟩
  have hag : (isAgg e).run c.P w = .ok true w := by
    unfold aggB at ha
    cases hd : c.P.underlying e with
    | none => rw [hd] at ha; cases ha
    | some d =>
      rw [hd] at ha
      cases d <;> simp at ha <;> simp [isAgg, underlying, hd]
  have e1 : (part e cs.toArray (j * inf.size)).run c.P w = .ok (.agg ((cs.drop (j * inf.size)).take inf.size).toArray) w := by
    simp [part, Sem.run_bind, hag, Result.andThen, sizeOf, typeInfo, hi]
  have e2 : (Instr.index t (.agg cs.toArray) (.int k (j : Int))).run c.P w = .ok (.agg ((cs.drop (j * inf.size)).take inf.size).toArray) w := by
    have h1 : (0 : Int) ≤ (j : Int) ∧ (j : Int) < (n : Int) := ⟨by omega, by omega⟩
    simp [Instr.index, asIntOf, underlying, hut, sizeOf, typeInfo, hi, h1, e1, hjn]
  simp [execOp, rho_of hx, rho_of hy, e2]
/-- A load of several cells of an element. -/
theorem Run.ldrF {x : Operand} {t : TypeId} {ao : Option Addr} {sz j o m : Nat} {l : List (List Value)} {cs vs : List Value} (ht : aggB c.P t = some true) (hn : szB c.P t = some m) (hx : opd env x = some (.pointer (some (plus (plus (adr ao) (j * sz)) o))) := by rfl) (hg : gok ops env g = true := by rfl)
    (hR : RdS c.w0 L sz ao l) (hj : l[j]? = some cs) (hv : TakeR cs o m vs := by repeat (first | exact TakeR.nil | (apply TakeR.cons; rfl))) (h : Run c ops un K rest ((i, fun w => (execOp (rho env) ⟨some d, .load t x, ty, pos, af, g⟩).run c.P w = .ok (.value (.agg vs.toArray)) w) :: fs) ⟨(d, .agg vs.toArray) :: env, L, ds⟩) : Run c ops un K ((i, 1, ⟨some d, .load t x, ty, pos, af, g⟩) :: rest) fs ⟨env, L, ds⟩ := by
  refine Run.ldxA ht (by rw [hn, hv.get.1]) (fun k v hk => ?_) rfl hx rfl hg h
  have e : plus (plus (plus (adr ao) (j * sz)) o) k = plus (adr ao) (j * sz + (o + k)) := by simp [plus, Nat.add_assoc]
  rw [e]
  exact hR.cel j cs hj (o + k) v (hv.get.2 k v hk)
/-- An operation that is passed over. -/
theorem Run.skp {k : Nat} {o : Oper} (ho : (o.op.operands.toList.all fun x => (opd env x).isSome) = true := by rfl) (hns : ∀ cs b, o.op ≠ .select cs b := by simp) (hnd : ∀ d, o.op ≠ .defer d := by simp) (hk : k ≤ 4 := by decide) (hg : gno ops env o.guard = true := by rfl)
    (h : Run c ops un K rest fs (St.put ⟨env, L, ds⟩ o.dst undef)) : Run c ops un K ((i, k, o) :: rest) fs ⟨env, L, ds⟩ :=
  Run.skip (fun x hx => by
    exact List.all_eq_true.1 ho x (by simpa using hx)) hns hnd hk hg h
end

/-! ### The loop -/
/-- The block for the rounds' deferred calls, as the loop leaves it. -/
abbrev dfb (D : Nat) : HP := blk D (.deferred (some []))
abbrev mark (D : Nat) : Deferred := { target := .collected D, args := #[] }

/-- How a round's body may be left. -/
def RP (w0 : World) (fr : HP) (L' : List HP) (Ix : Code → List HP → Prop) : Exit → Act → World → Prop
  | .normal, _, w => Sat w0 w (L' ++ [fr])
  | .ret, _, w => ∃ L, Ix .ret L ∧ Sat w0 w (L ++ [fr])
  | .exit id, _, w => ∃ L, Ix (.exit id) L ∧ Sat w0 w (L ++ [fr])
  | .goto t, _, w => ∃ L, Ix (.goto t) L ∧ Sat w0 w (L ++ [fr])
  | _, _, _ => False

section
variable {c : Cx} {n : Nat} {S : St} {w0 : World} {fr : HP} {L' : List HP} {Ix : Code → List HP → Prop}
theorem At.rnorm (hl : SubL S.L (L' ++ [fr]) := by repeat (first | exact SubL.refl | refine SubL.cons (by repeat (first | exact Pick.here | apply Pick.there)) ?_ | refine SubL.skip ?_ | exact SubL.nil)) : At c n S (RP c.w0 fr L' Ix .normal) := fun _ _ _ hs => hs.ent fun _ => hl.star
theorem At.rret {L : List HP} (hi : Ix .ret L) (hl : SubL S.L (L ++ [fr]) := by repeat (first | exact SubL.refl | refine SubL.cons (by repeat (first | exact Pick.here | apply Pick.there)) ?_ | refine SubL.skip ?_ | exact SubL.nil)) : At c n S (RP c.w0 fr L' Ix .ret) := fun _ _ _ hs => ⟨L, hi, hs.ent fun _ => hl.star⟩
theorem At.rexit {L : List HP} {id : Nat} (hi : Ix (.exit id) L) (hl : SubL S.L (L ++ [fr]) := by repeat (first | exact SubL.refl | refine SubL.cons (by repeat (first | exact Pick.here | apply Pick.there)) ?_ | refine SubL.skip ?_ | exact SubL.nil)) : At c n S (RP c.w0 fr L' Ix (.exit id)) := fun _ _ _ hs => ⟨L, hi, hs.ent fun _ => hl.star⟩

/-- The temporaries of a round. -/
def rndEnv (env : Env) : List Tmp → List Value → Env
  | p :: ps, v :: vs => rndEnv ((p, v) :: env) ps vs
  | _, _ => env

theorem rnd_rep : ∀ (ps : List Tmp) (vs : List Value) (env : Env) (tmps : Array Value) (L : List HP), (∀ p ∈ ps, p < tmps.size) → (∀ t v, look env t = some v → tmps[t]? = some v) →
    Rep tmps.size ⟨rndEnv env ps vs, L, []⟩ { tmps := (ps.zip vs).foldl (fun t x => t.setIfInBounds x.1 x.2) tmps, defers := [] }
  | [], _, _, _, _, _, h => ⟨rfl, rfl, h⟩
  | _ :: _, [], _, _, _, _, h => ⟨rfl, rfl, h⟩
  | p :: ps, v :: vs, env, tmps, L, hp, h => by
    have := rnd_rep ps vs ((p, v) :: env) (tmps.setIfInBounds p v) L (fun q hq => by simpa using hp q (List.mem_cons_of_mem _ hq)) (fun k u hk => by
      by_cases e : p = k
      · subst e
        rw [look_cons_same] at hk; cases hk
        have := hp p List.mem_cons_self
        simp [this]
      · rw [look_cons_ne e] at hk
        rw [Array.getElem?_setIfInBounds_ne e]; exact h k u hk)
    simpa [rndEnv] using this

theorem Star.perm1 {A : List HP} {x : HP} {f : Frag} (h : Star (A ++ [x]) f) : Star (x :: A) f := by
  induction A generalizing f with
  | nil => exact h
  | cons a A ih => exact Star.swap (Star.cons_mono (fun _ => ih) h)
theorem Star.perm1' {A : List HP} {x : HP} {f : Frag} (h : Star (x :: A) f) : Star (A ++ [x]) f := by
  induction A generalizing f with
  | nil => exact h
  | cons a A ih => exact Star.cons_mono (fun _ => ih) (Star.swap h)

theorem wpIn_false {F : Fence} {m : Nat} {P : Program} {x : Code} {Q Q' : Exit → Act → World → Prop} {a : Act} {w : World} (h : x.wpIn F m P Q a w) (hq : ∀ e a w, Q e a w → Q' e a w) : x.wpIn F m P Q' a w := wpIn_mono h hq

/-- One chunk for another, where it stands. -/
inductive Repl : List HP → HP → HP → List HP → Prop
  | here {a b : HP} {L : List HP} : Repl (a :: L) a b (b :: L)
  | there {a b x : HP} {L L' : List HP} (h : Repl L a b L') : Repl (x :: L) a b (x :: L')
theorem Repl.pick {a b : HP} {L L' : List HP} (h : Repl L a b L') : ∃ F, Pick L a F ∧ Pick L' b F := by
  induction h with
  | here => exact ⟨_, .here, .here⟩
  | there _ ih => obtain ⟨F, h1, h2⟩ := ih; exact ⟨_, .there h1, .there h2⟩

/-- The statement. The rounds' chunks: I j; the iterator's: Lit. -/
theorem At.range {g : Operand} {ps : List Tmp} {assign body : Code} {Q : Exit → Act → World → Prop} {gf : FuncId} {lb : List Value} {Lit : List HP} (xs : List (List Value)) (I : Nat → List HP) (Ix : Code → List HP → Prop) (hr0 : c.r = none) (hF : fnB c.P gf = true)
    (hg : opd S.env g = some (.func (.func gf) #[] lb.toArray) := by rfl) (hps : ∀ x ∈ xs, x.length = ps.length) (hpn : ps.all (fun p => decide (p < n)) = true := by rfl)
    (he : ∀ f, Star S.L f → Star (I 0 ++ Lit) f) (hit : SeqOk c.P c.w0 Lit gf lb xs)
    (hround : ∀ (l j : Nat) (args : List Value) (fr frb : HP) (X : Act → World → Prop), xs[j]? = some args →
      (∀ (S1 : St) (L1 : List HP), Repl S1.L fr frb L1 → S1.ds = [] → At { c with r := some l } n ⟨S1.env, L1, []⟩ (body.wpIn (FW (some l)) 0 c.P (RP c.w0 frb (I (j + 1)) Ix)) → At { c with r := some l } n S1 X) →
      At { c with r := some l } n ⟨rndEnv S.env ps args, I j ++ [fr], []⟩ (assign.wpIn (FW (some l)) 0 c.P (Exit.then X fun _ _ _ => False)))
    (hdone : ∀ D, At c n ⟨S.env, dfb D :: (I xs.length ++ Lit), mark D :: S.ds⟩ (Q .normal))
    (hstop : ∀ D cd L, Ix cd L → At c n ⟨S.env, dfb D :: (L ++ Lit), mark D :: S.ds⟩ (cd.wpIn (FW c.r) 0 c.P Q)) :
    At c n S ((Code.rangeFunc g ps.toArray assign body).wpIn (FW c.r) 0 c.P Q) := by
  intro a w hr hs
  refine wpIn_rangeFunc fun fn _ => ?_
  have hrr : (FW c.r).round = none := hr0
  rw [hrr]
  have hsz : a.tmps.size = n := hr.size
  obtain ⟨rec, hrec⟩ : ∃ rec : LoopState → Option Code → Loop, rec = fun st pe => { state := st, pending := pe, fn, tmps := a.tmps, params := ps.toArray, assign, body, defers := w.heap.size } := ⟨_, rfl⟩
  have hs1 : Sat c.w0 ((w.alloc (.deferred (some []))).alloc (.loop (rec .ready none))) (blk (w.heap.size + 1) (.loop (rec .ready none)) :: dfb w.heap.size :: S.L) := by
    have h1 : Sat c.w0 (w.alloc (.deferred (some []))) (dfb w.heap.size :: S.L) := hs.push (.deferred (some []))
    have h2 : Sat c.w0 ((w.alloc (.deferred (some []))).alloc (.loop (rec .ready none))) (blk (w.alloc (.deferred (some []))).heap.size (.loop (rec .ready none)) :: dfb w.heap.size :: S.L) := h1.push (.loop (rec .ready none))
    rw [World.size_alloc] at h2
    exact h2
  obtain ⟨D, hD⟩ : ∃ D, w.heap.size = D := ⟨_, rfl⟩
  obtain ⟨l, hl⟩ : ∃ l, D + 1 = l := ⟨_, rfl⟩
  refine ⟨w.heap.size + 1, [mark w.heap.size], (w.alloc (.deferred (some []))).alloc (.loop (rec .ready none)), { target := .fn (.func gf) lb.toArray, args := #[yieldV (w.heap.size + 1)] }, (w.alloc (.deferred (some []))).alloc (.loop (rec .ready none)), gf, (yieldV (w.heap.size + 1) :: lb).toArray, (w.alloc (.deferred (some []))).alloc (.loop (rec .ready none)), ?_, ?_, fun _ _ => trivial, ?_, fun h => (by cases h), ?_⟩
  · rw [hrec]; exact run_enterLoop_outer _ _ _ _ _
  · have : a.eval g = .func (.func gf) #[] lb.toArray := hr.opd hg
    have e2 : a.eval (.const (yieldV (w.heap.size + 1))) = yieldV (w.heap.size + 1) := rfl
    simp only [resolve, this]
    simp [e2, Deferred.ofValue]
  · simp [invoke, run_enter hF]
  subst hrec
  rw [hD, hl] at hs1 ⊢
  let rec' : LoopState → Option Code → Loop := fun st pe => { state := st, pending := pe, fn, tmps := a.tmps, params := ps.toArray, assign, body, defers := D }
  let J : Nat → HP := fun j => pack (blk l (.loop (rec' .ready none)) :: dfb D :: I j)
  let Jx : HP := exi fun x : { y : Code × List HP // Ix y.1 y.2 } => blk l (.loop (rec' .done (some x.1.1))) :: dfb D :: x.1.2
  have hY : ∀ j args, xs[j]? = some args → YOk c.P c.w0 l args (J j) (J (j + 1)) Jx := by
    intro j args hj F w1 hs1
    have hu : Sat c.w0 w1 (blk l (.loop (rec' .ready none)) :: dfb D :: (I j ++ F)) := hs1.mono fun _ h => Star.unpack (L1 := blk l (.loop (rec' .ready none)) :: dfb D :: I j) h
    have hl1 := hu.blk_at.1
    have hlen : args.toArray.size = (rec' .ready none).params.size := by
      have := hps args (List.mem_of_getElem? hj)
      simpa [rec'] using this
    refine ⟨_, _, _, _, run_yield hl1 hlen, ?_⟩
    refine roundIn_of_wpIn (F := FW none) trivial ?_
    let frA : HP := pack (blk l (.loop (rec' .ready none)) :: dfb D :: F)
    let frB : HP := pack (blk l (.loop (rec' .busy none)) :: dfb D :: F)
    have hin : Sat c.w0 w1 (I j ++ [frA]) := hu.mono fun f h => by
      refine Star.perm1' (Star.repack (L1 := blk l (.loop (rec' .ready none)) :: dfb D :: F) ?_)
      refine Star.cons_mono (fun _ => Star.cons_mono fun _ hh => ?_) h
      have h1 : Star (pack (I j) :: F) _ := Star.repack (L1 := I j) hh
      have h2 := Star.perm1' h1
      exact (by
        have h3 : Star (F ++ [pack (I j)]) _ := h2
        have h4 : Star (pack F :: [pack (I j)]) _ := Star.repack (L1 := F) h3
        have h5 : Star (pack (I j) :: [pack F]) _ := Star.swap h4
        have h6 : Star (I j ++ [pack F]) _ := Star.unpack (L1 := I j) h5
        have h7 : Star (pack F :: I j) _ := Star.perm1 h6
        exact Star.unpack (L1 := F) h7)
    have hrep := rnd_rep ps args S.env a.tmps (I j ++ [frA]) (fun p hp => by
      have := List.all_eq_true.1 hpn p hp
      rw [hsz]; exact of_decide_eq_true this) (fun t v h => hr.val t v h)
    rw [hsz] at hrep
    have key := hround l j args frA frB (fun a₁ w₁ => ∃ w₂, (Instr.beginRound l).run c.P w₁ = .ok () w₂ ∧ body.wpIn ((FW none).inRound l) 0 c.P (roundPost c.P l fun e w' => (e = .returned (.bool true) ∧ Sat c.w0 w' (J (j + 1) :: F)) ∨ (e = .returned (.bool false) ∧ Sat c.w0 w' (Jx :: F))) a₁ w₂) hj ?_ _ _ hrep hin
    · have e0 : ((rec' .ready none).params.zip args.toArray).foldl (fun tmps x => tmps.setIfInBounds x.1 x.2) (rec' .ready none).tmps = (ps.zip args).foldl (fun t x => t.setIfInBounds x.1 x.2) a.tmps := by
        simp [rec']
      exact e0 ▸ key
    · intro S1 L1 hrep1 hds1 hat a1 w2 hr1 hs2
      obtain ⟨F1, hp1, hp1'⟩ := hrep1.pick
      have hp2 : Sat c.w0 w2 (blk l (.loop (rec' .ready none)) :: dfb D :: (F ++ F1)) := (hs2.pick hp1).mono fun _ h => Star.unpack (L1 := blk l (.loop (rec' .ready none)) :: dfb D :: F) h
      have hl2 := hp2.blk_at.1
      have hlt : l < w2.heap.size := (Array.getElem?_eq_some_iff.1 hl2).1
      refine ⟨_, run_beginRound hl2 rfl, ?_⟩
      have ht : Sat c.w0 (w2.putObj l (.loop { rec' .ready none with state := .busy })) (blk l (.loop (rec' .busy none)) :: dfb D :: (F ++ F1)) :=
        hp2.turn rfl rfl rfl (by simp) (World.putObj_heap_same hlt) (fun k hk => World.putObj_heap_other hk)
      have hb : Sat c.w0 (w2.putObj l (.loop { rec' .ready none with state := .busy })) L1 := ht.mono fun f h => by
        refine hp1'.unstar ?_
        exact Star.repack (L1 := blk l (.loop (rec' .busy none)) :: dfb D :: F) h
      refine wpIn_mono (hat a1 _ ⟨hr1.size, hr1.ds.trans hds1, hr1.val⟩ hb) fun e a3 w3 hq => ?_
      have fin : ∀ (jump : Option Code) (L2 : List HP), Sat c.w0 w3 (L2 ++ [frB]) → ∃ w4, (Instr.endRound l jump).run c.P w3 = .ok (.bool jump.isNone) w4 ∧ Sat c.w0 w4 (blk l (.loop (rec' (if jump.isNone then .ready else .done) jump)) :: dfb D :: (F ++ L2)) := fun jump L2 h3 => by
        have hp3 : Sat c.w0 w3 (blk l (.loop (rec' .busy none)) :: dfb D :: (F ++ L2)) := h3.mono fun _ h => Star.unpack (L1 := blk l (.loop (rec' .busy none)) :: dfb D :: F) (Star.perm1 h)
        have hl3 := hp3.blk_at.1
        have hlt3 : l < w3.heap.size := (Array.getElem?_eq_some_iff.1 hl3).1
        exact ⟨_, run_endRound jump hl3, hp3.turn rfl rfl rfl (by simp) (World.putObj_heap_same hlt3) (fun k hk => World.putObj_heap_other hk)⟩
      have rot : ∀ (x y : HP) (L2 : List HP) f, Star (x :: y :: (F ++ L2)) f → Star (pack (x :: y :: L2) :: F) f := fun x y L2 f h => by
        refine Star.repack (L1 := x :: y :: L2) (Star.cons_mono (fun _ => Star.cons_mono fun _ hh => ?_) h)
        have h1 : Star (pack F :: L2) _ := Star.repack (L1 := F) hh
        have h2 : Star (L2 ++ [pack F]) _ := Star.perm1' h1
        have h3 : Star (pack L2 :: [pack F]) _ := Star.repack (L1 := L2) h2
        have h4 : Star (F ++ [pack L2]) _ := Star.unpack (L1 := F) (Star.swap h3)
        exact Star.unpack (L1 := L2) (Star.perm1 h4)
      have stop : ∀ (cd : Code) (L2 : List HP), Ix cd L2 → Sat c.w0 w3 (L2 ++ [frB]) → ∃ v w4, (Instr.endRound l (some cd)).run c.P w3 = .ok v w4 ∧ ((Ending.returned v = .returned (.bool true) ∧ Sat c.w0 w4 (J (j + 1) :: F)) ∨ (Ending.returned v = .returned (.bool false) ∧ Sat c.w0 w4 (Jx :: F))) := fun cd L2 hi h3 => by
        obtain ⟨w4, h4, h5⟩ := fin (some cd) L2 h3
        refine ⟨_, w4, h4, .inr ⟨rfl, h5.mono fun f h => ?_⟩⟩
        have := rot _ _ L2 f h
        exact Star.head_mono (fun _ hh => ⟨⟨(cd, L2), hi⟩, hh⟩) this
      cases e with
      | normal =>
        obtain ⟨w4, h4, h5⟩ := fin none _ hq
        exact ⟨_, w4, h4, .inl ⟨rfl, h5.mono fun f h => rot _ _ _ f h⟩⟩
      | ret => obtain ⟨L2, hi, h3⟩ := hq; exact stop _ L2 hi h3
      | exit id => obtain ⟨L2, hi, h3⟩ := hq; exact stop _ L2 hi h3
      | goto t => obtain ⟨L2, hi, h3⟩ := hq; exact stop _ L2 hi h3
      | panic ch => exact hq.elim
      | outgrown => exact hq.elim
  have hstart : Sat c.w0 ((w.alloc (.deferred (some []))).alloc (.loop (rec' .ready none))) (J 0 :: Lit) := by
    have h0 : Sat c.w0 ((w.alloc (.deferred (some []))).alloc (.loop (rec' .ready none))) (blk l (.loop (rec' .ready none)) :: dfb D :: S.L) := by
      exact hs1
    exact h0.mono fun f h => Star.repack (L1 := blk l (.loop (rec' .ready none)) :: dfb D :: I 0) (Star.cons_mono (fun _ => Star.cons_mono fun _ => he _) h)
  have hcall := hit l J Jx hY _ hstart
  have fin2 := (callsIn_wide (n := 0)).2 (hcall.mono (R' := rangePost (FW c.r) 0 c.P l Q { a with defers := [mark D] ++ a.defers }) ?_)
  · exact fin2
  · rintro e w' ⟨u, L', rfl, hL, hs'⟩
    rcases hL with rfl | rfl
    · have hu : Sat c.w0 w' (blk l (.loop (rec' .ready none)) :: dfb D :: (I xs.length ++ Lit)) := hs'.mono fun _ h => Star.unpack (L1 := blk l (.loop (rec' .ready none)) :: dfb D :: I xs.length) h
      have hl1 := hu.blk_at.1
      have hlt : l < w'.heap.size := (Array.getElem?_eq_some_iff.1 hl1).1
      refine ⟨none, _, run_endLoop hl1 (by simp [rec']), ?_⟩
      have ht := hu.turn (w' := w'.putObj l (.loop { rec' .ready none with state := .exhausted })) rfl rfl rfl (by simp) (World.putObj_heap_same hlt) (fun k hk => World.putObj_heap_other hk)
      exact hdone D _ _ ⟨hr.size, by simp [hr.ds], hr.val⟩ ht.tail
    · obtain ⟨⟨⟨cd, L2⟩, hi⟩, hx⟩ := Star.exi_elim hs'.star
      have hu : Sat c.w0 w' (blk l (.loop (rec' .done (some cd))) :: dfb D :: (L2 ++ Lit)) := ⟨hs'.bel, hx⟩
      have hl1 := hu.blk_at.1
      have hlt : l < w'.heap.size := (Array.getElem?_eq_some_iff.1 hl1).1
      refine ⟨some cd, _, run_endLoop hl1 (by simp [rec']), ?_⟩
      have ht := hu.turn (w' := w'.putObj l (.loop { rec' .done (some cd) with state := .exhausted })) rfl rfl rfl (by simp) (World.putObj_heap_same hlt) (fun k hk => World.putObj_heap_other hk)
      have := hstop D cd L2 hi { a with defers := mark D :: a.defers } _ ⟨hr.size, by simp [hr.ds], hr.val⟩ ht.tail
      exact this
end

/-! ### A function that holds such a loop -/
theorem enterM {P : Program} {w0 : World} {L : List HP} {f : FuncId} {fn : Func} {code : Code} {n : Nat} {args : List Value} {Φ : Value → List HP → Prop} (hf : P.funcs[f]? = some fn) (hb : fn.body = some code) (hn : fn.ntmps = n) (hle : args.length ≤ n)
    (h : At ⟨P, none, w0, fun _ _ _ => False, fun _ => false⟩ n ⟨envOf 0 args, L, []⟩ (code.wpIn (FW none) 0 P (bodyPostM (FW none) 0 P fn (Post w0 Φ fun _ _ => False)))) : CallOk P w0 L f args Φ := fun w hs => by
  have h1 : Calls P f args.toArray w (Post w0 Φ fun _ _ => False) := (callsIn_wide (n := 0)).1 (callsIn_of_wp_marks (F := Fence.wide) (c := code) hf hb trivial (h _ w ⟨by simp [hn]; omega, rfl, fun t v hv => by
    obtain ⟨_, h2⟩ := envOf_look args 0 t v hv
    rw [Nat.sub_zero] at h2
    have hlt : t < args.length := (List.getElem?_eq_some_iff.1 h2).1
    show (args.toArray ++ Array.replicate (fn.ntmps - args.toArray.size) undef)[t]? = some v
    rw [Array.getElem?_append_left (by simpa using hlt)]
    simpa using h2⟩ hs))
  exact h1.mono fun _ _ he => by
    rcases he with he | ⟨_, _, he⟩
    · exact he
    · exact he.elim

/-- The marks, each with its block. -/
inductive MarksIn : List Deferred → List HP → List HP → Prop
  | nil {L : List HP} : MarksIn [] L L
  | cons {D : Nat} {ds : List Deferred} {L F L2 : List HP} (h : Pick L (dfb D) F) (k : MarksIn ds F L2) : MarksIn (mark D :: ds) L L2

theorem MarksIn.leaves {P : Program} {w0 : World} {fn : Func} {rs : List ResultVar} {vs : List Value} {env : Env} {Φ : Value → List HP → Prop} {E : List PanicEntry → World → Prop} {tmps : Array Value} {L' : List HP} {ds : List Deferred} {L L2 : List HP} (hm : MarksIn ds L L2)
    (hk : ∀ t v, look env t = some v → tmps[t]? = some v) (hrs : fn.results = rs.toArray) (hres : ResR P w0 ⟨env, L2, []⟩ rs vs) (hΦ : Φ (tupleOf vs) L') (hl : SubL L2 L') : ∀ {w : World}, Sat w0 w L → LeavesInM (FW none) 0 P fn tmps (Post w0 Φ E) ds .returning w := by
  induction hm with
  | nil =>
    intro w hs
    have hrun := ResR.results (n := tmps.size) (a := { tmps := tmps, defers := [] }) hrs hres ⟨rfl, rfl, hk⟩ hs
    exact ⟨tupleOf vs, hrun, .inl ⟨_, L', rfl, hΦ, hs.ent fun _ => hl.star⟩⟩
  | @cons D ds L F L2 h k ih =>
    intro w hs
    have hp := hs.pick h
    have hd := hp.blk_at.1
    have hlt : D < w.heap.size := (Array.getElem?_eq_some_iff.1 hd).1
    refine ⟨by simp, .inl ⟨D, _, rfl, run_takeDeferred hd, ih hres hl ?_⟩⟩
    have ht := hp.turn (w' := w.putObj D (.deferred none)) rfl rfl rfl (by simp) (World.putObj_heap_same hlt) (fun k hk => World.putObj_heap_other hk)
    exact ht.tail

section
variable {c : Cx} {n : Nat} {S : St} {P : Program} {fn : Func} {Φ : Value → List HP → Prop} {E : List PanicEntry → World → Prop} {rs : List ResultVar} {vs : List Value}
/-- The return. -/
theorem At.doneM {L2 L' : List HP} (hm : MarksIn S.ds S.L L2 := by repeat (first | exact MarksIn.nil | refine MarksIn.cons (by repeat (first | exact Pick.here | apply Pick.there)) ?_)) (hrs : fn.results = rs.toArray := by rfl) (hres : ResR c.P c.w0 ⟨S.env, L2, []⟩ rs vs := by repeat (first | exact ResR.nil | (apply ResR.tmp; rfl))) (hΦ : Φ (tupleOf vs) L') (hl : SubL L2 L' := by repeat (first | exact SubL.refl | refine SubL.cons (by repeat (first | exact Pick.here | apply Pick.there)) ?_ | refine SubL.skip ?_ | exact SubL.nil)) : At c n S (bodyPostM (FW none) 0 c.P fn (Post c.w0 Φ E) .ret) := fun a w hr hs => by
  show LeavesInM (FW none) 0 c.P fn a.tmps (Post c.w0 Φ E) a.defers .returning w
  rw [hr.ds]
  exact hm.leaves hr.val hrs hres hΦ hl hs
theorem At.doneMN {L2 L' : List HP} (hm : MarksIn S.ds S.L L2 := by repeat (first | exact MarksIn.nil | refine MarksIn.cons (by repeat (first | exact Pick.here | apply Pick.there)) ?_)) (hrs : fn.results = rs.toArray := by rfl) (hres : ResR c.P c.w0 ⟨S.env, L2, []⟩ rs vs := by repeat (first | exact ResR.nil | (apply ResR.tmp; rfl))) (hΦ : Φ (tupleOf vs) L') (hl : SubL L2 L' := by repeat (first | exact SubL.refl | refine SubL.cons (by repeat (first | exact Pick.here | apply Pick.there)) ?_ | refine SubL.skip ?_ | exact SubL.nil)) : At c n S (bodyPostM (FW none) 0 c.P fn (Post c.w0 Φ E) .normal) := fun a w hr hs => by
  show LeavesInM (FW none) 0 c.P fn a.tmps (Post c.w0 Φ E) a.defers .returning w
  rw [hr.ds]
  exact hm.leaves hr.val hrs hres hΦ hl hs
end
end Go.Sx
