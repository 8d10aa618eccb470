/- The rules on slices: append, make, build, copy, clear; elements' places. No condition. -/
import Derived.Test.YtllpfpdanonhkaaSxRow
namespace Go.Sx
open Go.RowKit

theorem Star.unapp : ∀ {L G : List HP} {f : Frag}, Star (L ++ G) f → Star L f
  | [], _, _, _ => trivial
  | _ :: _, _, _, ⟨h1, hl, hc, hs⟩ => ⟨h1, hl, hc, Star.unapp hs⟩

section
variable {c : Cx} {ops : Array Oper} {un : Nat → Nat → Bool} {K : St → Prop} {i : Nat} {rest : List (Nat × Nat × Oper)} {fs : Fs} {env : Env} {L : List HP} {ds : List Deferred}
variable {d : Tmp} {x y z : Operand} {ty t t2 : TypeId} {pos : String} {af : Array Edge} {g : Option (Nat × Bool)}

/-- The last value, said otherwise. -/
theorem Run.eqv {v v' : Value} {L : List HP} {l : List (Nat × Nat × Oper)} (e : v = v') (h : Run c ops un K l fs ⟨(d, v') :: env, L, ds⟩) : Run c ops un K l fs ⟨(d, v) :: env, L, ds⟩ := by subst e; exact h
theorem Run.eqi {k : IntKind} {a b : Int} {L : List HP} {l : List (Nat × Nat × Oper)} (e : a = b) (h : Run c ops un K l fs ⟨(d, .int k b) :: env, L, ds⟩) : Run c ops un K l fs ⟨(d, .int k a) :: env, L, ds⟩ := by subst e; exact h
/-- The chunks, said otherwise. -/
theorem Run.chunks {L' : List HP} {l : List (Nat × Nat × Oper)} (hl : ∀ f, Star L f → Star L' f) (h : Run c ops un K l fs ⟨env, L', ds⟩) (hK : ∀ S S2, Ent S2 S → K S → K S2 := by first | exact fun _ _ he h => At.ent he h | exact ScEnd.closed) : Run c ops un K l fs ⟨env, L, ds⟩ :=
  Run.closed hK l fs fs ⟨env, L', ds⟩ ⟨env, L, ds⟩ ⟨fun _ _ h => h, hl, rfl⟩ (fun _ h => h) h

/-- An element's place. -/
theorem Run.iaR {ao : Option Addr} {n cp sz j : Nat} {e : TypeId} {k : IntKind} {jv : Int} {l : List (List Value)} (ht : slcB c.P t = some (e, sz)) (hx : opd env x = some (.slice ao n cp) := by rfl) (hy : opd env y = some (.int k jv) := by rfl) (hg : gok ops env g = true := by rfl)
    (hR : RdS c.w0 L sz ao l) (hj : jv = (j : Int)) (h1 : j < l.length) (hn : j < n) (h : Run c ops un K rest fs ⟨(d, .pointer (some (plus (adr ao) (j * sz)))) :: env, L, ds⟩) : Run c ops un K ((i, 0, ⟨some d, .indexAddr t x y, ty, pos, af, g⟩) :: rest) fs ⟨env, L, ds⟩ := by
  rcases hR.base with rfl | ⟨a, rfl⟩
  · simp at h1
  · subst hj
    exact Run.ia (ht := ht) (hx := hx) (hy := hy) (hg := hg) (h0 := by omega) (h1 := by omega) (hs := hR.plain (by omega) a rfl) (h := by simpa [adr] using h)

/-- A load of the first cell of an element, or of one further on. -/
theorem Run.ldr {ao : Option Addr} {sz j o : Nat} {l : List (List Value)} {cs : List Value} {v : Value} (ht : aggB c.P t = some false) (hx : opd env x = some (.pointer (some (plus (plus (adr ao) (j * sz)) o))) := by rfl) (hg : gok ops env g = true := by rfl)
    (hR : RdS c.w0 L sz ao l) (hj : l[j]? = some cs) (hv : cs[o]? = some v := by rfl) (h : Run c ops un K rest ((i, fun w => (execOp (rho env) ⟨some d, .load t x, ty, pos, af, g⟩).run c.P w = .ok (.value v) w) :: fs) ⟨(d, v) :: env, L, ds⟩) : Run c ops un K ((i, 1, ⟨some d, .load t x, ty, pos, af, g⟩) :: rest) fs ⟨env, L, ds⟩ := by
  have e : plus (plus (adr ao) (j * sz)) o = plus (adr ao) (j * sz + o) := by simp [plus, Nat.add_assoc]
  exact Run.ldx ht (hR.cel j cs hj o v hv) (by rw [hx, e]) hg h
theorem Run.ldr0 {ao : Option Addr} {sz j : Nat} {l : List (List Value)} {cs : List Value} {v : Value} (ht : aggB c.P t = some false) (hx : opd env x = some (.pointer (some (plus (adr ao) (j * sz)))) := by rfl) (hg : gok ops env g = true := by rfl)
    (hR : RdS c.w0 L sz ao l) (hj : l[j]? = some cs) (hv : cs[0]? = some v := by rfl) (h : Run c ops un K rest ((i, fun w => (execOp (rho env) ⟨some d, .load t x, ty, pos, af, g⟩).run c.P w = .ok (.value v) w) :: fs) ⟨(d, v) :: env, L, ds⟩) : Run c ops un K ((i, 1, ⟨some d, .load t x, ty, pos, af, g⟩) :: rest) fs ⟨env, L, ds⟩ :=
  Run.ldr (o := 0) (ht := ht) (hx := by rw [hx]; rfl) (hg := hg) (hR := hR) (hj := hj) (hv := hv) (h := h)
/-- A load of a whole element. -/
theorem Run.ldrA {ao : Option Addr} {sz j : Nat} {l : List (List Value)} {cs : List Value} (ht : aggB c.P t = some true) (hx : opd env x = some (.pointer (some (plus (adr ao) (j * sz)))) := by rfl) (hg : gok ops env g = true := by rfl)
    (hn : szB c.P t = some sz) (hR : RdS c.w0 L sz ao l) (hj : l[j]? = some cs) (h : Run c ops un K rest ((i, fun w => (execOp (rho env) ⟨some d, .load t x, ty, pos, af, g⟩).run c.P w = .ok (.value (.agg cs.toArray)) w) :: fs) ⟨(d, .agg cs.toArray) :: env, L, ds⟩) : Run c ops un K ((i, 1, ⟨some d, .load t x, ty, pos, af, g⟩) :: rest) fs ⟨env, L, ds⟩ := by
  have h1 := (hR.els cs (List.mem_of_getElem? hj)).1
  refine Run.ldxA ht (by rw [hn, h1]) (fun k v hv => ?_) rfl hx rfl hg h
  have e : plus (plus (adr ao) (j * sz)) k = plus (adr ao) (j * sz + k) := by simp [plus, Nat.add_assoc]
  rw [e]
  exact hR.cel j cs hj k v hv

/-! ### append -/
theorem append_wpIn {o : Oper} {a : Act} {w : World} {ds : List Deferred} {at' : Array TypeId} {vx vy : Value} {Kx : Act → World → Prop} (ho : o.op = .call { callee := .builtin .append, args := #[x, y], argTypes := at' }) (hx : a.eval x = vx) (hy : a.eval y = vy) {v : Value} {w' : World}
    (hrun : (Builtin.append_ at' o.type #[vx, vy]).run c.P w = .ok v w') (hk : Kx (a.put o.dst v) w') : o.wpIn (FW c.r) 0 c.P a w Kx (c.Q a ds) := by
  refine ⟨?_, ?_⟩
  · simp [Oper.about, ho, resolve, Target.leads, Sem.run_pure]
  · rw [Oper.semAt_eq _ _ _ (by rw [ho]; simp)]
    have : (execOp a.eval o).run c.P w = .ok (.value v) w' := by
      simp [execOp, ho, resolve, invoke, builtin, hx, hy, hrun]
    rw [this]
    exact hk

theorem Run.ap {ao bo : Option Addr} {n m cp cq sz by' : Nat} {e : TypeId} {zl : List Value} {F : List HP} {l xs l2 : List (List Value)} {n2 : Nat} (ht : elB c.P t = some (e, zl, sz, by')) (hx : opd env x = some (.slice ao n cp) := by rfl) (hy : opd env y = some (.slice bo m cq) := by rfl) (hp : Pick L (row e sz ao cp l) F := by repeat (first | exact Pick.here | apply Pick.there)) (hg : gok ops env g = true := by rfl)
    (hR : RdS c.w0 L sz bo xs) (hlen : l.length + xs.length ≤ maxLen) (hby : (l.length + xs.length) * by' ≤ 140737488355328) (hn : n = l.length := by first | rfl | simp) (hm : m = xs.length := by first | rfl | simp) (hl2 : l ++ xs = l2 := by rfl) (hn2 : l.length + xs.length = n2 := by rfl) (hk : ∀ e' ∈ fs, un e'.1 i = true → ∀ ao' cp' w, Sat c.w0 w (row e sz ao' cp' l2 :: F) → e'.2 w := by (intro _ _ hq; cases hq)) (h : ∀ ao' cp', Run c ops un K rest fs ⟨(d, .slice ao' n2 cp') :: env, row e sz ao' cp' l2 :: F, ds⟩) : Run c ops un K ((i, 3, ⟨some d, .call { callee := .builtin .append, args := #[x, y], argTypes := #[t, t] }, ty, pos, af, g⟩) :: rest) fs ⟨env, L, ds⟩ := by
  subst hl2 hn2
  subst hn hm
  refine .inl ⟨defd_of (by simp [Op.operands, Call.operands, hx, hy]) (.inl hg), by simp, gok_wanted hg, by simp, fun u L' => ∃ ao' cp', u = .slice ao' (l.length + xs.length) cp' ∧ L' = row e sz ao' cp' (l ++ xs) :: F, fun a w ha _ hs => ?_, fun _ => ⟨_, _, none, 0, rfl, rfl⟩, fun e' he hu u L' ⟨ao', cp', _, hL⟩ w hw => by subst hL; exact hk e' he hu ao' cp' w hw, fun u L' ⟨ao', cp', hu, hL⟩ => by subst hu hL; exact h ao' cp'⟩
  obtain ⟨ao', cp', w', hrun, hs'⟩ := app_run (ty := ty) (c := cq) ht hp hR hs hlen hby
  have hev := ha.eval
  have e1 : a.eval x = .slice ao l.length cp := (hev x (by simp [Op.operands, Call.operands])).trans (rho_of hx)
  have e2 : a.eval y = .slice bo xs.length cq := (hev y (by simp [Op.operands, Call.operands])).trans (rho_of hy)
  exact append_wpIn rfl e1 e2 hrun ⟨_, _, rfl, ⟨ao', cp', rfl, rfl⟩, hs'⟩
/-- The same, whatever else lies there. -/
theorem Run.ap4 {ao bo : Option Addr} {n m cp cq sz by' : Nat} {e : TypeId} {zl : List Value} {F : List HP} {l xs l2 : List (List Value)} {n2 : Nat} (ht : elB c.P t = some (e, zl, sz, by')) (hx : opd env x = some (.slice ao n cp) := by rfl) (hy : opd env y = some (.slice bo m cq) := by rfl) (hp : Pick L (row e sz ao cp l) F := by repeat (first | exact Pick.here | apply Pick.there)) (hg : gok ops env g = true := by rfl)
    (hR : RdS c.w0 L sz bo xs) (hlen : l.length + xs.length ≤ maxLen) (hby : (l.length + xs.length) * by' ≤ 140737488355328) (hn : n = l.length := by first | rfl | simp) (hm : m = xs.length := by first | rfl | simp) (hl2 : l ++ xs = l2 := by rfl) (hn2 : l.length + xs.length = n2 := by rfl) (hk : ∀ e' ∈ fs, un e'.1 i = true → ∀ ao' cp' w, Sat c.w0 w (row e sz ao' cp' l2 :: F) → e'.2 w := by (intro _ _ hq; cases hq)) (h : ∀ ao' cp', Run c ops un K rest fs ⟨(d, .slice ao' n2 cp') :: env, row e sz ao' cp' l2 :: F, ds⟩) : Run c ops un K ((i, 4, ⟨some d, .call { callee := .builtin .append, args := #[x, y], argTypes := #[t, t] }, ty, pos, af, g⟩) :: rest) fs ⟨env, L, ds⟩ := by
  subst hl2 hn2
  subst hn hm
  refine .inl ⟨defd_of (by simp [Op.operands, Call.operands, hx, hy]) (.inl hg), by simp, gok_wanted hg, by simp, fun u L' => ∃ ao' cp', u = .slice ao' (l.length + xs.length) cp' ∧ L' = row e sz ao' cp' (l ++ xs) :: F, fun G a w ha _ hs => ?_, fun _ => ⟨_, _, none, 0, rfl, rfl⟩, fun e' he hu u L' ⟨ao', cp', _, hL⟩ w hw => by subst hL; exact hk e' he hu ao' cp' w hw, fun u L' ⟨ao', cp', hu, hL⟩ => by subst hu hL; exact h ao' cp'⟩
  have happ : ∀ f, Star (L ++ G) f → Star L f := fun f hf => Star.unapp hf
  obtain ⟨ao', cp', w', hrun, hs'⟩ := app_run (ty := ty) (c := cq) ht (hp.app G) (hR.ent happ) hs hlen hby
  have hev := ha.eval
  have e1 : a.eval x = .slice ao l.length cp := (hev x (by simp [Op.operands, Call.operands])).trans (rho_of hx)
  have e2 : a.eval y = .slice bo xs.length cq := (hev y (by simp [Op.operands, Call.operands])).trans (rho_of hy)
  exact append_wpIn rfl e1 e2 hrun ⟨_, _, rfl, ⟨ao', cp', rfl, rfl⟩, hs'⟩

/-! ### make -/
theorem madeCells_rep {z : Array Value} {sz : Nat} (hz : z.size = sz) : ∀ n, (madeCells z (n * sz)).toList = (List.replicate n z.toList).flatten
  | 0 => by simp [madeCells]
  | n + 1 => by
    have ih := madeCells_rep hz n
    rw [List.replicate_succ', List.flatten_append, ← ih]
    apply List.ext_getElem?
    intro j
    have e1 : ((madeCells z (n * sz)).toList).length = n * sz := by simp [madeCells]
    by_cases hj : j < n * sz
    · rw [List.getElem?_append_left (by omega)]
      have : j < (n + 1) * sz := by rw [Nat.succ_mul]; omega
      simp [madeCells, hj, this]
    · rw [List.getElem?_append_right (by omega), e1]
      by_cases hj2 : j < (n + 1) * sz
      · have h3 : j - n * sz < sz := by rw [Nat.succ_mul] at hj2; omega
        have h4 : j % sz = j - n * sz := by
          have : j = (j - n * sz) + n * sz := by omega
          rw [this, Nat.add_mul_mod_self_right, Nat.mod_eq_of_lt (by omega)]; omega
        simp [madeCells, hj2, hz, h4, h3]
      · have h3 : ¬ j - n * sz < sz := by rw [Nat.succ_mul] at hj2; omega
        have h5 : z.size ≤ j - n * sz := by omega
        simp [madeCells, hj2, h5]

theorem Run.mk {n sz by' : Nat} {k k' : IntKind} {a b : Int} {e : TypeId} {zl : List Value} (ht : elB c.P t = some (e, zl, sz, by')) (hx : opd env x = some (.int k a) := by rfl) (hy : opd env y = some (.int k' b) := by rfl) (hg : gok ops env g = true := by rfl)
    (hz1 : ∀ v ∈ zl, v.oneCell' = true) (ha : a = (n : Int)) (hb : b = (n : Int)) (hlen : n ≤ maxLen) (hby : by' * n ≤ 281474976710656) (h : ∀ q, Run c ops un K rest fs ⟨(d, .slice (some ⟨q, 0, none⟩) n n) :: env, row e sz (some ⟨q, 0, none⟩) n (List.replicate n zl) :: L, ds⟩) (hK : ∀ S S2, Ent S2 S → K S → K S2 := by first | exact fun _ _ he h => At.ent he h | exact ScEnd.closed) : Run c ops un K ((i, 2, ⟨some d, .makeSlice t x y, ty, pos, af, g⟩) :: rest) fs ⟨env, L, ds⟩ := by
  obtain ⟨hu, inf, zv, hi, hz, rfl, rfl, hzs, hsz, rfl⟩ := elB_spec ht
  subst ha hb
  refine Run.news (ob := .cells (madeCells zv.cells (n * inf.size)) e (0, 0)) (val := fun q => .slice (some ⟨q, 0, none⟩) n n) (by simp [Op.operands, hx, hy]) (by simp) (by simp) hg (fun w => ?_) fun q => ?_
  · have hr := run_make (P := c.P) w t e inf zv hu hi hz k k' n n (by omega) (Int.le_refl _) (by rw [← Int.natCast_mul]; omega) (by simp only [maxLen] at hlen; omega)
    simp only [Int.toNat_natCast] at hr
    simp [execOp, rho_of hx, rho_of hy, hr]
  · refine Run.closed hK rest fs fs ⟨(d, .slice (some ⟨q, 0, none⟩) n n) :: env, row e inf.size (some ⟨q, 0, none⟩) n (List.replicate n zv.cells.toList) :: L, ds⟩ _ ⟨fun _ _ h => h, fun f hf => ?_, rfl⟩ (fun _ h => h) (h q)
    obtain ⟨f1, hl, hb, hst⟩ := hf
    refine ⟨f1, hl, ⟨Els.rep ⟨by simpa using hzs, hz1⟩, .inr ⟨q, _, rfl, hb, by simp, hlen, by simp [madeCells], ?_⟩⟩, hst⟩
    rw [← madeCells_rep hzs]
    apply List.take_of_length_le
    simp [madeCells]
end
end Go.Sx
