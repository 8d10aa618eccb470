/- Neighbours that may change places, and so: one order walked serves every order that is open. No condition. -/
import Derived.Test.YtllpfpdanonhkaaSxRun
namespace Go.Sx
open Go.RowKit

section
variable {c : Cx} {ops : Array Oper} {un : Nat → Nat → Bool}

/-- May two operations, the first walked ahead of the second, come the other way round? -/
def okPair (ops : Array Oper) (x y : Nat × Nat × Oper) : Bool :=
  x.2.2.apart ops y.2.2 &&
  match x.2.1, y.2.1 with
  | 0, 0 | 0, 1 | 0, 2 | 0, 3 | 0, 4 | 1, 0 | 2, 0 | 3, 0 | 4, 0 => true
  | 1, 1 | 1, 2 | 2, 2 | 4, 2 | 1, 3 | 1, 4 => true
  | _, _ => false

theorem look_put_apart {x y : Oper} (h : ∀ d, x.dst = some d → d ∉ y.looksAt ops) (env : Env) (L : List HP) (ds : List Deferred) (v : Value) :
    ∀ t ∈ y.looksAt ops, look (St.put ⟨env, L, ds⟩ x.dst v).env t = look env t := fun t ht => by
  cases hd : x.dst with
  | none => rfl
  | some d =>
    have hne : d ≠ t := fun e => h d hd (e ▸ ht)
    exact look_cons_ne hne

theorem ent_put_comm (S : St) {d e : Option Tmp} (v u : Value) (h : ∀ t, d = some t → e ≠ some t) : Ent ((S.put d v).put e u) ((S.put e u).put d v) := by
  refine ⟨fun k z hk => ?_, ?_, ?_⟩
  · cases d with
    | none => exact hk
    | some d =>
      cases e with
      | none => exact hk
      | some e =>
        have hne : d ≠ e := fun he => h d rfl (by rw [he])
        simp only [St.put] at hk ⊢
        by_cases h1 : e = k
        · subst h1
          rw [look_cons_ne hne, look_cons_same] at hk
          rw [look_cons_same]; exact hk
        · rw [look_cons_ne h1]
          by_cases h2 : d = k
          · subst h2; rw [look_cons_same] at hk ⊢; exact hk
          · rw [look_cons_ne h2, look_cons_ne h1] at hk; rw [look_cons_ne h2]; exact hk
  · cases d <;> cases e <;> exact fun f h => h
  · cases d <;> cases e <;> rfl

theorem ent_put_commL (S : St) (L : List HP) {d e : Option Tmp} (v u : Value) (h : ∀ t, d = some t → e ≠ some t) : Ent ({ (S.put d v) with L := L }.put e u) (({ S with L := L }.put e u).put d v) := by
  have := ent_put_comm { S with L := L } v u h
  cases d <;> exact this

theorem St.put_L (S : St) (L : List HP) (d : Option Tmp) (v : Value) : ({ S with L := L } : St).put d v = { (S.put d v) with L := L } := by cases d <;> rfl
theorem St.put_Leq (S : St) (d : Option Tmp) (v : Value) : (S.put d v).L = S.L := by cases d <;> rfl
theorem St.put_ds (S : St) (d : Option Tmp) (v : Value) : (S.put d v).ds = S.ds := by cases d <;> rfl
theorem St.eta_L (S : St) : ({ S with L := S.L } : St) = S := rfl

theorem defd_iff {env env2 : Env} {o : Oper} (h : ∀ t ∈ o.looksAt ops, look env2 t = look env t) : defd ops o env2 = true ↔ defd ops o env = true :=
  ⟨fun hd => defd_of_look (fun t ht => (h t ht).symm) hd, defd_of_look h⟩

theorem calmE_iff {env env2 : Env} {o : Oper} {v : Value} (h : ∀ t ∈ o.looksAt ops, look env2 t = look env t) (hs : ∀ cs b, o.op ≠ .select cs b) : calmE c ops o env2 v ↔ calmE c ops o env v := by
  unfold calmE
  rw [wanted_of_look (o := o) h, rho_of_look h hs]

/-- A calm operation may be taken first. -/
theorem swap_calm {x y : Nat × Nat × Oper} {fs : Fs} {S : St} {C : Fs → St → Prop} (hC : Closed C) (hst : c.strict x.1 = true) (hap : x.2.2.apart ops y.2.2 = true) (hy : y.2.1 = 0) (hx : x.2.1 ≤ 4)
    (h : Step1 c ops un x fs S (fun fs1 S1 => Step1 c ops un y fs1 S1 C)) : Step1 c ops un y fs S (fun fs2 S2 => Step1 c ops un x fs2 S2 C) := by
  obtain ⟨a1, a2, a3⟩ := Oper.apart_spec hap
  obtain ⟨i, k, ox⟩ := x
  obtain ⟨j, ky, oy⟩ := y
  obtain rfl : ky = 0 := hy
  obtain ⟨hd, hs, h⟩ := h
  -- what y looks at, and what it yields, hangs on S alone
  have ey : ∀ (L : List HP) (ds : List Deferred) (v : Value), ∀ t ∈ oy.looksAt ops, look (St.put ⟨S.env, L, ds⟩ ox.dst v).env t = look S.env t := fun L ds v => look_put_apart (x := ox) (y := oy) a1 S.env L ds v
  have ex : ∀ (v : Value), ∀ t ∈ ox.looksAt ops, look (S.put oy.dst v).env t = look S.env t := fun v => look_put_apart (x := oy) (y := ox) a3 S.env S.L S.ds v
  have hxE : ∀ v, execOp (rho (S.put oy.dst v).env) ox = execOp (rho S.env) ox := fun v => rho_of_look (ex v) hs
  have hxW : ∀ v, Region.wanted ox (yieldE ops (S.put oy.dst v).env) = Region.wanted ox (yieldE ops S.env) := fun v => wanted_of_look (ex v)
  have hcomm : ∀ v u, Ent ((S.put oy.dst v).put ox.dst u) ((S.put ox.dst u).put oy.dst v) := fun v u => ent_put_comm S v u (fun t ht he => a2 t he ht)
  match k, hx, h with
  | 0, _, ⟨u, hc, hnd, hdy, hsy, v, hcy, hndy, hr⟩ =>
    refine ⟨(defd_iff (ey _ _ _)).1 hdy, hsy, v, (calmE_iff (ey _ _ _) hsy).1 hcy, hndy, (defd_iff (ex v)).2 hd, hs, u, (calmE_iff (ex v) hs).2 hc, hnd, ?_⟩
    exact hC _ _ _ _ (hcomm v u) (fun _ h => h) hr
  | 1, _, ⟨hw, hnd, u, hv, hdy, hsy, v, hcy, hndy, hr⟩ =>
    refine ⟨(defd_iff (ey _ _ _)).1 hdy, hsy, v, (calmE_iff (ey _ _ _) hsy).1 hcy, hndy, (defd_iff (ex v)).2 hd, hs, by rw [hxW]; exact hw, hnd, u, fun w hsat => by rw [hxE]; exact hv w (by rw [← St.put_Leq S oy.dst v]; exact hsat), ?_⟩
    rw [hxE]
    exact hC _ _ _ _ (hcomm v u) (fun _ h => h) hr
  | 2, _, ⟨hw, hnd, ob, val, hv, hr⟩ =>
    obtain ⟨hdy, hsy, v, hcy, hndy, _⟩ := hr 0
    have hcy' := (calmE_iff (ey _ _ _) hsy).1 hcy
    refine ⟨(defd_iff (ey _ _ _)).1 hdy, hsy, v, hcy', hndy, (defd_iff (ex v)).2 hd, hs, by rw [hxW]; exact hw, hnd, ob, val, fun w => by rw [hxE]; exact hv w, fun g => ?_⟩
    obtain ⟨_, _, v', hcg, _, hrg⟩ := hr g
    have hv' : v' = v := calm_one ((calmE_iff (ey _ _ _) hsy).1 hcg) hcy'
    subst hv'
    refine hC _ _ _ _ ?_ (fun _ h => h) hrg
    rw [St.put_Leq]
    exact ent_put_commL S _ v' (val g) (fun t ht he => a2 t he ht)
  | 3, _, ⟨hw, hnd, Φ, hv, hin, hk, hr⟩ =>
    obtain ⟨u0, L0, hp0⟩ := hin hst
    obtain ⟨hdy, hsy, v, hcy, hndy, _⟩ := hr u0 L0 hp0
    have hcy' := (calmE_iff (ey _ _ _) hsy).1 hcy
    refine ⟨(defd_iff (ey _ _ _)).1 hdy, hsy, v, hcy', hndy, (defd_iff (ex v)).2 hd, hs, by rw [hxW]; exact hw, hnd, Φ, fun a w ha hds hsat => ?_, hin, hk, fun u L' hp => ?_⟩
    · rw [St.put_ds] at hds ⊢
      rw [St.put_Leq] at hsat
      exact hv a w (ha.of_look (ex v)) hds hsat
    · obtain ⟨_, _, v', hcg, _, hrg⟩ := hr u L' hp
      have hv' : v' = v := calm_one ((calmE_iff (ey _ _ _) hsy).1 hcg) hcy'
      subst hv'
      refine hC _ _ _ _ ?_ (fun _ h => h) hrg
      exact ent_put_commL S _ v' u (fun t ht he => a2 t he ht)
  | 4, _, ⟨hw, hnd, Φ, hv, hin, hk, hr⟩ =>
    obtain ⟨u0, L0, hp0⟩ := hin hst
    obtain ⟨hdy, hsy, v, hcy, hndy, _⟩ := hr u0 L0 hp0
    have hcy' := (calmE_iff (ey _ _ _) hsy).1 hcy
    refine ⟨(defd_iff (ey _ _ _)).1 hdy, hsy, v, hcy', hndy, (defd_iff (ex v)).2 hd, hs, by rw [hxW]; exact hw, hnd, Φ, fun F a w ha hds hsat => ?_, hin, hk, fun u L' hp => ?_⟩
    · rw [St.put_ds] at hds ⊢
      rw [St.put_Leq] at hsat
      exact hv F a w (ha.of_look (ex v)) hds hsat
    · obtain ⟨_, _, v', hcg, _, hrg⟩ := hr u L' hp
      have hv' : v' = v := calm_one ((calmE_iff (ey _ _ _) hsy).1 hcg) hcy'
      subst hv'
      refine hC _ _ _ _ ?_ (fun _ h => h) hrg
      exact ent_put_commL S _ v' u (fun t ht he => a2 t he ht)
where
  calm_one {o : Oper} {env : Env} {v u : Value} (h : calmE c ops o env v) (k : calmE c ops o env u) : v = u := by
    rcases h with ⟨h1, h2⟩ | ⟨h1, h2⟩ <;> rcases k with ⟨k1, k2⟩ | ⟨k1, k2⟩
    · have := (h2 default).symm.trans (k2 default)
      simpa using this
    · rw [h1] at k1; cases k1
    · rw [h1] at k1; cases k1
    · rw [h2, k2]

/-- A calm operation may be put off. -/
theorem swap_calm2 {x y : Nat × Nat × Oper} {fs : Fs} {S : St} {C : Fs → St → Prop} (hC : Closed C) (hap : x.2.2.apart ops y.2.2 = true) (hx : x.2.1 = 0) (hy : y.2.1 ≤ 4)
    (h : Step1 c ops un x fs S (fun fs1 S1 => Step1 c ops un y fs1 S1 C)) : Step1 c ops un y fs S (fun fs2 S2 => Step1 c ops un x fs2 S2 C) := by
  obtain ⟨a1, a2, a3⟩ := Oper.apart_spec hap
  obtain ⟨i, k, ox⟩ := x
  obtain ⟨j, ky, oy⟩ := y
  obtain rfl : k = 0 := hx
  obtain ⟨hd, hs, u, hc, hnd, hdy, hsy, h⟩ := h
  have ey : ∀ t ∈ oy.looksAt ops, look (S.put ox.dst u).env t = look S.env t := look_put_apart (x := ox) (y := oy) a1 S.env S.L S.ds u
  have ex : ∀ (S' : St) (v : Value), ∀ t ∈ ox.looksAt ops, look (S'.put oy.dst v).env t = look S'.env t := fun S' v => look_put_apart (x := oy) (y := ox) a3 S'.env S'.L S'.ds v
  have hcomm : ∀ v, Ent ((S.put oy.dst v).put ox.dst u) ((S.put ox.dst u).put oy.dst v) := fun v => ent_put_comm S v u (fun t ht he => a2 t he ht)
  have hyE : execOp (rho (S.put ox.dst u).env) oy = execOp (rho S.env) oy := rho_of_look ey hsy
  have hyW : Region.wanted oy (yieldE ops (S.put ox.dst u).env) = Region.wanted oy (yieldE ops S.env) := wanted_of_look ey
  have mk : ∀ (fs2 : Fs) (S2 : St) (v : Value), Ent S2 { S with L := S2.L, ds := S2.ds } → S2.env = S.env → C fs2 ((S2.put ox.dst u).put oy.dst v) → Step1 c ops un (i, 0, ox) fs2 (S2.put oy.dst v) C := fun fs2 S2 v _ he hr =>
    ⟨(defd_iff (ex S2 v)).2 (by rw [he]; exact hd), hs, u, (calmE_iff (ex S2 v) hs).2 (by rw [he]; exact hc), hnd, hC _ _ _ _ (ent_put_comm S2 v u (fun t ht h' => a2 t h' ht)) (fun _ h => h) hr⟩
  refine ⟨(defd_iff ey).1 hdy, hsy, ?_⟩
  match ky, hy, h with
  | 0, _, ⟨v, hcy, hndy, hr⟩ => exact ⟨v, (calmE_iff ey hsy).1 hcy, hndy, mk fs S v ⟨fun _ _ h => h, fun _ h => h, rfl⟩ rfl hr⟩
  | 1, _, ⟨hw, hndy, v, hv, hr⟩ =>
    refine ⟨by rw [← hyW]; exact hw, hndy, v, fun w hsat => by rw [← hyE]; exact hv w (by rw [St.put_Leq]; exact hsat), ?_⟩
    rw [← hyE]
    exact mk _ S v ⟨fun _ _ h => h, fun _ h => h, rfl⟩ rfl hr
  | 2, _, ⟨hw, hndy, ob, val, hv, hr⟩ =>
    refine ⟨by rw [← hyW]; exact hw, hndy, ob, val, fun w => by rw [← hyE]; exact hv w, fun g => mk fs { S with L := blk g ob :: S.L } (val g) ⟨fun _ _ h => h, fun _ h => h, rfl⟩ rfl ?_⟩
    have := hr g
    rw [St.put_Leq] at this
    refine hC _ _ _ _ ?_ (fun _ h => h) this
    cases hdx : ox.dst <;> cases hdy' : oy.dst <;> exact ⟨fun _ _ h => h, fun _ h => h, rfl⟩
  | 3, _, ⟨hw, hndy, Φ, hv, hin, hk, hr⟩ =>
    refine ⟨by rw [← hyW]; exact hw, hndy, Φ, fun a w ha hds hsat => ?_, hin, hk, fun v L' hp => mk fs { S with L := L' } v ⟨fun _ _ h => h, fun _ h => h, rfl⟩ rfl ?_⟩
    · have := hv a w (ha.of_look (fun t ht => (ey t ht).symm)) (by rw [St.put_ds]; exact hds) (by rw [St.put_Leq]; exact hsat)
      rw [St.put_ds] at this
      exact this
    · have := hr v L' hp
      refine hC _ _ _ _ ?_ (fun _ h => h) this
      cases hdx : ox.dst <;> cases hdy' : oy.dst <;> exact ⟨fun _ _ h => h, fun _ h => h, rfl⟩
  | 4, _, ⟨hw, hndy, Φ, hv, hin, hk, hr⟩ =>
    refine ⟨by rw [← hyW]; exact hw, hndy, Φ, fun F a w ha hds hsat => ?_, hin, hk, fun v L' hp => mk fs { S with L := L' } v ⟨fun _ _ h => h, fun _ h => h, rfl⟩ rfl ?_⟩
    · have := hv F a w (ha.of_look (fun t ht => (ey t ht).symm)) (by rw [St.put_ds]; exact hds) (by rw [St.put_Leq]; exact hsat)
      rw [St.put_ds] at this
      exact this
    · have := hr v L' hp
      refine hC _ _ _ _ ?_ (fun _ h => h) this
      cases hdx : ox.dst <;> cases hdy' : oy.dst <;> exact ⟨fun _ _ h => h, fun _ h => h, rfl⟩

theorem mem_swap {α : Type _} {p q : α} {l : List α} : ∀ x ∈ p :: q :: l, x ∈ q :: p :: l := fun x hx => by
  simp only [List.mem_cons] at hx ⊢
  rcases hx with h | h | h
  · exact .inr (.inl h)
  · exact .inl h
  · exact .inr (.inr h)

/-- Two that read. -/
theorem swap_reads {x y : Nat × Nat × Oper} {fs : Fs} {S : St} {C : Fs → St → Prop} (hC : Closed C) (hap : x.2.2.apart ops y.2.2 = true) (hx : x.2.1 = 1) (hy : y.2.1 = 1)
    (h : Step1 c ops un x fs S (fun fs1 S1 => Step1 c ops un y fs1 S1 C)) : Step1 c ops un y fs S (fun fs2 S2 => Step1 c ops un x fs2 S2 C) := by
  obtain ⟨a1, a2, a3⟩ := Oper.apart_spec hap
  obtain ⟨i, k, ox⟩ := x
  obtain ⟨j, ky, oy⟩ := y
  obtain rfl : k = 1 := hx
  obtain rfl : ky = 1 := hy
  obtain ⟨hd, hs, hw, hnd, u, hv, hdy, hsy, hwy, hndy, v, hvy, hr⟩ := h
  have ey : ∀ t ∈ oy.looksAt ops, look (S.put ox.dst u).env t = look S.env t := look_put_apart (x := ox) (y := oy) a1 S.env S.L S.ds u
  have ex : ∀ t ∈ ox.looksAt ops, look (S.put oy.dst v).env t = look S.env t := look_put_apart (x := oy) (y := ox) a3 S.env S.L S.ds v
  have hyE : execOp (rho (S.put ox.dst u).env) oy = execOp (rho S.env) oy := rho_of_look ey hsy
  have hxE : execOp (rho (S.put oy.dst v).env) ox = execOp (rho S.env) ox := rho_of_look ex hs
  refine ⟨(defd_iff ey).1 hdy, hsy, by rw [← wanted_of_look ey]; exact hwy, hndy, v, fun w hsat => by rw [← hyE]; exact hvy w (by rw [St.put_Leq]; exact hsat), (defd_iff ex).2 hd, hs, by rw [wanted_of_look ex]; exact hw, hnd, u, fun w hsat => by rw [hxE]; exact hv w (by rw [St.put_Leq] at hsat; exact hsat), ?_⟩
  rw [hxE, ← hyE]
  exact hC _ _ _ _ (ent_put_comm S v u (fun t ht h' => a2 t h' ht)) mem_swap hr

/-- A new block may be laid ahead of one that reads, lays a block, or acts whatever else lies there. -/
theorem swap_alloc {x y : Nat × Nat × Oper} {fs : Fs} {S : St} {C : Fs → St → Prop} (hC : Closed C) (hst : c.strict x.1 = true) (hap : x.2.2.apart ops y.2.2 = true) (hx : x.2.1 = 1 ∨ x.2.1 = 2 ∨ x.2.1 = 4) (hy : y.2.1 = 2)
    (h : Step1 c ops un x fs S (fun fs1 S1 => Step1 c ops un y fs1 S1 C)) : Step1 c ops un y fs S (fun fs2 S2 => Step1 c ops un x fs2 S2 C) := by
  obtain ⟨a1, a2, a3⟩ := Oper.apart_spec hap
  obtain ⟨i, k, ox⟩ := x
  obtain ⟨j, ky, oy⟩ := y
  obtain rfl : ky = 2 := hy
  obtain ⟨hd, hs, h⟩ := h
  have ey : ∀ (L : List HP) (ds : List Deferred) (v : Value), ∀ t ∈ oy.looksAt ops, look (St.put ⟨S.env, L, ds⟩ ox.dst v).env t = look S.env t := fun L ds v => look_put_apart (x := ox) (y := oy) a1 S.env L ds v
  have ex : ∀ (L : List HP) (v : Value), ∀ t ∈ ox.looksAt ops, look (({ S with L := L } : St).put oy.dst v).env t = look S.env t := fun L v => look_put_apart (x := oy) (y := ox) a3 S.env L S.ds v
  have hxE : ∀ (L : List HP) (v : Value), execOp (rho (({ S with L := L } : St).put oy.dst v).env) ox = execOp (rho S.env) ox := fun L v => rho_of_look (ex L v) hs
  have hxW : ∀ (L : List HP) (v : Value), Region.wanted ox (yieldE ops (({ S with L := L } : St).put oy.dst v).env) = Region.wanted ox (yieldE ops S.env) := fun L v => wanted_of_look (ex L v)
  match k, hx, h with
  | 1, _, ⟨hw, hnd, u, hv, hdy, hsy, hwy, hndy, ob, val, hvy, hr⟩ =>
    refine ⟨(defd_iff (ey _ _ _)).1 hdy, hsy, by rw [← wanted_of_look (ey S.L S.ds u)]; exact hwy, hndy, ob, val, fun w => by rw [← rho_of_look (ey S.L S.ds u) hsy]; exact hvy w, fun g => ?_⟩
    refine ⟨(defd_iff (ex _ _)).2 hd, hs, by rw [hxW]; exact hw, hnd, u, fun w hsat => by rw [hxE]; exact hv w (by rw [St.put_Leq] at hsat; exact hsat.tail), ?_⟩
    rw [hxE]
    refine hC _ _ _ _ ?_ (fun _ h => h) (hr g)
    have := ent_put_comm { S with L := blk g ob :: S.L } (d := oy.dst) (e := ox.dst) (val g) u (fun t ht h' => a2 t h' ht)
    rw [St.put_Leq]
    cases hdx : ox.dst <;> cases hdy' : oy.dst <;> simp only [hdx, hdy'] at this <;> exact this
  | 2, _, ⟨hw, hnd, obx, valx, hv, hr⟩ =>
    obtain ⟨hdy, hsy, hwy, hndy, ob, val, hvy, _⟩ := hr 0
    have hvy' : ∀ w, (execOp (rho S.env) oy).run c.P w = .ok (.value (val w.heap.size)) { w with heap := w.heap.push ob } := fun w => by rw [← rho_of_look (ey (blk 0 obx :: S.L) S.ds (valx 0)) hsy]; exact hvy w
    refine ⟨(defd_iff (ey _ _ _)).1 hdy, hsy, by rw [← wanted_of_look (ey (blk 0 obx :: S.L) S.ds (valx 0))]; exact hwy, hndy, ob, val, hvy', fun g => ?_⟩
    refine ⟨(defd_iff (ex _ _)).2 hd, hs, by rw [hxW]; exact hw, hnd, obx, valx, fun w => by rw [hxE]; exact hv w, fun gx => ?_⟩
    obtain ⟨_, _, _, _, ob', val', hvg, hrg⟩ := hr gx
    have hvg' : ∀ w, (execOp (rho S.env) oy).run c.P w = .ok (.value (val' w.heap.size)) { w with heap := w.heap.push ob' } := fun w => by rw [← rho_of_look (ey (blk gx obx :: S.L) S.ds (valx gx)) hsy]; exact hvg w
    have hob : ob' = ob := by
      have := (hvg' { (default : World) with heap := #[] }).symm.trans (hvy' _)
      simp only [Result.ok.injEq, World.mk.injEq, Array.push_eq_push] at this
      simpa using this.2.1
    have hval : val' g = val g := by
      have := (hvg' { (default : World) with heap := Array.replicate g default }).symm.trans (hvy' _)
      simp only [Result.ok.injEq, Next.value.injEq, Array.size_replicate] at this
      exact this.1
    subst hob
    refine hC _ _ _ _ ?_ (fun _ h => h) (hrg g)
    rw [hval, St.put_Leq]
    have hsw : ∀ f, Star (blk gx obx :: blk g ob' :: S.L) f → Star (blk g ob' :: blk gx obx :: S.L) f := fun f => Star.swap
    have := ent_put_comm { S with L := blk gx obx :: blk g ob' :: S.L } (d := oy.dst) (e := ox.dst) (val g) (valx gx) (fun t ht h' => a2 t h' ht)
    cases hdx : ox.dst <;> cases hdy' : oy.dst <;> simp only [hdx, hdy', St.put] at this ⊢ <;> exact ⟨this.env, hsw, rfl⟩
  | 4, _, ⟨hw, hnd, Φ, hv, hin, hk, hr⟩ =>
    obtain ⟨u0, L0, hp0⟩ := hin hst
    obtain ⟨hdy, hsy, hwy, hndy, ob, val, hvy, _⟩ := hr u0 L0 hp0
    have hvy' : ∀ w, (execOp (rho S.env) oy).run c.P w = .ok (.value (val w.heap.size)) { w with heap := w.heap.push ob } := fun w => by rw [← rho_of_look (ey L0 S.ds u0) hsy]; exact hvy w
    refine ⟨(defd_iff (ey _ _ _)).1 hdy, hsy, by rw [← wanted_of_look (ey L0 S.ds u0)]; exact hwy, hndy, ob, val, hvy', fun g => ?_⟩
    refine ⟨(defd_iff (ex _ _)).2 hd, hs, by rw [hxW]; exact hw, hnd, (fun u L'' => ∃ L', L'' = blk g ob :: L' ∧ Φ u L'), fun F a w ha hds hsat => ?_, fun h0 => (let ⟨u1, L1, h1⟩ := hin h0; ⟨u1, _, L1, rfl, h1⟩), fun z hz hun u L'' hp w hsat => ?_, fun u L'' hp => ?_⟩
    · rw [St.put_ds] at hds ⊢
      rw [St.put_Leq] at hsat
      have h1 : Sat c.w0 w (S.L ++ blk g ob :: F) := hsat.mono fun f hf => star_mid.1 hf
      refine Oper.wpIn_mono (fun a' w' ⟨u, L', e1, e2, e3⟩ => ⟨u, _, e1, ⟨L', rfl, e2⟩, e3.mono fun f hf => star_mid.2 hf⟩) (hv (blk g ob :: F) a w (ha.of_look (ex _ _)) hds h1)
    · obtain ⟨L', rfl, hp⟩ := hp
      exact hk z hz hun u L' hp w hsat.tail
    · obtain ⟨L', rfl, hp⟩ := hp
      obtain ⟨_, _, _, _, ob', val', hvg, hrg⟩ := hr u L' hp
      have hvg' : ∀ w, (execOp (rho S.env) oy).run c.P w = .ok (.value (val' w.heap.size)) { w with heap := w.heap.push ob' } := fun w => by rw [← rho_of_look (ey L' S.ds u) hsy]; exact hvg w
      have hob : ob' = ob := by
        have := (hvg' { (default : World) with heap := #[] }).symm.trans (hvy' _)
        simp only [Result.ok.injEq, World.mk.injEq, Array.push_eq_push] at this
        simpa using this.2.1
      have hval : val' g = val g := by
        have := (hvg' { (default : World) with heap := Array.replicate g default }).symm.trans (hvy' _)
        simp only [Result.ok.injEq, Next.value.injEq, Array.size_replicate] at this
        exact this.1
      subst hob
      refine hC _ _ _ _ ?_ (fun _ h => h) (hrg g)
      rw [hval, St.put_Leq]
      have := ent_put_comm { S with L := blk g ob' :: L' } (d := oy.dst) (e := ox.dst) (val g) u (fun t ht h' => a2 t h' ht)
      cases hdx : ox.dst <;> cases hdy' : oy.dst <;> simp only [hdx, hdy'] at this <;> exact this
where
  star_mid {b : HP} {L F : List HP} {f : Frag} : Star ((b :: L) ++ F) f ↔ Star (L ++ b :: F) f := by
    induction L generalizing f with
    | nil => exact Iff.rfl
    | cons d L ih =>
      constructor
      · intro h
        exact Star.cons_mono (fun _ => ih.1) (Star.swap h)
      · intro h
        exact Star.swap (Star.cons_mono (fun _ => ih.2) h)

/-- One that acts may come ahead of one that reads, where what is read stays. -/
theorem swap_act {x y : Nat × Nat × Oper} {fs : Fs} {S : St} {C : Fs → St → Prop} (hC : Closed C) (hun : un x.1 y.1 = true) (hap : x.2.2.apart ops y.2.2 = true) (hx : x.2.1 = 1) (hy : y.2.1 = 3 ∨ y.2.1 = 4)
    (h : Step1 c ops un x fs S (fun fs1 S1 => Step1 c ops un y fs1 S1 C)) : Step1 c ops un y fs S (fun fs2 S2 => Step1 c ops un x fs2 S2 C) := by
  obtain ⟨a1, a2, a3⟩ := Oper.apart_spec hap
  obtain ⟨i, k, ox⟩ := x
  obtain ⟨j, ky, oy⟩ := y
  obtain rfl : k = 1 := hx
  obtain ⟨hd, hs, hw, hnd, u, hv, hdy, hsy, h⟩ := h
  have ey : ∀ t ∈ oy.looksAt ops, look (S.put ox.dst u).env t = look S.env t := look_put_apart (x := ox) (y := oy) a1 S.env S.L S.ds u
  have ex : ∀ (L : List HP) (v : Value), ∀ t ∈ ox.looksAt ops, look (({ S with L := L } : St).put oy.dst v).env t = look S.env t := fun L v => look_put_apart (x := oy) (y := ox) a3 S.env L S.ds v
  have hyE : execOp (rho (S.put ox.dst u).env) oy = execOp (rho S.env) oy := rho_of_look ey hsy
  have hyW : Region.wanted oy (yieldE ops (S.put ox.dst u).env) = Region.wanted oy (yieldE ops S.env) := wanted_of_look ey
  have fin : ∀ (v : Value) (L' : List HP), (∀ w, Sat c.w0 w L' → (execOp (rho S.env) ox).run c.P w = .ok (.value u) w) →
      C ((i, fun w => (execOp (rho S.env) ox).run c.P w = .ok (.value u) w) :: fs) ({ (S.put ox.dst u) with L := L' }.put oy.dst v) → Step1 c ops un (i, 1, ox) fs ({ S with L := L' }.put oy.dst v) C := fun v L' hk hr => by
    refine ⟨(defd_iff (ex _ _)).2 hd, hs, by rw [wanted_of_look (ex L' v)]; exact hw, hnd, u, fun w hsat => by rw [rho_of_look (ex L' v) hs]; exact hk w (by rw [St.put_Leq] at hsat; exact hsat), ?_⟩
    rw [rho_of_look (ex L' v) hs]
    refine hC _ _ _ _ ?_ (fun _ h => h) hr
    have := ent_put_comm { S with L := L' } (d := oy.dst) (e := ox.dst) v u (fun t ht h' => a2 t h' ht)
    cases hdx : ox.dst <;> cases hdy' : oy.dst <;> simp only [hdx, hdy'] at this <;> exact this
  refine ⟨(defd_iff ey).1 hdy, hsy, ?_⟩
  match ky, hy, h with
  | 3, _, ⟨hwy, hndy, Φ, hvy, hin, hk, hr⟩ =>
    refine ⟨by rw [← hyW]; exact hwy, hndy, Φ, fun a w ha hds hsat => ?_, hin, fun z hz => hk z (List.mem_cons_of_mem _ hz), fun v L' hp => fin v L' (fun w hsat => hk _ List.mem_cons_self hun v L' hp w hsat) (hr v L' hp)⟩
    have := hvy a w (ha.of_look (fun t ht => (ey t ht).symm)) (by rw [St.put_ds]; exact hds) (by rw [St.put_Leq]; exact hsat)
    rw [St.put_ds] at this
    exact this
  | 4, _, ⟨hwy, hndy, Φ, hvy, hin, hk, hr⟩ =>
    refine ⟨by rw [← hyW]; exact hwy, hndy, Φ, fun F a w ha hds hsat => ?_, hin, fun z hz => hk z (List.mem_cons_of_mem _ hz), fun v L' hp => fin v L' (fun w hsat => hk _ List.mem_cons_self hun v L' hp w hsat) (hr v L' hp)⟩
    have := hvy F a w (ha.of_look (fun t ht => (ey t ht).symm)) (by rw [St.put_ds]; exact hds) (by rw [St.put_Leq]; exact hsat)
    rw [St.put_ds] at this
    exact this

theorem swap_ok1 {x y : Nat × Nat × Oper} {fs : Fs} {S : St} {C : Fs → St → Prop} (hC : Closed C) (hst : c.strict x.1 = true) (hun : un x.1 y.1 = true) (hok : okPair ops x y = true)
    (h : Step1 c ops un x fs S (fun fs1 S1 => Step1 c ops un y fs1 S1 C)) : Step1 c ops un y fs S (fun fs2 S2 => Step1 c ops un x fs2 S2 C) := by
  obtain ⟨i, k, ox⟩ := x
  obtain ⟨j, ky, oy⟩ := y
  unfold okPair at hok
  simp only [Bool.and_eq_true] at hok
  obtain ⟨hap, hm⟩ := hok
  split at hm
  all_goals first
    | exact swap_calm2 hC hap rfl (by dsimp only; omega) h
    | exact swap_calm hC hst hap rfl (by dsimp only; omega) h
    | exact swap_reads hC hap rfl rfl h
    | exact swap_alloc hC hst hap (.inl rfl) rfl h
    | exact swap_alloc hC hst hap (.inr (.inl rfl)) rfl h
    | exact swap_alloc hC hst hap (.inr (.inr rfl)) rfl h
    | exact swap_act hC hun hap rfl (.inl rfl) h
    | exact swap_act hC hun hap rfl (.inr rfl) h
    | cases hm

/-- Passed over or not, it is told by the state. -/
theorem Step.real {x : Nat × Nat × Oper} {fs : Fs} {S : St} {C : Fs → St → Prop} (hk : x.2.1 ≤ 4) : Step c ops un x fs S C ↔
    (Region.wanted x.2.2 (yieldE ops S.env) = true ∧ Step1 c ops un x fs S C) ∨ (Region.wanted x.2.2 (yieldE ops S.env) = false ∧ Step1 c ops un (x.1, 0, x.2.2) fs S C) := by
  obtain ⟨i, k, o⟩ := x
  constructor
  · rintro (h | ⟨_, h2, h3⟩)
    · cases hw : Region.wanted o (yieldE ops S.env) with
      | true => exact .inl ⟨rfl, h⟩
      | false =>
        refine .inr ⟨rfl, ?_⟩
        obtain ⟨hd, hs, h⟩ := h
        dsimp only at hk
        match k, hk, h with
        | 0, _, h => exact ⟨hd, hs, h⟩
        | 1, _, h => rw [hw] at h; cases h.1
        | 2, _, h => rw [hw] at h; cases h.1
        | 3, _, h => rw [hw] at h; cases h.1
        | 4, _, h => rw [hw] at h; cases h.1
    · exact .inr ⟨h2, h3⟩
  · rintro (⟨_, h⟩ | ⟨h2, h3⟩)
    · exact .inl h
    · exact .inr ⟨hk, h2, h3⟩

theorem okPair_le {x y : Nat × Nat × Oper} (h : okPair ops x y = true) : x.2.1 ≤ 4 ∧ y.2.1 ≤ 4 := by
  obtain ⟨i, k, ox⟩ := x
  obtain ⟨j, ky, oy⟩ := y
  unfold okPair at h
  simp only [Bool.and_eq_true] at h
  obtain ⟨_, h⟩ := h
  split at h <;> first | (simp; done) | cases h
theorem okPair_zero {x y : Nat × Nat × Oper} {k k' : Nat} (h : okPair ops x y = true) (hk : k = 0 ∨ k = x.2.1) (hk' : k' = 0 ∨ k' = y.2.1) : okPair ops (x.1, k, x.2.2) (y.1, k', y.2.2) = true := by
  have hle := okPair_le h
  obtain ⟨i, kx, ox⟩ := x
  obtain ⟨j, ky, oy⟩ := y
  unfold okPair at h ⊢
  simp only [Bool.and_eq_true] at h ⊢
  refine ⟨h.1, ?_⟩
  dsimp only at hk hk' hle ⊢
  rcases hk with rfl | rfl <;> rcases hk' with rfl | rfl
  · rfl
  · match k', hle.2 with
    | 0, _ => rfl
    | 1, _ => rfl
    | 2, _ => rfl
    | 3, _ => rfl
    | 4, _ => rfl
  · match k, hle.1 with
    | 0, _ => rfl
    | 1, _ => rfl
    | 2, _ => rfl
    | 3, _ => rfl
    | 4, _ => rfl
  · exact h.2

theorem swap_ok {x y : Nat × Nat × Oper} {fs : Fs} {S : St} {C : Fs → St → Prop} (hC : Closed C) (hst : c.strict x.1 = true) (hun : un x.1 y.1 = true) (hok : okPair ops x y = true)
    (h : Step c ops un x fs S (fun fs1 S1 => Step c ops un y fs1 S1 C)) : Step c ops un y fs S (fun fs2 S2 => Step c ops un x fs2 S2 C) := by
  obtain ⟨hkx, hky⟩ := okPair_le hok
  have hap : x.2.2.apart ops y.2.2 = true := by
    unfold okPair at hok
    simp only [Bool.and_eq_true] at hok
    exact hok.1
  obtain ⟨a1, _, a3⟩ := Oper.apart_spec hap
  -- what is passed over in S is passed over behind the other
  have hwy : ∀ S1 : St, (∀ t, x.2.2.dst ≠ some t → look S1.env t = look S.env t) → Region.wanted y.2.2 (yieldE ops S1.env) = Region.wanted y.2.2 (yieldE ops S.env) := fun S1 h1 =>
    wanted_of_look fun t ht => h1 t fun e => a1 t e ht
  have hwx : ∀ S1 : St, (∀ t, y.2.2.dst ≠ some t → look S1.env t = look S.env t) → Region.wanted x.2.2 (yieldE ops S1.env) = Region.wanted x.2.2 (yieldE ops S.env) := fun S1 h1 =>
    wanted_of_look fun t ht => h1 t fun e => a3 t e ht
  -- the kinds as they are in S
  obtain ⟨kx, hkx', hx⟩ : ∃ k, (k = 0 ∨ k = x.2.1) ∧ ∀ (fs' : Fs) (S' : St) (C' : Fs → St → Prop), Region.wanted x.2.2 (yieldE ops S'.env) = Region.wanted x.2.2 (yieldE ops S.env) → (Step c ops un x fs' S' C' ↔ Step1 c ops un (x.1, k, x.2.2) fs' S' C') := by
    cases hw : Region.wanted x.2.2 (yieldE ops S.env) with
    | true => exact ⟨_, .inr rfl, fun fs' S' C' e => by rw [Step.real hkx, e]; simp⟩
    | false => exact ⟨_, .inl rfl, fun fs' S' C' e => by rw [Step.real hkx, e]; simp⟩
  obtain ⟨ky, hky', hy⟩ : ∃ k, (k = 0 ∨ k = y.2.1) ∧ ∀ (fs' : Fs) (S' : St) (C' : Fs → St → Prop), Region.wanted y.2.2 (yieldE ops S'.env) = Region.wanted y.2.2 (yieldE ops S.env) → (Step c ops un y fs' S' C' ↔ Step1 c ops un (y.1, k, y.2.2) fs' S' C') := by
    cases hw : Region.wanted y.2.2 (yieldE ops S.env) with
    | true => exact ⟨_, .inr rfl, fun fs' S' C' e => by rw [Step.real hky, e]; simp⟩
    | false => exact ⟨_, .inl rfl, fun fs' S' C' e => by rw [Step.real hky, e]; simp⟩
  have h1 := (hx fs S _ rfl).1 h
  have h2 : Step1 c ops un (x.1, kx, x.2.2) fs S (fun fs1 S1 => Step1 c ops un (y.1, ky, y.2.2) fs1 S1 C) :=
    Step1.mono (fun fs1 S1 ⟨h3, h4⟩ => (hy fs1 S1 C (hwy S1 h4)).1 h3) (Step1.shape h1)
  have h3 := swap_ok1 (x := (x.1, kx, x.2.2)) (y := (y.1, ky, y.2.2)) hC hst hun (okPair_zero hok hkx' hky') h2
  exact (hy fs S _ rfl).2 (Step1.mono (fun fs2 S2 ⟨h5, h6⟩ => (hx fs2 S2 C (hwx S2 h6)).2 h5) (Step1.shape h3))
end
end Go.Sx
