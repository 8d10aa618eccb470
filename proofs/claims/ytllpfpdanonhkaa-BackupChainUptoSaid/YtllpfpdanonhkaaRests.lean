/- Walks: chains copied; BackupRestores. No condition. -/
import Derived.Test.YtllpfpdanonhkaaRRs
import Derived.Test.YtllpfpdanonhkaaWrites
set_option maxRecDepth 8000
set_option maxHeartbeats 4000000
set_option linter.unusedVariables false
set_option linter.unusedSimpArgs false
namespace Go.Proofs.Ytllpfpdanonhkaa
open Go.Sx Go.RowKit

def RnsV (v : AV) : HP := Rns v.ao v.cp v.rs
theorem Rns_rd {w0 : World} {ao : Option Addr} {cp : Nat} {rs : List RV} {F : List HP} {f : Frag} (h : Star (Rns ao cp rs :: F) f) : RdS w0 [Rns ao cp rs] 4 ao (rs.map cellsV) ∧ ∀ r ∈ rs, RdS w0 [Rns ao cp rs] 1 r.2.1 (ints .u8 r.1.data) := by
  obtain ⟨f1, _, hrow, hst⟩ := Rns_open.1 h
  obtain ⟨e1, e2, e3, _⟩ := row_shape hrow
  refine ⟨(RdS.own (L := [row 76 4 ao cp (rs.map cellsV), pack (rs.map dat)]) .here ⟨e1, e2, e3⟩).ent fun _ hf => Rns_open.1 hf, fun r hrm => ?_⟩
  have hdat : Els 1 (ints .u8 r.1.data) ∧ (ints .u8 r.1.data = [] ∨ ∃ a, r.2.1 = some a) ∧ ∀ a, r.2.1 = some a → a.spot = none := by
    obtain ⟨l1, l2, rfl⟩ := List.append_of_mem hrm
    obtain ⟨f2, _, hpk, _⟩ := hst
    rw [List.map_append, List.map_cons] at hpk
    obtain ⟨f4, _, b4, _⟩ := (pick_mid (l := l1.map dat) (a := dat r) (F := l2.map dat)).star hpk
    have hd := row_shape b4
    exact ⟨hd.1, hd.2.1, hd.2.2.1⟩
  obtain ⟨l1, l2, rfl⟩ := List.append_of_mem hrm
  refine (RdS.own (w0 := w0) (L := dat r :: (l1.map dat ++ (l2.map dat ++ []))) .here hdat).ent fun f hf => ?_
  have h1 := (Rns_open.1 hf).tail
  rw [List.map_append, List.map_cons] at h1
  have h2 := Star.unpack (L1 := l1.map dat ++ dat r :: l2.map dat) h1
  rw [List.append_assoc] at h2
  exact pick_mid.star h2
section
variable {c : Cx} {n : Nat} {S : St} {X : Act → World → Prop}
theorem At.vs {F : List HP} {vs : List AV} (hp : Pick S.L (pack (vs.map RnsV)) F := by repeat (first | exact Pick.here | apply Pick.there)) (h : (∀ (L' F' : List HP), Pick L' (pack (vs.map RnsV)) F' → ∀ v ∈ vs, RdA c.w0 L' v) → At c n S X) : At c n S X := fun a w hr hs => by
  have h0 := (hs.pick hp).star
  refine h (fun L' F' hp' v hv => ?_) a w hr hs
  obtain ⟨l1, l2, rfl⟩ := List.append_of_mem hv
  have key : ∀ {F2 : List HP} {f : Frag}, Star (pack ((l1 ++ v :: l2).map RnsV) :: F2) f → ∃ F3, Star (RnsV v :: F3) f := fun {F2 f} hf => by
    rw [List.map_append, List.map_cons] at hf
    have h2 := Star.unpack (L1 := l1.map RnsV ++ RnsV v :: l2.map RnsV) hf
    rw [List.append_assoc] at h2
    exact ⟨_, pick_mid.star h2⟩
  obtain ⟨F3, h3⟩ := key h0
  obtain ⟨h4, h5⟩ := Rns_rd (w0 := c.w0) h3
  have he : ∀ f, Star L' f → Star [Rns v.ao v.cp v.rs] f := fun f hf => by
    obtain ⟨F4, h6⟩ := key (hp'.star hf)
    exact Star.cons_mono (L' := []) (fun _ _ => trivial) h6
  exact ⟨h4.ent he, fun r hr => (h5 r hr).ent he⟩
end
theorem rsh {l : List Ar} {ao : Option Addr} (h : ao = none ∧ restB l = [] ∨ ∃ q, ao = some ⟨q, 0, none⟩) : Els 1 (ints .u8 (restB l)) ∧ (ints .u8 (restB l) = [] ∨ ∃ a, ao = some a) ∧ (∀ a, ao = some a → a.spot = none) := by
  rcases h with ⟨rfl, h⟩ | ⟨q, rfl⟩
  · exact ⟨Els.ints, .inl (by rw [h]; rfl), fun a h => by cases h⟩
  · exact ⟨Els.ints, .inr ⟨_, rfl⟩, fun a h => by cases h; rfl⟩
theorem restB_le {l : List Ar} (hl : ∀ a ∈ l, ∀ r ∈ a.runs, 0 ≤ r.len) : (restB l).length ≤ 33554432 := by
  by_cases h : l ≠ [] ∧ ChOk l l.length
  · rw [restB_ok h.1 h.2]
    have h1 := restTo_len h.2 hl l.length (Nat.le_refl _) (Nat.le_refl _)
    rw [restTo, List.take_of_length_le (Nat.le_refl _)] at h1
    obtain ⟨a, ha⟩ : ∃ a, l[0]? = some a := ⟨l[0]'(by have := List.length_pos_iff.2 h.1; omega), List.getElem?_eq_getElem _⟩
    have h2 := h.2.size 0 a (List.length_pos_iff.2 h.1) ha
    have h3 := (h.2 0 a (List.length_pos_iff.2 h.1) ha).1
    obtain ⟨_, _, h4, h5, _⟩ := h3
    show (restP l).length ≤ _
    unfold restP
    omega
  · unfold restB; rw [if_neg h]; simp
theorem own_ds {w0 : World} {L F : List HP} {lo : Option Addr} {n lcp : Nat} {ds : List DS} (hp : Pick L (pack (ds.map drow)) F) (hl : RdS w0 F 1 lo (ds.map cellsD)) (hn : n = ds.length) (hle : n ≤ 1099511627776) (hlen : ∀ d ∈ ds, d.2.2.length ≤ 1099511627776) : CallOk Tb.P w0 L 16 [.slice lo n lcp] fun u L' => u = .bool true ∧ L' = F := by
  subst hn
  have hr0 : ∀ m, m < ds.length → ds.getD m (none, 0, []) ∈ ds := fun m h => by simp [List.getD, h]
  refine own_ (f := fun m => ds.getD m (none, 0, [])) ?_ ?_ hle fun m hm => hlen _ (hr0 m hm)
  · have e : packN ds.length (fun m => drow (ds.getD m (none, 0, []))) = pack (ds.map drow) := by
      unfold packN
      rw [range_getD (g := fun r => drow r)]
    rw [e]; exact hp
  · rw [range_getD (g := fun r => cellsD r)]; exact hl
section
variable {w0 : World} {L : List HP} {co : Option Addr} {n cc : Nat} {l : List AV}
theorem restore2 (hl : RdS w0 L 4 co (l.map cellsA)) (hn : n = l.length) (hle : n ≤ 1099511627776) (hok : ∀ v ∈ l, AvOk v) (hrd : ∀ v ∈ l, RdA w0 L v) : CallOk Tb.P w0 L 25 [.slice co n cc] (RsPost (l.map AV.ar) L) :=
  (restore hl hn hle hok hrd).mono2 fun _ _ h => rsPost_of (n := n) (by simp [hn]) (h.imp (fun ⟨h, k⟩ => ⟨by rw [h]; rfl, k⟩) (Or.imp (fun h => h) fun ⟨h1, h2⟩ => ⟨by simpa using h1, h2⟩))
theorem rrestore2 (hl : RdS w0 L 4 co (l.map cellsA)) (hn : n = l.length) (hle : n ≤ 1099511627776) (hok : ∀ v ∈ l, AvOk v) (hrd : ∀ v ∈ l, RdA w0 L v) : CallOk Tb.P w0 L 26 [.slice co n cc] (RsPost (l.map AV.ar) L) :=
  (rrestore hl hn hle hok hrd).mono2 fun _ _ h => rsPost_of (n := n) (by simp [hn]) h
end
theorem ar_take {vs l : List AV} {k : Nat} {v x : AV} (h : vs.map AV.ar = (l.map AV.ar).take k) (hx : l[k]? = some x) (e : v.ar = x.ar) : (vs ++ [v]).map AV.ar = (l.map AV.ar).take (k + 1) := by
  rw [List.take_add_one, ar_at hx, List.map_append, h]; simp [e]
theorem avOk_eq {v x : AV} (h : v.ar = x.ar) (hx : AvOk x) : AvOk v := by
  obtain ⟨h1, h2, h3, h4, h5⟩ := hx
  simp only [AV.ar, Ar.mk.injEq] at h
  obtain ⟨e1, e2, e3, e4⟩ := h
  exact ⟨by rw [e1]; exact h1, by rw [e2]; exact h2, by rw [e3]; exact h3, by rw [len_pures e4]; exact h4, ok_pures e4 h5⟩
theorem avOk_map {vs l : List AV} (h : vs.map AV.ar = l.map AV.ar) (hl : ∀ v ∈ l, AvOk v) : ∀ v ∈ vs, AvOk v := fun v hv => by
  have : v.ar ∈ vs.map AV.ar := List.mem_map.2 ⟨v, hv, rfl⟩
  rw [h] at this
  obtain ⟨x, hx, e⟩ := List.mem_map.1 this
  exact avOk_eq e.symm (hl x hx)
theorem av_at {vs l : List AV} {k : Nat} {x v : AV} (h : vs.map AV.ar = l.map AV.ar) (hx : l[k]? = some x) (hv : vs[k]? = some v) : v.ar = x.ar := by
  have h1 := ar_at hx
  rw [← h, ar_at hv] at h1
  exact Option.some.inj h1

theorem chainCopy {w0 : World} {L : List HP} {co : Option Addr} {n cc : Nat} {l : List AV} (hl : RdS w0 L 4 co (l.map cellsA)) (hn : n = l.length) (hle : n ≤ 1048576) (hok : ∀ v ∈ l, AvOk v) (hrd : ∀ v ∈ l, RdA w0 L v) :
    CallOk Tb.P w0 L 24 [.slice co n cc] fun u L' => ∃ ao' cp', ∃ vs : List AV, vs.map AV.ar = l.map AV.ar ∧ (Els 4 (vs.map cellsA) ∧ (vs.map cellsA = [] ∨ ∃ a, ao' = some a) ∧ (∀ a, ao' = some a → a.spot = none)) ∧ u = .slice ao' vs.length cp' ∧ L' = row 28 4 ao' cp' ((vs).map cellsA) :: pack (vs.map RnsV) :: L := by
  refine enter Try.func24 rfl Try.ntmps24 (Nat.le_of_ble_eq_true rfl) ?_
  refine At.seq ?_
  refine At.reg rfl ?_
  refine Run.as (h := ?_)
  refine Run.fin ?_
  refine At.seq ?_
  refine At.reg rfl ?_
  refine Run.as (h := ?_)
  refine Run.fin ?_
  refine At.seq ?_
  refine At.seq ?_
  refine At.reg rfl ?_
  refine Run.as (h := ?_)
  refine Run.fin ?_
  refine At.block ?_
  refine At.chunks (fun _ hf => Star.nilRow (e := 28) (sz := 4) (Star.repack (L1 := []) hf)) ?_
  refine At.loop (α := Nat × List AV × Option Addr × Nat) (fun x => ⟨[(0, .slice co n cc), (3, .slice x.2.2.1 x.2.1.length x.2.2.2), (4, .int .i64 x.1)], row 28 4 x.2.2.1 x.2.2.2 ((x.2.1).map cellsA) :: pack (x.2.1.map RnsV) :: L, []⟩) (fun x => x.1 ≤ n ∧ x.2.1.map AV.ar = (l.map AV.ar).take x.1) (fun x => n - x.1) ((0, [], none, 0)) (⟨Nat.zero_le _, rfl⟩) (Ent.of (by repeat (first | exact SubE.nil | refine SubE.cons (by first | rfl | (show some _ = some _; simp; done)) ?_)) (by repeat (first | exact SubL.refl | refine SubL.cons (by repeat (first | exact Pick.here | apply Pick.there)) ?_ | refine SubL.skip ?_ | exact SubL.nil))) (fun x hx => ?_)
  obtain ⟨k, vs, a1, c1⟩ := x
  dsimp only at hx ⊢
  obtain ⟨hk, hvs⟩ := hx
  refine At.seq ?_
  refine At.seq ?_
  refine At.reg rfl ?_
  refine Run.mv (h := ?_)
  refine Run.mv (h := ?_)
  refine Run.len Tb.L53 (h := ?_)
  refine Run.lt (h := ?_)
  refine Run.fin ?_
  refine At.cnd' (ht := fun hc8 => ?_) (hf := fun hc8 => ?_)
  · skip
    obtain ⟨v, hvk⟩ : ∃ v, l[k]? = some v := ⟨l[k]'(by omega), List.getElem?_eq_getElem _⟩
    have hvm := List.mem_of_getElem? hvk
    obtain ⟨v1, v2, v3, v4, v5⟩ := hok v hvm
    obtain ⟨hvr, hvd⟩ := hrd v hvm
    have hvl : vs.length = k := by have := congrArg List.length hvs; simp at this; omega
    refine At.skip ?_
    refine At.seq ?_
    refine At.block ?_
    refine At.reg rfl ?_
    refine Run.mv (h := ?_)
    refine Run.mv (h := ?_)
    refine Run.mv (h := ?_)
    refine Run.iaR (ht := Tb.L53) (hR := hl.sub) (hj := rfl) (h1 := by simp; omega) (hn := by omega) (h := ?_)
    refine Run.ldrA (ht := Tb.A28) (hn := Tb.S28) (hR := hl.sub) (hj := cellsA_at hvk) (h := ?_)
    refine Run.call Tb.N19 (hc := rcopyA hvr.sub (fun r h => (hvd r h).sub) v4 (dl_ok v5)) (h := ?_)
    rintro _ _ ⟨ao16, cp16, rs16, hp16, rfl, rfl⟩
    refine Run.bs Tb.G53 (h := fun g17 => ?_)
    refine Run.ap (ht := Tb.G53) (hR := .one (he := Els.nil.cons ⟨rfl, by simp [cellsA, Value.oneCell']⟩)) (hn := by simp) (n2 := (vs ++ [(⟨v.id, v.par, v.size, ao16, cp16, rs16⟩ : AV)]).length) (l2 := vs.map cellsA ++ [cellsA (⟨v.id, v.par, v.size, ao16, cp16, rs16⟩ : AV)]) (hl2 := rfl) (hn2 := by simp) (hlen := by simp [maxLen]; omega) (hby := by simp; omega) (h := fun ao18 cp18 => ?_)
    refine Run.as (h := ?_)
    refine Run.fin ?_
    refine At.inb_norm ?_
    refine At.reg rfl ?_
    refine Run.mv (h := ?_)
    refine Run.add (h := ?_)
    refine Run.eqi (b := ((k + 1 : Nat) : Int)) (by rw [wi64 (by omega) (by omega)]; omega) ?_
    refine Run.as (h := ?_)
    refine Run.fin ?_
    refine At.chunks (L' := row 28 4 ao18 cp18 ((vs ++ [(⟨v.id, v.par, v.size, ao16, cp16, rs16⟩ : AV)]).map cellsA) :: pack ((vs ++ [(⟨v.id, v.par, v.size, ao16, cp16, rs16⟩ : AV)]).map RnsV) :: L) (fun _ hf => by
      have h9 := SubL.star (L' := row 28 4 ao18 cp18 (vs.map cellsA ++ [cellsA (⟨v.id, v.par, v.size, ao16, cp16, rs16⟩ : AV)]) :: RnsV (⟨v.id, v.par, v.size, ao16, cp16, rs16⟩ : AV) :: pack (vs.map RnsV) :: L) (by repeat (first | exact SubL.refl | refine SubL.cons (by repeat (first | exact Pick.here | apply Pick.there)) ?_ | refine SubL.skip ?_ | exact SubL.nil)) hf
      rw [List.map_append, List.map_append]
      exact Star.cons_mono (fun _ h => pack_snoc.2 h) h9) ?_
    exact At.again ((k + 1, vs ++ [(⟨v.id, v.par, v.size, ao16, cp16, rs16⟩ : AV)], ao18, cp18)) (⟨by dsimp only; omega, ar_take hvs hvk (by simp [AV.ar, hp16])⟩) (by dsimp only; omega)
  · skip
    refine At.exit ?_
    refine At.then_exit ?_
    refine At.then_exit ?_
    refine At.inb_hit ?_
    refine At.seq ?_
    refine At.rows (h := fun hE hB hsp _ _ _ => ?_)
    refine At.reg rfl ?_
    refine Run.mv (h := ?_)
    refine Run.as (h := ?_)
    refine Run.fin ?_
    refine At.ret ?_
    exact At.done (hΦ := by exact ⟨a1, c1, vs, by rw [hvs, List.take_of_length_le (by simp; omega)], ⟨hE, hB, hsp⟩, rfl, rfl⟩)
theorem restores {w0 : World} {L : List HP} {co : Option Addr} {n cc : Nat} {l : List AV} (hl : RdS w0 L 4 co (l.map cellsA)) (hn : n = l.length) (hle : n ≤ 1048576) (hok : ∀ v ∈ l, AvOk v) (hrd : ∀ v ∈ l, RdA w0 L v) :
    CallOk Tb.P w0 L 7 [.slice co n cc] fun u L' => u = .bool true ∧ L' = L := by
  refine enter Try.func7 rfl Try.ntmps7 (Nat.le_of_ble_eq_true rfl) ?_
  refine At.seq ?_
  refine At.reg rfl ?_
  refine Run.as (h := ?_)
  refine Run.fin ?_
  refine At.seq ?_
  refine At.reg rfl ?_
  refine Run.mv (h := ?_)
  refine Run.call Tb.N24 (hc := chainCopy hl.sub hn hle hok (fun v h => ⟨(hrd v h).1.sub, fun r hr => ((hrd v h).2 r hr).sub⟩)) (h := ?_)
  rintro _ _ ⟨ao3, cp3, vs, hvs, hsh, rfl, rfl⟩
  refine Run.as (h := ?_)
  refine Run.fin ?_
  refine At.seq ?_
  have hok3 := avOk_map hvs hok
  have hlv : vs.length = l.length := by have := congrArg List.length hvs; simpa using this
  have hrl : (restB (l.map AV.ar)).length ≤ 33554432 := restB_le fun a ha r hr => by
    obtain ⟨x, hx, rfl⟩ := List.mem_map.1 ha
    obtain ⟨q, hq, rfl⟩ := List.mem_map.1 hr
    exact ((hok x hx).2.2.2.2 q hq).2.2.1
  refine At.vs (h := fun hvs3 => ?_)
  refine At.reg rfl ?_
  refine Run.mv (h := ?_)
  refine Run.call Tb.N25 (hc := restore2 (l := vs) (RdS.own (by repeat (first | exact Pick.here | apply Pick.there)) hsh) (by simp) (by omega) hok3 (hvs3 _ _ (by repeat (first | exact Pick.here | apply Pick.there)))) (h := ?_)
  rintro _ _ ⟨ao4, cp4, hq4, rfl, rfl⟩
  rw [hvs] at hq4 ⊢
  refine Run.mv (h := ?_)
  refine Run.ex (h := ?_)
  refine Run.ex (h := ?_)
  refine Run.ex (h := ?_)
  refine Run.as (h := ?_)
  refine Run.as (h := ?_)
  refine Run.as (h := ?_)
  refine Run.fin ?_
  refine At.seq ?_
  refine At.reg rfl ?_
  refine Run.mv (h := ?_)
  refine Run.call Tb.N26 (hc := rrestore2 hl.sub hn (by omega) hok (fun v h => ⟨(hrd v h).1.sub, fun r hr => ((hrd v h).2 r hr).sub⟩)) (h := ?_)
  rintro _ _ ⟨ao7, cp7, hq7, rfl, rfl⟩
  refine Run.mv (h := ?_)
  refine Run.ex (h := ?_)
  refine Run.ex (h := ?_)
  refine Run.ex (h := ?_)
  refine Run.as (h := ?_)
  refine Run.as (h := ?_)
  refine Run.as (h := ?_)
  refine Run.fin ?_
  refine At.seq ?_
  refine At.seq ?_
  refine At.reg rfl ?_
  refine Run.mv (h := ?_)
  refine Run.mv (h := ?_)
  refine Run.ne (h := ?_)
  refine Run.mv (h := ?_)
  refine Run.orB 3 3 (ht := fun hg40 => by
      refine Run.mv (h := ?_)
      refine Run.mv (h := ?_)
      refine Run.ne (h := ?_)
      exact Run.fin_sc ScEnd.here) (hrest := ?_)
  refine Run.mv (h := ?_)
  refine Run.orB 4 8 (ht := fun hg46 => by
      refine Run.mv (h := ?_)
      refine Run.mv (h := ?_)
      refine Run.call Tb.N15 (hc := rsame (RdS.own (by repeat (first | exact Pick.here | apply Pick.there)) (rsh hq4)) (RdS.own (by repeat (first | exact Pick.here | apply Pick.there)) (rsh hq7)) (by omega)) (h := ?_)
      rintro _ _ ⟨rfl, rfl⟩
      refine Run.not (h := ?_)
      exact Run.fin_sc ScEnd.here) (hrest := ?_)
  refine Run.fin ?_
  refine At.cnd' (ht := fun hc46 => ?_) (hf := fun hc46 => ?_)
  · skip
    exact absurd hc46 (by simp)
  · skip
    refine At.skip ?_
    refine At.seq ?_
    refine At.seq ?_
    refine At.reg rfl ?_
    refine Run.as (h := ?_)
    refine Run.fin ?_
    refine At.block ?_
    refine At.loop (α := Nat) (fun k => ⟨[(0, .slice co n cc), (3, .slice ao3 vs.length cp3), (4, .slice ao4 (restB (l.map AV.ar)).length cp4), (7, .slice ao7 (restB (l.map AV.ar)).length cp7), (10, .int .i64 k)], row 5 1 ao7 cp7 (ints .u8 (restB (l.map AV.ar))) :: row 5 1 ao4 cp4 (ints .u8 (restB (l.map AV.ar))) :: row 28 4 ao3 cp3 ((vs).map cellsA) :: pack (vs.map RnsV) :: L, []⟩) (fun k => k ≤ n) (fun k => n - k) (0) (Nat.zero_le _) (Ent.of (by repeat (first | exact SubE.nil | refine SubE.cons (by first | rfl | (show some _ = some _; simp; done)) ?_)) (by repeat (first | exact SubL.refl | refine SubL.cons (by repeat (first | exact Pick.here | apply Pick.there)) ?_ | refine SubL.skip ?_ | exact SubL.nil))) (fun k hk => ?_)
    refine At.seq ?_
    refine At.seq ?_
    refine At.reg rfl ?_
    refine Run.mv (h := ?_)
    refine Run.mv (h := ?_)
    refine Run.len Tb.L53 (h := ?_)
    refine Run.lt (h := ?_)
    refine Run.fin ?_
    refine At.cnd' (ht := fun hc50 => ?_) (hf := fun hc50 => ?_)
    · skip
      obtain ⟨v, hvk⟩ : ∃ v, l[k]? = some v := ⟨l[k]'(by omega), List.getElem?_eq_getElem _⟩
      have hvm := List.mem_of_getElem? hvk
      obtain ⟨v1, v2, v3, v4, v5⟩ := hok v hvm
      obtain ⟨hvr, hvd⟩ := hrd v hvm
      obtain ⟨y, hyk⟩ : ∃ v, vs[k]? = some v := ⟨vs[k]'(by omega), List.getElem?_eq_getElem _⟩
      have hyF : ∀ (L' F' : List HP), Pick L' (pack (vs.map RnsV)) F' → RdA w0 L' y := fun L' F' hp' => hvs3 L' F' hp' y (List.mem_of_getElem? hyk)
      have hye := av_at hvs hvk hyk
      obtain ⟨y1, y2, y3, y4, y5⟩ := hok3 y (List.mem_of_getElem? hyk)
      refine At.skip ?_
      refine At.seq ?_
      refine At.block ?_
      refine At.seq ?_
      refine At.draw [(0, 0), (1, 0), (2, 0), (4, 0), (5, 0), (6, 0), (3, 1), (7, 1), (8, 3), (9, 0)] Tb.mixed (by kernel_rfl) ?_
      refine Run.mv (h := ?_)
      refine Run.mv (h := ?_)
      refine Run.iaR (ht := Tb.L53) (hR := RdS.own (by repeat (first | exact Pick.here | apply Pick.there)) hsh) (hj := rfl) (h1 := by simp; omega) (hn := by omega) (h := ?_)
      refine Run.mv (h := ?_)
      refine Run.mv (h := ?_)
      refine Run.iaR (ht := Tb.L53) (hR := hl.sub) (hj := rfl) (h1 := by simp; omega) (hn := by omega) (h := ?_)
      refine Run.ldrA (ht := Tb.A28) (hn := Tb.S28) (hR := RdS.own (by repeat (first | exact Pick.here | apply Pick.there)) hsh) (hj := cellsA_at hyk) (h := ?_)
      refine Run.ldrA (ht := Tb.A28) (hn := Tb.S28) (hR := hl.sub) (hj := cellsA_at hvk) (h := ?_)
      refine Run.call Tb.N14 (hc := rsameA (hyF _ _ (by repeat (first | exact Pick.here | apply Pick.there))).1 hvr.sub (hyF _ _ (by repeat (first | exact Pick.here | apply Pick.there))).2 (fun r h => (hvd r h).sub) y4 (dl_ok y5)) (hk := noun (by kernel_rfl)) (hin := nost (by kernel_rfl)) (h := ?_)
      rintro _ _ ⟨b1, rfl, hb1, rfl⟩
      refine Run.as (h := ?_)
      refine Run.fin ?_
      refine At.seq ?_
      refine At.reg rfl ?_
      refine Run.mv (h := ?_)
      refine Run.not (h := ?_)
      refine Run.fin ?_
      refine At.cnd' (ht := fun hc63 => ?_) (hf := fun hc63 => ?_)
      · skip
        exact absurd hc63 (by have h9 := hb1.2 hye; simp [h9])
      · skip
        refine At.skip ?_
        refine At.inb_norm ?_
        refine At.reg rfl ?_
        refine Run.mv (h := ?_)
        refine Run.add (h := ?_)
        refine Run.eqi (b := ((k + 1 : Nat) : Int)) (by rw [wi64 (by omega) (by omega)]; omega) ?_
        refine Run.as (h := ?_)
        refine Run.fin ?_
        exact At.again (k + 1) (by omega) (by omega)
    · skip
      refine At.exit ?_
      refine At.then_exit ?_
      refine At.then_exit ?_
      refine At.inb_hit ?_
      refine At.seq ?_
      refine At.reg rfl ?_
      refine Run.mv (h := ?_)
      refine Run.call Tb.N25 (hc := restore2 (l := vs) (RdS.own (by repeat (first | exact Pick.here | apply Pick.there)) hsh) (by simp) (by omega) hok3 (hvs3 _ _ (by repeat (first | exact Pick.here | apply Pick.there)))) (h := ?_)
      rintro _ _ ⟨ao12, cp12, hq12, rfl, rfl⟩
      rw [hvs] at hq12 ⊢
      refine Run.mv (h := ?_)
      refine Run.ex (h := ?_)
      refine Run.ex (h := ?_)
      refine Run.ex (h := ?_)
      refine Run.as (h := ?_)
      refine Run.as (h := ?_)
      refine Run.as (h := ?_)
      refine Run.fin ?_
      refine At.seq ?_
      refine At.chunks (L' := pack ([((ao4, cp4, restB (l.map AV.ar)) : DS), (ao12, cp12, restB (l.map AV.ar))].map drow) :: row 5 1 ao7 cp7 (ints .u8 (restB (l.map AV.ar))) :: row 28 4 ao3 cp3 ((vs).map cellsA) :: pack (vs.map RnsV) :: L) (fun _ hf => by
        have h9 : Star (row 5 1 ao4 cp4 (ints .u8 (restB (l.map AV.ar))) :: row 5 1 ao12 cp12 (ints .u8 (restB (l.map AV.ar))) :: row 5 1 ao7 cp7 (ints .u8 (restB (l.map AV.ar))) :: row 28 4 ao3 cp3 ((vs).map cellsA) :: pack (vs.map RnsV) :: L) _ := SubL.star (by repeat (first | exact SubL.refl | refine SubL.cons (by repeat (first | exact Pick.here | apply Pick.there)) ?_ | refine SubL.skip ?_ | exact SubL.nil)) hf
        exact Star.repack (L1 := [row 5 1 ao4 cp4 (ints .u8 (restB (l.map AV.ar))), row 5 1 ao12 cp12 (ints .u8 (restB (l.map AV.ar)))]) h9) ?_
      refine At.reg rfl ?_
      refine Run.mv (h := ?_)
      refine Run.mv (h := ?_)
      refine Run.bs Tb.G39 (h := fun g72 => ?_)
      refine Run.call Tb.N16 (hc := own_ds (ds := [(ao4, cp4, restB (l.map AV.ar)), (ao12, cp12, restB (l.map AV.ar))]) (by repeat (first | exact Pick.here | apply Pick.there)) (.one (he := by simp [Els, cellsD, Value.oneCell'])) rfl (by simp) (fun d hd => by rcases List.mem_cons.1 hd with rfl | hd; exact Nat.le_trans hrl (by decide); rw [List.mem_singleton.1 hd]; exact Nat.le_trans hrl (by decide))) (h := ?_)
      rintro _ _ ⟨rfl, rfl⟩
      refine Run.as (h := ?_)
      refine Run.fin ?_
      refine At.seq ?_
      refine At.reg rfl ?_
      refine Run.mv (h := ?_)
      refine Run.call Tb.N25 (hc := restore2 (l := vs) (RdS.own (by repeat (first | exact Pick.here | apply Pick.there)) hsh) (by simp) (by omega) hok3 (hvs3 _ _ (by repeat (first | exact Pick.here | apply Pick.there)))) (h := ?_)
      rintro _ _ ⟨ao16, cp16, hq16, rfl, rfl⟩
      rw [hvs] at hq16 ⊢
      refine Run.mv (h := ?_)
      refine Run.ex (h := ?_)
      refine Run.ex (h := ?_)
      refine Run.ex (h := ?_)
      refine Run.as (h := ?_)
      refine Run.as (h := ?_)
      refine Run.as (h := ?_)
      refine Run.fin ?_
      refine At.seq ?_
      refine At.reg rfl ?_
      refine Run.mv (h := ?_)
      refine Run.mv (h := ?_)
      refine Run.andB 3 1 (ht := fun hg85 => by
          refine Run.mv (h := ?_)
          refine Run.mv (h := ?_)
          refine Run.call Tb.N15 (hc := rsame (RdS.own (by repeat (first | exact Pick.here | apply Pick.there)) (rsh hq16)) (RdS.own (by repeat (first | exact Pick.here | apply Pick.there)) (rsh hq7)) (by omega)) (h := ?_)
          rintro _ _ ⟨rfl, rfl⟩
          exact Run.fin_sc ScEnd.here) (hrest := ?_)
      refine Run.mv (h := ?_)
      refine Run.andB 1 6 (bq := true) (ht := fun hg88 => by
          refine Run.call Tb.N18 (hc := heads) (h := ?_)
          rintro _ _ ⟨rfl, rfl⟩
          exact Run.fin_sc ScEnd.here) (hrest := ?_)
      refine Run.as (h := ?_)
      refine Run.fin ?_
      refine At.ret ?_
      exact At.done (hΦ := by exact ⟨by simp [tupleOf], rfl⟩)
end Go.Proofs.Ytllpfpdanonhkaa
