/- Walk: the law of chains (BackupChain). No condition. -/
import Derived.Test.YtllpfpdanonhkaaPlChain
set_option maxRecDepth 8000
set_option maxHeartbeats 4000000
set_option linter.unusedVariables false
set_option linter.unusedSimpArgs false
namespace Go.Proofs.Ytllpfpdanonhkaa
open Go.Sx Go.RowKit

theorem cellsS_at {l : List SV} {k : Nat} {v : SV} (h : l[k]? = some v) : (l.map cellsS)[k]? = some [.slice v.bo v.b.length v.bc, .slice v.ho v.h.length v.hc] := by simp [h, cellsS]
def exs (l : List SV) (N k : Nat) : List Ex := exts (wsI l N k) (nwI l N k) (l.getD k SV.z).h (((nwI l N k).length + 3) / 4)
theorem mkI_call {w0 : World} {L : List HP} {l : List SV} {N k cp cl : Nat} {ao lo : Option Addr} (hl : ∀ v ∈ l, Byt v.b) (h1 : 1 ≤ N) (h2 : N ≤ 1048576) (hk : k ≤ 1048576) (hb : RdS w0 L 1 ao (ints .u8 (nwI l N k))) (hcp : N ≤ cp) (he : RdS w0 L 5 lo ((exs l N k).map cellsE)) :
    CallOk Tb.P w0 L 12 [.int .u64 ((k + 1 : Nat) : Int), .int .u64 ((k : Nat) : Int), .slice ao N cp, .slice lo (exs l N k).length cl] fun u L' => ∃ ao' cp' rs', pures rs' = (mkI l N k).runs ∧ (∀ r ∈ rs', RnOk r.1) ∧ rs'.length ≤ 262144 ∧ u = .tuple #[.agg #[.int .u64 ((k + 1 : Nat) : Int), .int .u64 ((k : Nat) : Int), .int .u64 (N : Nat), .slice ao' rs'.length cp'], .int .i64 0] ∧ L' = Rns ao' cp' rs' :: L := by
  have hn : (nwI l N k).length = N := nw_len
  have hel : (exs l N k).length ≤ 262144 := by unfold exs; rw [exts_len, hn]; omega
  refine (make2 (id := ((k + 1 : Nat) : Int)) (par := ((k : Nat) : Int)) ⟨by omega, by omega⟩ ⟨by omega, by omega⟩ hb hn.symm hcp (by omega) (nw_byt hl) he rfl (by omega) (exts_ok (by omega) (Nat.le_refl _))).mono fun u L' ⟨a, c, rs, p1, p2, p3, p4, p5⟩ => ⟨a, c, rs, p1, p2, Nat.le_trans p3 hel, ?_, p5⟩
  have e2 : mkA ((k + 1 : Nat) : Int) ((k : Nat) : Int) (nwI l N k) (exs l N k) = mkI l N k := rfl
  have e3 : mkE ((k + 1 : Nat) : Int) ((k : Nat) : Int) (nwI l N k) (exs l N k) = 0 := mkE_zero hl h1 (by omega)
  rw [p4, e2, e3, mkI_eq hl h1 (by omega)]
theorem encs_few2 {M : Nat} : ∀ {rs : List Rn}, (∀ r ∈ rs, r.data.length ≤ M) → (encs rs).length ≤ rs.length * (M + 25)
  | [], _ => by simp [encs]
  | r :: rs, h => by
    have ih := encs_few2 (rs := rs) fun x hx => h x (List.mem_cons_of_mem _ hx)
    have hr := h r List.mem_cons_self
    have h2 : (encR r).length ≤ 21 + (r.data.length + 4) := by
      unfold encR
      rw [List.length_append, sealB_len, encH_len]
      split <;> simp [sealB_len]
    rw [encs_cons, List.length_append, List.length_cons, Nat.succ_mul]
    omega
theorem mkI_big {l : List SV} {N k : Nat} (hl : ∀ v ∈ l, Byt v.b) (h1 : 1 ≤ N) (h2 : N ≤ 1048576) (hn : (mkI l N k).runs.length ≤ 262144) : (enc (mkI l N k)).length ≤ 549755813888 := by
  have hm := mkI_may (i := k) hl h1 (show N ≤ 33554432 by omega)
  have hf := mkI_fit (i := k) hl h1 (show N ≤ 33554432 by omega)
  have hd : ∀ r ∈ (mkI l N k).runs, r.data.length ≤ 1048576 := fun r hr => by
    obtain ⟨q1, q2, q3, q4, q5⟩ := MayGo_mem (fun x hx => (hf x hx).2.1) (Int.le_refl _) hm.2.2.2.2 r hr
    obtain ⟨f1, f2, f3, f4⟩ := hf r hr
    by_cases hh : r.hole = true
    · rw [q4 hh]; omega
    · rw [f4 hh]; omega
  have h3 := encs_few2 hd
  have h4 : (mkI l N k).runs.length * (1048576 + 25) ≤ 262144 * (1048576 + 25) := Nat.mul_le_mul_right _ hn
  rw [enc_eq, List.length_append, sealB_len, hdB_len]
  omega
section
variable {c : Cx} {n : Nat} {S : St} {X : Act → World → Prop}
theorem At.vcaps {F : List HP} {vs : List AV} (hp : Pick S.L (pack (vs.map RnsV)) F := by repeat (first | exact Pick.here | apply Pick.there)) (h : (∀ v ∈ vs, ∀ r ∈ v.rs, r.1.data.length ≤ r.2.2) → At c n S X) : At c n S X := fun a w hr hs => by
  have h0 := (hs.pick hp).star
  refine h (fun v hv r hrm => ?_) a w hr hs
  obtain ⟨l1, l2, rfl⟩ := List.append_of_mem hv
  rw [List.map_append, List.map_cons] at h0
  have h2 := Star.unpack (L1 := l1.map RnsV ++ RnsV v :: l2.map RnsV) h0
  rw [List.append_assoc] at h2
  obtain ⟨f1, _, hrow, hst⟩ := Rns_open.1 (pick_mid.star h2)
  obtain ⟨m1, m2, hm⟩ := List.append_of_mem hrm
  obtain ⟨f2, _, hpk, _⟩ := hst
  rw [hm, List.map_append, List.map_cons] at hpk
  obtain ⟨f4, _, b4, _⟩ := (pick_mid (l := m1.map dat) (a := dat r) (F := m2.map dat)).star hpk
  have := (row_shape b4).2.2.2.1
  simpa [ints_length] using this
end
theorem getD_far {b : List Int} {q : Nat} (h : b.length ≤ q) : b.getD q 0 = 0 := by simp [List.getD, h]
theorem getDB_lt {h : List Bool} {q : Nat} (hh : h.getD q false = true) : q < h.length := by
  rcases Nat.lt_or_ge q h.length with k | k
  · exact k
  · simp [List.getD, k] at hh
theorem wrap_nn {x : Int} : 0 ≤ IntKind.u64.wrap x := by
  simp only [IntKind.wrap]
  exact Int.emod_nonneg _ (by decide)
theorem nwTo_nil {N : Nat} {v : SV} {k : Nat} (h : k < N) : (nwTo N v k).set k 0 = nwTo N v k := by
  unfold nwTo
  rw [List.set_append_right _ _ (by simp), List.length_map, List.length_range, Nat.sub_self, show N - k = (N - (k + 1)) + 1 by omega, List.replicate_succ, List.set_cons_zero]
theorem At.inh {c : Cx} {n : Nat} {S : St} {X : Act → World → Prop} {f : FuncId} {args : List Value} {Φ : Value → List HP → Prop} (hc : CallOk c.P c.w0 S.L f args Φ) (h : (∃ u L', Φ u L') → At c n S X) : At c n S X := fun a w hr hs => by
  obtain ⟨e, w', fr, ⟨u, L', _, h2, _⟩, _⟩ := hc w hs []
  exact h ⟨u, L', h2⟩ a w hr hs
theorem join4 {w0 : World} {L : List HP} {x y : AV} (hx : AvOk x) (hy : AvOk y) (hrx : RdA w0 L x) (hry : RdA w0 L y) (hcx : ∀ r ∈ x.rs, r.1.data.length ≤ r.2.2) (hcy : ∀ r ∈ y.rs, r.1.data.length ≤ r.2.2) : ∀ F, CallOk Tb.P w0 (L ++ F) 27 [.agg #[.int .u64 x.id, .int .u64 x.par, .int .u64 x.size, .slice x.ao x.rs.length x.cp], .agg #[.int .u64 y.id, .int .u64 y.par, .int .u64 y.size, .slice y.ao y.rs.length y.cp]] fun u L'' => ∃ L', L'' = L' ++ F ∧ JPost x.ar y.ar L u L' := fun F =>
  (join2 (L := L ++ F) hx hy ⟨hrx.1.ent fun f hf => Star.unapp hf, fun r hr => (hrx.2 r hr).ent fun f hf => Star.unapp hf⟩ ⟨hry.1.ent fun f hf => Star.unapp hf, fun r hr => (hry.2 r hr).ent fun f hf => Star.unapp hf⟩ hcx hcy).mono fun u L'' ⟨ao, cp, rs, h1, h2, h3, h4, h5⟩ => ⟨Rns ao cp rs :: L, h5, ao, cp, rs, h1, h2, h3, h4, rfl⟩
theorem quo4' {k : Nat} (h : k ≤ 33554432) : IntKind.i64.wrap (Int.tdiv ((k : Nat) : Int) 4) = ((k / 4 : Nat) : Int) := by
  have e : Int.tdiv ((k : Nat) : Int) 4 = ((k / 4 : Nat) : Int) := by rw [Int.tdiv_eq_ediv_of_nonneg (by omega)]; omega
  rw [e, wi64 (by omega) (by omega)]

theorem chainL {w0 : World} {L : List HP} {so : Option Addr} {n sc : Nat} {l : List SV} {at_ : Int} (hl : RdS w0 L 2 so (l.map cellsS)) (hn : n = l.length) (hle : n ≤ 1048576) (hok : ∀ v ∈ l, StOk v) (hrd : ∀ v ∈ l, RdSt w0 L v) (hat : -9223372036854775808 ≤ at_ ∧ at_ < 9223372036854775808) :
    CallOk Tb.P w0 L 9 [.slice so n sc, .int .i64 at_] fun u L' => u = .bool true ∧ L' = L := by
  refine enter Try.func9 rfl Try.ntmps9 (Nat.le_of_ble_eq_true rfl) ?_
  have hbl : ∀ v ∈ l, Byt v.b := fun v hv => (hok v hv).1
  refine At.seq ?_
  refine At.reg rfl ?_
  refine Run.as (h := ?_)
  refine Run.fin ?_
  refine At.seq ?_
  refine At.seq ?_
  refine At.reg rfl ?_
  refine Run.call Tb.N18 (hc := heads) (h := ?_)
  rintro _ L9 ⟨rfl, h9⟩
  rw [h9]
  refine Run.not (h := ?_)
  refine Run.fin ?_
  refine At.condF (hx := by rfl) ?_
  refine At.skip ?_
  refine At.seq ?_
  refine At.seq ?_
  refine At.reg rfl ?_
  refine Run.mv (h := ?_)
  refine Run.len Tb.L62 (h := ?_)
  refine Run.eq (h := ?_)
  refine Run.fin ?_
  refine At.cnd' (ht := fun hc40 => ?_) (hf := fun hc40 => ?_)
  · skip
    refine At.seq ?_
    refine At.reg rfl ?_
    refine Run.as (h := ?_)
    refine Run.fin ?_
    refine At.ret ?_
    refine At.then_ret ?_
    exact At.done (hΦ := by exact ⟨by simp [tupleOf], rfl⟩) (hl := by repeat (first | exact SubL.refl | refine SubL.skip ?_))
  · skip
    refine At.skip ?_
    refine At.seq ?_
    obtain ⟨v0, hv0⟩ : ∃ v, l[0]? = some v := ⟨l[0]'(by omega), List.getElem?_eq_getElem _⟩
    have hvm0 := List.mem_of_getElem? hv0
    obtain ⟨v1, v2, v3, v4⟩ := hok v0 hvm0
    obtain ⟨N, hN⟩ : ∃ N, N = v0.b.length := ⟨_, rfl⟩
    refine At.reg rfl ?_
    refine Run.mv (h := ?_)
    refine Run.iaR (ht := Tb.L62) (hR := hl.sub) (j := 0) (hj := rfl) (h1 := by simp; omega) (hn := by omega) (h := ?_)
    refine Run.fa Tb.F65_0 (h := ?_)
    refine Run.ldr (ht := Tb.A23) (hR := hl.sub) (hj := cellsS_at hv0) (h := ?_)
    refine Run.len Tb.L23 (h := ?_)
    refine Run.eqi (b := ((N : Nat) : Int)) (by rw [hN]) ?_
    refine Run.as (h := ?_)
    refine Run.fin ?_
    refine At.seq ?_
    refine At.seq ?_
    refine At.reg rfl ?_
    refine Run.mv (h := ?_)
    refine Run.eq (h := ?_)
    refine Run.mv (h := ?_)
    refine Run.orB 2 2 (ht := fun hg51 => by
        refine Run.mv (h := ?_)
        refine Run.gt (h := ?_)
        exact Run.fin_sc ScEnd.here) (hrest := ?_)
    refine Run.fin ?_
    refine At.cnd' (ht := fun hc51 => ?_) (hf := fun hc51 => ?_)
    · skip
      have hE2 : mkE 1 0 v0.b [⟨0, (N : Nat), false, false, false⟩] = 2 := by unfold mkE; rw [if_pos (by unfold badArg; omega)]
      refine At.seq ?_
      refine At.reg rfl ?_
      refine Run.mv (h := ?_)
      refine Run.iaR (ht := Tb.L62) (hR := hl.sub) (j := 0) (hj := rfl) (h1 := by simp; omega) (hn := by omega) (h := ?_)
      refine Run.fa Tb.F65_0 (h := ?_)
      refine Run.ldr (ht := Tb.A23) (hR := hl.sub) (hj := cellsS_at hv0) (h := ?_)
      refine Run.mv (h := ?_)
      refine Run.cv Tb.I3 Tb.I22 (h := ?_)
      refine Run.eqi (b := ((N : Nat) : Int)) (wu64 (by omega) (by omega)) ?_
      refine Run.bd Tb.B37 (h := ?_)
      refine Run.bs Tb.G24 (h := fun g60 => ?_)
      refine Run.call Tb.N12 (hc := make2 (id := 1) (par := 0) (b := v0.b) (l := [⟨0, (N : Nat), false, false, false⟩]) ⟨by omega, by omega⟩ ⟨by omega, by omega⟩ (hrd v0 hvm0).1.sub rfl v2 (by omega) v1 (.one (he := Els.nil.cons ⟨rfl, by simp [cellsE, Value.oneCell']⟩)) rfl (by simp) (fun x hx => by rw [List.mem_singleton.1 hx]; simp only [ExOk]; omega)) (h := ?_)
      rintro _ _ ⟨ao61, cp61, rs61, hp61, hk61, hq61, rfl, rfl⟩
      rw [hE2]
      refine Run.mv (h := ?_)
      refine Run.ex (h := ?_)
      refine Run.ex (h := ?_)
      refine Run.al Tb.Z28 (h := fun g6 => ?_)
      refine Run.st Tb.S28 (h := ?_)
      refine Run.as (h := ?_)
      refine Run.fin ?_
      refine At.seq ?_
      refine At.reg rfl ?_
      refine Run.mv (h := ?_)
      refine Run.eq (h := ?_)
      refine Run.as (h := ?_)
      refine Run.fin ?_
      refine At.ret ?_
      refine At.then_ret ?_
      exact At.done (hΦ := by exact ⟨by simp [tupleOf], rfl⟩) (hl := by repeat (first | exact SubL.refl | refine SubL.skip ?_))
    · skip
      refine At.skip ?_
      refine At.seq ?_
      have hN1 : 1 ≤ N := by omega
      have hN2 : N ≤ 1048576 := by omega
      clear hc51
      refine At.reg rfl ?_
      refine Run.as (h := ?_)
      refine Run.fin ?_
      refine At.seq ?_
      refine At.reg rfl ?_
      refine Run.as (h := ?_)
      refine Run.fin ?_
      refine At.seq ?_
      refine At.seq ?_
      refine At.reg rfl ?_
      refine Run.as (h := ?_)
      refine Run.fin ?_
      refine At.block ?_
      refine At.chunks (fun _ hf => Star.nilRow (e := 28) (sz := 4) (Star.repack (L1 := []) (Star.nilRow (e := 5) (sz := 1) hf))) ?_
      refine At.loop (α := Nat × List AV × (Option Addr × Nat) × (Option Addr × Nat)) (fun x => ⟨[(0, .slice so n sc), (1, .int .i64 at_), (5, .int .i64 (N : Nat)), (8, .slice x.2.2.1.1 x.2.1.length x.2.2.1.2), (9, .slice x.2.2.2.1 (wsI l N x.1).length x.2.2.2.2), (10, .int .i64 (x.1 : Nat))], row 28 4 x.2.2.1.1 x.2.2.1.2 ((x.2.1).map cellsA) :: pack (x.2.1.map RnsV) :: row 5 1 x.2.2.2.1 x.2.2.2.2 (ints .u8 (wsI l N x.1)) :: L, []⟩) (fun x => x.1 ≤ n ∧ x.2.1.map AV.ar = chn l N x.1 ∧ ∀ v ∈ x.2.1, AvOk v) (fun x => n - x.1) ((0, [], (none, 0), (none, 0))) (⟨Nat.zero_le _, rfl, fun v h => by cases h⟩) (Ent.of (by repeat (first | exact SubE.nil | refine SubE.cons (by first | rfl | (show some _ = some _; simp; done)) ?_)) (by repeat (first | exact SubL.refl | refine SubL.cons (by repeat (first | exact Pick.here | apply Pick.there)) ?_ | refine SubL.skip ?_ | exact SubL.nil))) (fun x hx => ?_)
      obtain ⟨k, vs, ⟨a1, c1⟩, ⟨wo, wc⟩⟩ := x
      dsimp only at hx ⊢
      obtain ⟨hk, hvs, hokv⟩ := hx
      have hvl : vs.length = k := by have := congrArg List.length hvs; simpa [chn] using this
      refine At.seq ?_
      refine At.seq ?_
      refine At.reg rfl ?_
      refine Run.mv (h := ?_)
      refine Run.mv (h := ?_)
      refine Run.len Tb.L62 (h := ?_)
      refine Run.lt (h := ?_)
      refine Run.fin ?_
      refine At.cnd' (ht := fun hc69 => ?_) (hf := fun hc69 => ?_)
      · skip
        have hvk : l[k]? = some (l.getD k SV.z) := by simp [List.getD, show k < l.length by omega]
        have hvm := List.mem_of_getElem? hvk
        obtain ⟨v1, v2, v3, v4⟩ := hok _ hvm
        obtain ⟨hvr, hvh⟩ := hrd _ hvm
        refine At.skip ?_
        refine At.seq ?_
        refine At.block ?_
        refine At.seq ?_
        refine At.reg rfl ?_
        refine Run.mv (h := ?_)
        refine Run.mk (ht := Tb.G23) (hz1 := by simp [Value.oneCell']) (n := N) (ha := rfl) (hb := rfl) (hlen := by simp only [maxLen]; omega) (hby := by omega) (h := fun g73 => ?_)
        refine Run.as (h := ?_)
        refine Run.fin ?_
        refine At.seq ?_
        refine At.seq ?_
        refine At.reg rfl ?_
        refine Run.as (h := ?_)
        refine Run.fin ?_
        refine At.block ?_
        refine At.loop (α := Nat) (fun q => ⟨[(0, .slice so n sc), (1, .int .i64 at_), (5, .int .i64 (N : Nat)), (8, .slice a1 vs.length c1), (9, .slice wo (wsI l N k).length wc), (10, .int .i64 (k : Nat)), (11, .slice (some ⟨g73, 0, none⟩) N N), (12, .int .i64 (q : Nat))], row 5 1 (some ⟨g73, 0, none⟩) N (ints .u8 (nwTo N (l.getD k SV.z) q)) :: row 28 4 a1 c1 ((vs).map cellsA) :: pack (vs.map RnsV) :: row 5 1 wo wc (ints .u8 (wsI l N k)) :: L, []⟩) (fun q => q ≤ N) (fun q => N - q) (0) (Nat.zero_le _) (Ent.of (by repeat (first | exact SubE.nil | refine SubE.cons (by first | rfl | (show some _ = some _; simp; done)) ?_)) (by rw [nwTo_zero, ← ints_rep]; exact SubL.refl)) (fun q hq => ?_)
        refine At.seq ?_
        refine At.seq ?_
        refine At.reg rfl ?_
        refine Run.mv (h := ?_)
        refine Run.mv (h := ?_)
        refine Run.lt (h := ?_)
        refine Run.fin ?_
        refine At.cnd' (ht := fun hc76 => ?_) (hf := fun hc76 => ?_)
        · skip
          refine At.skip ?_
          refine At.seq ?_
          refine At.cut (α := Unit) (fun _ => ⟨[(0, .slice so n sc), (1, .int .i64 at_), (5, .int .i64 (N : Nat)), (8, .slice a1 vs.length c1), (9, .slice wo (wsI l N k).length wc), (10, .int .i64 (k : Nat)), (11, .slice (some ⟨g73, 0, none⟩) N N), (12, .int .i64 (q : Nat))], row 5 1 (some ⟨g73, 0, none⟩) N (ints .u8 (nwTo N (l.getD k SV.z) (q + 1))) :: row 28 4 a1 c1 ((vs).map cellsA) :: pack (vs.map RnsV) :: row 5 1 wo wc (ints .u8 (wsI l N k)) :: L, []⟩) (fun _ => True) ?_ (fun _ hx => ?_)
          · skip
            refine At.block ?_
            refine At.seq ?_
            refine At.seq ?_
            refine At.reg rfl ?_
            refine Run.mv (h := ?_)
            refine Run.mv (h := ?_)
            refine Run.mv (h := ?_)
            refine Run.iaR (ht := Tb.L62) (hR := hl.sub) (j := k) (hj := rfl) (h1 := by simp; omega) (hn := by omega) (h := ?_)
            refine Run.fa Tb.F65_0 (h := ?_)
            refine Run.ldr (ht := Tb.A23) (hR := hl.sub) (hj := cellsS_at hvk) (h := ?_)
            refine Run.len Tb.L23 (h := ?_)
            refine Run.lt (h := ?_)
            refine Run.fin ?_
            refine At.cnd' (ht := fun hc86 => ?_) (hf := fun hc86 => ?_)
            · skip
              refine At.reg rfl ?_
              refine Run.mv (h := ?_)
              refine Run.mv (h := ?_)
              refine Run.mv (h := ?_)
              refine Run.mv (h := ?_)
              refine Run.iaR (ht := Tb.L62) (hR := hl.sub) (j := k) (hj := rfl) (h1 := by simp; omega) (hn := by omega) (h := ?_)
              refine Run.fa Tb.F65_0 (h := ?_)
              refine Run.ldr (ht := Tb.A23) (hR := hl.sub) (hj := cellsS_at hvk) (h := ?_)
              refine Run.mv (h := ?_)
              refine Run.iaR (ht := Tb.L23) (hR := hvr.sub) (j := q) (hj := rfl) (h1 := by rw [ints_length]; omega) (hn := by omega) (h := ?_)
              refine Run.ldr0 (ht := Tb.A5) (hR := hvr.sub) (hj := Sx.ints_at (by omega)) (h := ?_)
              refine Run.iaR (ht := Tb.L23) (hR := .one) (j := q) (hj := rfl) (h1 := by rw [ints_length, nwTo_len (by omega)]; omega) (hn := by omega) (h := ?_)
              refine Run.str0 (hsz := Tb.S5) (hj := Sx.ints_at (by rw [nwTo_len (by omega)]; omega)) (h := ?_)
              refine Run.chunks (L' := row 5 1 (some ⟨g73, 0, none⟩) N (ints .u8 ((nwTo N (l.getD k SV.z) q).set q ((l.getD k SV.z).b.getD q 0))) :: row 28 4 a1 c1 ((vs).map cellsA) :: pack (vs.map RnsV) :: row 5 1 wo wc (ints .u8 (wsI l N k)) :: L) (fun _ hf => by rw [ints_set] at hf; exact hf) ?_
              refine Run.fin ?_
              refine At.seq ?_
              refine At.reg rfl ?_
              refine Run.mv (h := ?_)
              refine Run.quo (hb := by decide) (h := ?_)
              refine Run.eqi (b := ((q / 4 : Nat) : Int)) (quo4' (by omega)) ?_
              refine Run.mv (h := ?_)
              refine Run.mv (h := ?_)
              refine Run.iaR (ht := Tb.L62) (hR := hl.sub) (j := k) (hj := rfl) (h1 := by simp; omega) (hn := by omega) (h := ?_)
              refine Run.fa Tb.F65_1 (h := ?_)
              refine Run.ldr (ht := Tb.A63) (hR := hl.sub) (hj := cellsS_at hvk) (h := ?_)
              refine Run.len Tb.L63 (h := ?_)
              refine Run.lt (h := ?_)
              refine Run.mv (h := ?_)
              refine Run.andB 9 9 (bq := (l.getD k SV.z).h.getD (q / 4) false) (ht := fun hg117 => by
                  refine Run.mv (h := ?_)
                  refine Run.mv (h := ?_)
                  refine Run.iaR (ht := Tb.L62) (hR := hl.sub) (j := k) (hj := rfl) (h1 := by simp; omega) (hn := by omega) (h := ?_)
                  refine Run.fa Tb.F65_1 (h := ?_)
                  refine Run.ldr (ht := Tb.A63) (hR := hl.sub) (hj := cellsS_at hvk) (h := ?_)
                  refine Run.mv (h := ?_)
                  refine Run.quo (hb := by decide) (h := ?_)
                  refine Run.eqi (b := ((q / 4 : Nat) : Int)) (quo4' (by omega)) ?_
                  refine Run.iaR (ht := Tb.L63) (hR := hvh.sub) (j := q / 4) (hj := rfl) (h1 := by rw [bools, List.length_map]; omega) (hn := by omega) (h := ?_)
                  refine Run.ldr0 (ht := Tb.A4) (hR := hvh.sub) (hj := bools_at (by omega)) (h := ?_)
                  exact Run.fin_sc ScEnd.here) (hrest := ?_)
              refine Run.fin ?_
              refine At.cnd' (ht := fun hc117 => ?_) (hf := fun hc117 => ?_)
              · skip
                have hq4 := hc117.2
                refine At.reg rfl ?_
                refine Run.mv (h := ?_)
                refine Run.mv (h := ?_)
                refine Run.iaR (ht := Tb.L23) (hR := .one) (j := q) (hj := rfl) (h1 := by simp [nwTo_len (show q ≤ N by omega)]; omega) (hn := by omega) (h := ?_)
                refine Run.str0 (hsz := Tb.S5) (hj := Sx.ints_at (by simp [nwTo_len (show q ≤ N by omega)]; omega)) (h := ?_)
                refine Run.chunks (L' := row 5 1 (some ⟨g73, 0, none⟩) N (ints .u8 (nwTo N (l.getD k SV.z) (q + 1))) :: row 28 4 a1 c1 ((vs).map cellsA) :: pack (vs.map RnsV) :: row 5 1 wo wc (ints .u8 (wsI l N k)) :: L) (fun _ hf => by rw [ints_set, List.set_set, nwTo_set (by omega) (by unfold nowAt; rw [if_pos hq4])] at hf; exact hf) ?_
                refine Run.fin ?_
                refine At.inb_norm ?_
                exact At.join (()) (trivial)
              · skip
                have hq4 : ¬ (l.getD k SV.z).h.getD (q / 4) false = true := fun hh => hc117 ⟨by have := getDB_lt hh; omega, hh⟩
                refine At.chunks (L' := row 5 1 (some ⟨g73, 0, none⟩) N (ints .u8 (nwTo N (l.getD k SV.z) (q + 1))) :: row 28 4 a1 c1 ((vs).map cellsA) :: pack (vs.map RnsV) :: row 5 1 wo wc (ints .u8 (wsI l N k)) :: L) (fun _ hf => by rw [nwTo_set (by omega) (by unfold nowAt; rw [if_neg hq4])] at hf; exact hf) ?_
                refine At.skip ?_
                refine At.inb_norm ?_
                exact At.join (()) (trivial)
            · skip
              refine At.chunks (L' := row 5 1 (some ⟨g73, 0, none⟩) N (ints .u8 ((nwTo N (l.getD k SV.z) q).set q ((l.getD k SV.z).b.getD q 0))) :: row 28 4 a1 c1 ((vs).map cellsA) :: pack (vs.map RnsV) :: row 5 1 wo wc (ints .u8 (wsI l N k)) :: L) (fun _ hf => by rw [show (l.getD k SV.z).b.getD q 0 = 0 from getD_far (by omega), nwTo_nil (by omega)]; exact hf) ?_
              refine At.skip ?_
              refine At.seq ?_
              refine At.reg rfl ?_
              refine Run.mv (h := ?_)
              refine Run.quo (hb := by decide) (h := ?_)
              refine Run.eqi (b := ((q / 4 : Nat) : Int)) (quo4' (by omega)) ?_
              refine Run.mv (h := ?_)
              refine Run.mv (h := ?_)
              refine Run.iaR (ht := Tb.L62) (hR := hl.sub) (j := k) (hj := rfl) (h1 := by simp; omega) (hn := by omega) (h := ?_)
              refine Run.fa Tb.F65_1 (h := ?_)
              refine Run.ldr (ht := Tb.A63) (hR := hl.sub) (hj := cellsS_at hvk) (h := ?_)
              refine Run.len Tb.L63 (h := ?_)
              refine Run.lt (h := ?_)
              refine Run.mv (h := ?_)
              refine Run.andB 9 9 (bq := (l.getD k SV.z).h.getD (q / 4) false) (ht := fun hg117 => by
                  refine Run.mv (h := ?_)
                  refine Run.mv (h := ?_)
                  refine Run.iaR (ht := Tb.L62) (hR := hl.sub) (j := k) (hj := rfl) (h1 := by simp; omega) (hn := by omega) (h := ?_)
                  refine Run.fa Tb.F65_1 (h := ?_)
                  refine Run.ldr (ht := Tb.A63) (hR := hl.sub) (hj := cellsS_at hvk) (h := ?_)
                  refine Run.mv (h := ?_)
                  refine Run.quo (hb := by decide) (h := ?_)
                  refine Run.eqi (b := ((q / 4 : Nat) : Int)) (quo4' (by omega)) ?_
                  refine Run.iaR (ht := Tb.L63) (hR := hvh.sub) (j := q / 4) (hj := rfl) (h1 := by rw [bools, List.length_map]; omega) (hn := by omega) (h := ?_)
                  refine Run.ldr0 (ht := Tb.A4) (hR := hvh.sub) (hj := bools_at (by omega)) (h := ?_)
                  exact Run.fin_sc ScEnd.here) (hrest := ?_)
              refine Run.fin ?_
              refine At.cnd' (ht := fun hc117 => ?_) (hf := fun hc117 => ?_)
              · skip
                have hq4 := hc117.2
                refine At.reg rfl ?_
                refine Run.mv (h := ?_)
                refine Run.mv (h := ?_)
                refine Run.iaR (ht := Tb.L23) (hR := .one) (j := q) (hj := rfl) (h1 := by simp [nwTo_len (show q ≤ N by omega)]; omega) (hn := by omega) (h := ?_)
                refine Run.str0 (hsz := Tb.S5) (hj := Sx.ints_at (by simp [nwTo_len (show q ≤ N by omega)]; omega)) (h := ?_)
                refine Run.chunks (L' := row 5 1 (some ⟨g73, 0, none⟩) N (ints .u8 (nwTo N (l.getD k SV.z) (q + 1))) :: row 28 4 a1 c1 ((vs).map cellsA) :: pack (vs.map RnsV) :: row 5 1 wo wc (ints .u8 (wsI l N k)) :: L) (fun _ hf => by rw [ints_set, List.set_set, nwTo_set (by omega) (by unfold nowAt; rw [if_pos hq4])] at hf; exact hf) ?_
                refine Run.fin ?_
                refine At.inb_norm ?_
                exact At.join (()) (trivial)
              · skip
                have hq4 : ¬ (l.getD k SV.z).h.getD (q / 4) false = true := fun hh => hc117 ⟨by have := getDB_lt hh; omega, hh⟩
                refine At.chunks (L' := row 5 1 (some ⟨g73, 0, none⟩) N (ints .u8 (nwTo N (l.getD k SV.z) (q + 1))) :: row 28 4 a1 c1 ((vs).map cellsA) :: pack (vs.map RnsV) :: row 5 1 wo wc (ints .u8 (wsI l N k)) :: L) (fun _ hf => by rw [nwTo_set (by omega) (by unfold nowAt; rw [if_neg hq4])] at hf; exact hf) ?_
                refine At.skip ?_
                refine At.inb_norm ?_
                exact At.join (()) (trivial)
          · skip
            refine At.reg rfl ?_
            refine Run.mv (h := ?_)
            refine Run.add (h := ?_)
            refine Run.eqi (b := ((q + 1 : Nat) : Int)) (by rw [wi64 (by omega) (by omega)]; omega) ?_
            refine Run.as (h := ?_)
            refine Run.fin ?_
            exact At.again (q + 1) (by omega) (by omega)
        · skip
          refine At.exit ?_
          refine At.then_exit ?_
          refine At.then_exit ?_
          refine At.inb_hit ?_
          refine At.seq ?_
          obtain rfl : N = q := by omega
          refine At.chunks (L' := row 5 1 (some ⟨g73, 0, none⟩) N (ints .u8 (nwI l N k)) :: row 28 4 a1 c1 ((vs).map cellsA) :: pack (vs.map RnsV) :: row 5 1 wo wc (ints .u8 (wsI l N k)) :: L) (fun _ hf => by rw [nwTo_end] at hf; exact hf) ?_
          refine At.rows (hp := by repeat (first | exact Pick.here | apply Pick.there)) (e := 5) (ao := wo) (cp := wc) (fun hEw hBw hsw hcw _ _ => ?_)
          refine At.reg rfl ?_
          refine Run.mv (h := ?_)
          refine Run.add (h := ?_)
          refine Run.eqi (b := ((k + 1 : Nat) : Int)) (by rw [wi64 (by omega) (by omega)]; omega) ?_
          refine Run.cv Tb.I3 Tb.I22 (h := ?_)
          refine Run.eqi (b := ((k + 1 : Nat) : Int)) (wu64 (by omega) (by omega)) ?_
          refine Run.mv (h := ?_)
          refine Run.cv Tb.I3 Tb.I22 (h := ?_)
          refine Run.eqi (b := ((k : Nat) : Int)) (wu64 (by omega) (by omega)) ?_
          refine Run.mv (h := ?_)
          refine Run.mv (h := ?_)
          refine Run.mv (h := ?_)
          refine Run.eqv (v' := .slice (some ⟨g73, 0, none⟩) (nwI l N k).length N) (by rw [nw_len]) ?_
          refine Run.mv (h := ?_)
          refine Run.mv (h := ?_)
          refine Run.iaR (ht := Tb.L62) (hR := hl.sub) (j := k) (hj := rfl) (h1 := by simp; omega) (hn := by omega) (h := ?_)
          refine Run.ldrA (ht := Tb.A65) (hn := Tb.S65) (hR := hl.sub) (hj := cellsS_at hvk) (h := ?_)
          refine Run.call Tb.N29 (hc := extents_ (p := wsI l N k) (d := nwI l N k) (h := (l.getD k SV.z).h) (RdS.own (by repeat (first | exact Pick.here | apply Pick.there)) ⟨hEw, hBw, hsw⟩) .one hvh.sub (by simpa using hcw) (by rw [nw_len]; exact Nat.le_refl _) (by rw [nw_len]; omega) (Nat.le_trans ws_len (by omega)) (by omega)) (h := ?_)
          rintro _ _ ⟨ao134, cp134, hx134, rfl, rfl⟩
          refine Run.call Tb.N12 (hc := mkI_call (l := l) (N := N) (k := k) hbl hN1 hN2 (by omega) .one (Nat.le_refl _) (RdS.own (by repeat (first | exact Pick.here | apply Pick.there)) hx134)) (h := ?_)
          rintro _ _ ⟨ao3, cp3, rs3, hp3, hk3, hq3, rfl, rfl⟩
          refine Run.mv (h := ?_)
          refine Run.ex (h := ?_)
          refine Run.ex (h := ?_)
          refine Run.al Tb.Z28 (h := fun g13 => ?_)
          refine Run.st Tb.S28 (h := ?_)
          refine Run.as (h := ?_)
          refine Run.fin ?_
          refine At.seq ?_
          refine At.rns (ao := ao3) (cp := cp3) (rs := rs3) (h := fun hr3 _ _ => ?_)
          have hmk := mkI_eq (i := k) hbl hN1 (show N ≤ 33554432 by omega)
          have haa : (⟨((k + 1 : Nat) : Int), ((k : Nat) : Int), ((N : Nat) : Int), pures rs3⟩ : Ar) = mkI l N k := by rw [hp3, hmk]
          have hm := mkI_may (i := k) hbl hN1 (show N ≤ 33554432 by omega)
          have hl3 : (mkI l N k).runs.length ≤ 262144 := by rw [← hp3]; simpa [pures] using hq3
          have hbig := mkI_big hbl hN1 hN2 hl3
          have hF : ArF (mkI l N k) := by rw [← haa]; exact arF_of hk3 ⟨by omega, by omega⟩ ⟨by omega, by omega⟩ ⟨by omega, by omega⟩ (by omega) (by rw [haa]; exact hm)
          have henc : Byt (enc (mkI l N k)) := enc_byt hF
          have hid : (mkI l N k).id = ((k + 1 : Nat) : Int) := by rw [hmk]
          have hpar : (mkI l N k).par = ((k : Nat) : Int) := by rw [hmk]
          have hsz : (mkI l N k).size = ((N : Nat) : Int) := by rw [hmk]
          refine At.reg rfl ?_
          refine Run.ldA Tb.A28 Tb.S28 (h := ?_)
          refine Run.call Tb.N20 (hc := encode (id := ((k + 1 : Nat) : Int)) (par := ((k : Nat) : Int)) (size := ((N : Nat) : Int)) (rs := rs3) (hr3 (by repeat (first | exact Pick.here | apply Pick.there))).1 rfl (by omega) hk3 ⟨by omega, by omega⟩ ⟨by omega, by omega⟩ ⟨by omega, by omega⟩ (hr3 (by repeat (first | exact Pick.here | apply Pick.there))).2 (by rw [haa]; exact hbig)) (h := ?_)
          rintro _ _ (⟨_, q, rfl, rfl⟩ | ⟨h, _⟩)
          rotate_left
          · rw [haa] at h; exact absurd hm h
          rw [haa]
          refine Run.mv (h := ?_)
          refine Run.ex (h := ?_)
          refine Run.ex (h := ?_)
          refine Run.as (h := ?_)
          refine Run.as (h := ?_)
          refine Run.fin ?_
          refine At.seq ?_
          refine At.reg rfl ?_
          refine Run.mv (h := ?_)
          refine Run.call Tb.N22 (hc := (decode (bs := enc (mkI l N k)) (n := (enc (mkI l N k)).length) .one rfl (Nat.le_refl _) (by omega) henc).ok) (h := ?_)
          rintro _ _ (⟨e2, he2, rfl, rfl⟩ | ⟨a, ao9, cp9, rs9, he2, hp9, hk9, rfl, rfl⟩)
          · rw [dec_enc hF hm] at he2; cases he2
          rw [dec_enc hF hm] at he2
          simp only [Sum.inr.injEq] at he2
          subst he2
          have hr9l : rs9.length ≤ 1099511627776 := by
            have h9 : (pures rs9).length ≤ 262144 := by rw [hp9]; exact hl3
            simp only [pures, List.length_map] at h9; omega
          rw [hid, hpar, hsz]
          refine Run.mv (h := ?_)
          refine Run.ex (h := ?_)
          refine Run.ex (h := ?_)
          refine Run.al Tb.Z28 (h := fun g17 => ?_)
          refine Run.st Tb.S28 (h := ?_)
          refine Run.as (h := ?_)
          refine Run.fin ?_
          refine At.seq ?_
          refine At.seq ?_
          refine At.reg rfl ?_
          refine Run.mv (h := ?_)
          refine Run.ne (h := ?_)
          refine Run.mv (h := ?_)
          refine Run.orB 2 2 (ht := fun hg153 => by
              refine Run.mv (h := ?_)
              refine Run.ne (h := ?_)
              exact Run.fin_sc ScEnd.here) (hrest := ?_)
          refine Run.mv (h := ?_)
          refine Run.orB 2 6 (ht := fun hg157 => by
              refine Run.mv (h := ?_)
              refine Run.ne (h := ?_)
              exact Run.fin_sc ScEnd.here) (hrest := ?_)
          refine Run.fin ?_
          refine At.cnd' (ht := fun hc157 => ?_) (hf := fun hc157 => ?_)
          · skip
            exact absurd hc157 (by simp)
          · skip
            refine At.skip ?_
            refine At.seq ?_
            refine At.reg rfl ?_
            refine Run.mv (h := ?_)
            refine Run.ldA Tb.A28 Tb.S28 (h := ?_)
            refine Run.bs Tb.G53 (h := fun g160 => ?_)
            refine Run.ap (ht := Tb.G53) (hR := .one (he := Els.nil.cons ⟨rfl, by simp [cellsA, Value.oneCell']⟩)) (hn := by simp) (n2 := (vs ++ [(⟨((k + 1 : Nat) : Int), ((k : Nat) : Int), ((N : Nat) : Int), ao9, cp9, rs9⟩ : AV)]).length) (l2 := vs.map cellsA ++ [cellsA (⟨((k + 1 : Nat) : Int), ((k : Nat) : Int), ((N : Nat) : Int), ao9, cp9, rs9⟩ : AV)]) (hl2 := rfl) (hn2 := by simp) (hlen := by simp [maxLen]; omega) (hby := by simp; omega) (h := fun ao161 cp161 => ?_)
            refine Run.as (h := ?_)
            refine Run.fin ?_
            refine At.reg rfl ?_
            refine Run.mv (h := ?_)
            refine Run.eqv (v' := .slice (some ⟨g73, 0, none⟩) (nwI l N k).length N) (by rw [nw_len]) ?_
            refine Run.as (h := ?_)
            refine Run.fin ?_
            refine At.inb_norm ?_
            refine At.reg rfl ?_
            refine Run.mv (h := ?_)
            refine Run.add (h := ?_)
            refine Run.eqi (b := ((k + 1 : Nat) : Int)) (by rw [wi64 (by omega) (by omega)]; omega) ?_
            refine Run.as (h := ?_)
            refine Run.fin ?_
            refine At.chunks (L' := row 28 4 ao161 cp161 (((vs ++ [(⟨((k + 1 : Nat) : Int), ((k : Nat) : Int), ((N : Nat) : Int), ao9, cp9, rs9⟩ : AV)])).map cellsA) :: pack ((vs ++ [(⟨((k + 1 : Nat) : Int), ((k : Nat) : Int), ((N : Nat) : Int), ao9, cp9, rs9⟩ : AV)]).map RnsV) :: row 5 1 (some ⟨g73, 0, none⟩) N (ints .u8 (wsI l N (k + 1))) :: L) (fun _ hf => by
              have h9 := SubL.star (L' := row 28 4 ao161 cp161 (vs.map cellsA ++ [cellsA (⟨((k + 1 : Nat) : Int), ((k : Nat) : Int), ((N : Nat) : Int), ao9, cp9, rs9⟩ : AV)]) :: RnsV (⟨((k + 1 : Nat) : Int), ((k : Nat) : Int), ((N : Nat) : Int), ao9, cp9, rs9⟩ : AV) :: pack (vs.map RnsV) :: row 5 1 (some ⟨g73, 0, none⟩) N (ints .u8 (wsI l N (k + 1))) :: L) (by repeat (first | exact SubL.refl | refine SubL.cons (by repeat (first | exact Pick.here | apply Pick.there)) ?_ | refine SubL.skip ?_ | exact SubL.nil)) hf
              rw [List.map_append, List.map_append]
              exact Star.cons_mono (fun _ h => pack_snoc.2 h) h9) ?_
            exact At.again ((k + 1, vs ++ [(⟨((k + 1 : Nat) : Int), ((k : Nat) : Int), ((N : Nat) : Int), ao9, cp9, rs9⟩ : AV)], (ao161, cp161), (some ⟨g73, 0, none⟩, N))) (⟨by dsimp only; omega, by dsimp only; rw [chn_succ, List.map_append, hvs]; simp [AV.ar, hp9, hmk], fun v hv => by rcases List.mem_append.1 hv with hv | hv; exact hokv v hv; rw [List.mem_singleton.1 hv]; exact ⟨⟨by dsimp only; omega, by dsimp only; omega⟩, ⟨by dsimp only; omega, by dsimp only; omega⟩, ⟨by dsimp only; omega, by dsimp only; omega⟩, hr9l, hk9⟩⟩) (by dsimp only; omega)
      · skip
        refine At.exit ?_
        refine At.then_exit ?_
        refine At.then_exit ?_
        refine At.inb_hit ?_
        refine At.seq ?_
        obtain rfl : k = n := by omega
        refine At.rows (hp := by repeat (first | exact Pick.here | apply Pick.there)) (e := 5) (ao := wo) (cp := wc) (fun hEw hBw hsw hcw _ _ => ?_)
        refine At.rows (hp := by repeat (first | exact Pick.here | apply Pick.there)) (e := 28) (ao := a1) (cp := c1) (fun hE hB hsp hcpc _ _ => ?_)
        refine At.vs (vs := vs) (h := fun hvs3 => ?_)
        refine At.vcaps (vs := vs) (h := fun hcaps => ?_)
        have hN3 : N ≤ 33554432 := by omega
        have hne : chn l N k ≠ [] := fun h => by have := congrArg List.length h; simp [chn] at this; omega
        have hRB : restB (vs.map AV.ar) = wsI l N k := by rw [hvs, restB_ok hne (by rw [chn_len]; exact chn_ok hbl hN1 hN3 k (Nat.le_refl _)), chn_rest hbl hN1 hN3 (by omega)]
        have hBA : badAt (vs.map AV.ar) = (0, 0) := by rw [hvs, badAt_ok hne (by rw [chn_len]; exact chn_ok hbl hN1 hN3 k (Nat.le_refl _))]
        have hwl : (wsI l N k).length ≤ N := ws_len
        have hcp2 : vs.length ≤ c1 := by simpa using hcpc
        have htk : (vs.map cellsA).take vs.length = vs.map cellsA := List.take_of_length_le (by simp)
        refine At.reg rfl ?_
        refine Run.mv (h := ?_)
        refine Run.call Tb.N25 (hc := restore2 (l := vs) (RdS.own (by repeat (first | exact Pick.here | apply Pick.there)) ⟨hE, hB, hsp⟩) (by simp) (by omega) hokv (hvs3 _ _ (by repeat (first | exact Pick.here | apply Pick.there)))) (h := ?_)
        rintro _ _ ⟨ao165, cp165, hq165, rfl, rfl⟩
        have hs165 := rsh hq165
        rw [hRB] at hs165 ⊢
        rw [hBA]
        dsimp only
        refine Run.mv (h := ?_)
        refine Run.ex (h := ?_)
        refine Run.ex (h := ?_)
        refine Run.ex (h := ?_)
        refine Run.as (h := ?_)
        refine Run.as (h := ?_)
        refine Run.as (h := ?_)
        refine Run.fin ?_
        refine At.seq ?_
        refine At.seq ?_
        refine At.reg rfl ?_
        refine Run.mv (h := ?_)
        refine Run.ne (h := ?_)
        refine Run.mv (h := ?_)
        refine Run.orB 4 2 (ht := fun hg176 => by
            refine Run.mv (h := ?_)
            refine Run.mv (h := ?_)
            refine Run.call Tb.N15 (hc := rsame (RdS.own (by repeat (first | exact Pick.here | apply Pick.there)) hs165) (RdS.own (by repeat (first | exact Pick.here | apply Pick.there)) ⟨hEw, hBw, hsw⟩) (by omega)) (h := ?_)
            rintro _ _ ⟨rfl, rfl⟩
            refine Run.not (h := ?_)
            exact Run.fin_sc ScEnd.here) (hrest := ?_)
        refine Run.mv (h := ?_)
        refine Run.orB 3 8 (ht := fun hg181 => by
            refine Run.mv (h := ?_)
            refine Run.len Tb.L53 (h := ?_)
            refine Run.lt (h := ?_)
            exact Run.fin_sc ScEnd.here) (hrest := ?_)
        refine Run.fin ?_
        refine At.cnd' (ht := fun hc181 => ?_) (hf := fun hc181 => ?_)
        · skip
          refine At.seq ?_
          refine At.reg rfl ?_
          refine Run.mv (h := ?_)
          refine Run.eq (h := ?_)
          refine Run.mv (h := ?_)
          refine Run.andB 3 2 (bq := decide (wsI l N k = wsI l N k)) (ht := fun hg188 => by
              refine Run.mv (h := ?_)
              refine Run.mv (h := ?_)
              refine Run.call Tb.N15 (hc := rsame (RdS.own (by repeat (first | exact Pick.here | apply Pick.there)) hs165) (RdS.own (by repeat (first | exact Pick.here | apply Pick.there)) ⟨hEw, hBw, hsw⟩) (by omega)) (h := ?_)
              rintro _ _ ⟨rfl, rfl⟩
              exact Run.fin_sc ScEnd.here) (hrest := ?_)
          refine Run.as (h := ?_)
          refine Run.fin ?_
          refine At.ret ?_
          refine At.then_ret ?_
          exact At.done (hΦ := by exact ⟨by simp [tupleOf], rfl⟩) (hl := by repeat (first | exact SubL.refl | refine SubL.skip ?_))
        · skip
          refine At.skip ?_
          refine At.seq ?_
          obtain ⟨m, hmv⟩ : ∃ m, vs.length = m + 2 := ⟨vs.length - 2, by omega⟩
          obtain ⟨kk, hkk, hkl⟩ : ∃ kk : Nat, Int.tmod (IntKind.u64.wrap at_) ((m + 1 : Nat) : Int) = kk ∧ kk < m + 1 := by
            have h0 := wrap_nn (x := at_)
            have h1 := Int.tmod_nonneg ((m + 1 : Nat) : Int) h0
            have h2 := Int.tmod_lt_of_pos (IntKind.u64.wrap at_) (show (0 : Int) < ((m + 1 : Nat) : Int) by omega)
            exact ⟨(Int.tmod (IntKind.u64.wrap at_) ((m + 1 : Nat) : Int)).toNat, by omega, by omega⟩
          obtain ⟨x, hx⟩ : ∃ x, vs[kk]? = some x := ⟨vs[kk]'(by omega), List.getElem?_eq_getElem _⟩
          obtain ⟨y, hy⟩ : ∃ y, vs[kk + 1]? = some y := ⟨vs[kk + 1]'(by omega), List.getElem?_eq_getElem _⟩
          have hxm := List.mem_of_getElem? hx
          have hym := List.mem_of_getElem? hy
          have hxa : x.ar = mkI l N kk := by have := ar_at hx; rw [hvs, chn_at (by omega)] at this; exact (Option.some.inj this).symm
          have hya : y.ar = mkI l N (kk + 1) := by have := ar_at hy; rw [hvs, chn_at (by omega)] at this; exact (Option.some.inj this).symm
          have hys : y.size = x.size := by
            have h1 : y.ar.size = x.ar.size := by rw [hxa, hya, mkI_eq hbl hN1 hN3, mkI_eq hbl hN1 hN3]
            exact h1
          have hJr := join_eq (x := x) (y := y) (by rw [hxa]; exact mkI_may hbl hN1 hN3) (by rw [hya]; exact mkI_may hbl hN1 hN3) hys (hokv x hxm) (hokv y hym)
          rw [hxa, hya] at hJr
          obtain ⟨hjA, hjE⟩ := jn_eq hbl hN1 hN3 hJr
          refine At.reg rfl ?_
          refine Run.mv (h := ?_)
          refine Run.cv Tb.I3 Tb.I22 (h := ?_)
          refine Run.mv (h := ?_)
          refine Run.len Tb.L53 (h := ?_)
          refine Run.sub (h := ?_)
          refine Run.eqi (b := ((m + 1 : Nat) : Int)) (by rw [wi64 (by omega) (by omega)]; omega) ?_
          refine Run.cv Tb.I3 Tb.I22 (h := ?_)
          refine Run.eqi (b := ((m + 1 : Nat) : Int)) (wu64 (by omega) (by omega)) ?_
          refine Run.rem (hb := by omega) (h := ?_)
          refine Run.eqi (b := ((kk : Nat) : Int)) hkk ?_
          refine Run.cv Tb.I22 Tb.I3 (h := ?_)
          refine Run.eqi (b := ((kk : Nat) : Int)) (wi64 (by omega) (by omega)) ?_
          refine Run.as (h := ?_)
          refine Run.fin ?_
          refine At.seq ?_
          refine At.inh (hc := join2 (x := x) (y := y) (hokv x hxm) (hokv y hym) (hvs3 _ _ (by repeat (first | exact Pick.here | apply Pick.there)) x hxm) (hvs3 _ _ (by repeat (first | exact Pick.here | apply Pick.there)) y hym) (hcaps x hxm) (hcaps y hym)) (h := fun hin33 => ?_)
          refine At.draw [(0, 0), (1, 0), (2, 0), (4, 0), (5, 0), (6, 0), (7, 0), (3, 1), (8, 1), (9, 4), (10, 0), (11, 0), (12, 0), (13, 2), (14, 3), (15, 0)] Tb.mixed (by kernel_rfl) ?_
          refine Run.mv (h := ?_)
          refine Run.mv (h := ?_)
          refine Run.iaR (ht := Tb.L53) (hR := RdS.own (by repeat (first | exact Pick.here | apply Pick.there)) ⟨hE, hB, hsp⟩) (j := kk) (hj := rfl) (h1 := by simp; omega) (hn := by omega) (h := ?_)
          refine Run.mv (h := ?_)
          refine Run.mv (h := ?_)
          refine Run.add (h := ?_)
          refine Run.eqi (b := ((kk + 1 : Nat) : Int)) (by rw [wi64 (by omega) (by omega)]; omega) ?_
          refine Run.iaR (ht := Tb.L53) (hR := RdS.own (by repeat (first | exact Pick.here | apply Pick.there)) ⟨hE, hB, hsp⟩) (j := kk + 1) (hj := rfl) (h1 := by simp; omega) (hn := by omega) (h := ?_)
          refine Run.ldrA (ht := Tb.A28) (hn := Tb.S28) (hR := RdS.own (by repeat (first | exact Pick.here | apply Pick.there)) ⟨hE, hB, hsp⟩) (hj := cellsA_at hx) (h := ?_)
          refine Run.ldrA (ht := Tb.A28) (hn := Tb.S28) (hR := RdS.own (by repeat (first | exact Pick.here | apply Pick.there)) ⟨hE, hB, hsp⟩) (hj := cellsA_at hy) (h := ?_)
          refine Run.call4 Tb.N27 (hc := join4 (x := x) (y := y) (hokv x hxm) (hokv y hym) (hvs3 _ _ (by repeat (first | exact Pick.here | apply Pick.there)) x hxm) (hvs3 _ _ (by repeat (first | exact Pick.here | apply Pick.there)) y hym) (hcaps x hxm) (hcaps y hym)) (hin := fun _ => hin33) (hk := noun (by kernel_rfl)) (h := ?_)
          rintro _ _ ⟨ao4, cp4, rs4, hp4, hk4, hl4, rfl, rfl⟩
          rw [hxa, hya, hjA] at hp4 ⊢
          rw [hjE]
          dsimp only at hp4 ⊢
          refine Run.mv (h := ?_)
          refine Run.ex (h := ?_)
          refine Run.ex (h := ?_)
          refine Run.al Tb.Z28 (h := fun g23 => ?_)
          refine Run.st Tb.S28 (hk := noun (by kernel_rfl)) (h := ?_)
          refine Run.as (h := ?_)
          refine Run.fin ?_
          refine At.seq ?_
          refine At.rns (ao := ao4) (cp := cp4) (rs := rs4) (h := fun hr4 _ _ => ?_)
          have hmL : (vs.take kk ++ [(⟨((kk + 2 : Nat) : Int), ((kk : Nat) : Int), ((N : Nat) : Int), ao4, cp4, rs4⟩ : AV)] ++ vs.drop (kk + 2)).map AV.ar = lessL l N k kk (⟨((kk + 2 : Nat) : Int), ((kk : Nat) : Int), ((N : Nat) : Int), rruns (cells2 (mkI l N kk) (mkI l N (kk + 1)))⟩ : Ar) := by
            rw [List.map_append, List.map_append, List.map_take, List.map_drop, hvs]
            simp [lessL, AV.ar, hp4]
          have hRL : restB ((vs.take kk ++ [(⟨((kk + 2 : Nat) : Int), ((kk : Nat) : Int), ((N : Nat) : Int), ao4, cp4, rs4⟩ : AV)] ++ vs.drop (kk + 2)).map AV.ar) = wsI l N k := by
            have hne2 : lessL l N k kk (⟨((kk + 2 : Nat) : Int), ((kk : Nat) : Int), ((N : Nat) : Int), rruns (cells2 (mkI l N kk) (mkI l N (kk + 1)))⟩ : Ar) ≠ [] := fun h => by have := congrArg List.length h; rw [less_len (by omega)] at this; simp at this; omega
            rw [hmL, restB_ok hne2 (less_ok hbl hN1 hN3 (by omega) rfl), less_rest hbl hN1 hN3 (by omega) rfl]
          have hBL : badAt ((vs.take kk ++ [(⟨((kk + 2 : Nat) : Int), ((kk : Nat) : Int), ((N : Nat) : Int), ao4, cp4, rs4⟩ : AV)] ++ vs.drop (kk + 2)).map AV.ar) = (0, 0) := by
            have hne2 : lessL l N k kk (⟨((kk + 2 : Nat) : Int), ((kk : Nat) : Int), ((N : Nat) : Int), rruns (cells2 (mkI l N kk) (mkI l N (kk + 1)))⟩ : Ar) ≠ [] := fun h => by have := congrArg List.length h; rw [less_len (by omega)] at this; simp at this; omega
            rw [hmL, badAt_ok hne2 (less_ok hbl hN1 hN3 (by omega) rfl)]
          have hokL : ∀ v ∈ (vs.take kk ++ [(⟨((kk + 2 : Nat) : Int), ((kk : Nat) : Int), ((N : Nat) : Int), ao4, cp4, rs4⟩ : AV)] ++ vs.drop (kk + 2)), AvOk v := fun v hv => by
            rcases List.mem_append.1 hv with hv | hv
            · rcases List.mem_append.1 hv with hv | hv
              · exact hokv v (List.mem_of_mem_take hv)
              · rw [List.mem_singleton.1 hv]
                exact ⟨⟨by dsimp only; omega, by dsimp only; omega⟩, ⟨by dsimp only; omega, by dsimp only; omega⟩, ⟨by dsimp only; omega, by dsimp only; omega⟩, by dsimp only; omega, hk4⟩
            · exact hokv v (List.mem_of_mem_drop hv)
          have hrdL : ∀ {L1 F1 F2 : List HP}, Pick L1 (pack (vs.map RnsV)) F1 → Pick L1 (Rns ao4 cp4 rs4) F2 → ∀ v ∈ (vs.take kk ++ [(⟨((kk + 2 : Nat) : Int), ((kk : Nat) : Int), ((N : Nat) : Int), ao4, cp4, rs4⟩ : AV)] ++ vs.drop (kk + 2)), RdA w0 L1 v := fun h1 h2 v hv => by
            rcases List.mem_append.1 hv with hv | hv
            · rcases List.mem_append.1 hv with hv | hv
              · exact hvs3 _ _ h1 v (List.mem_of_mem_take hv)
              · rw [List.mem_singleton.1 hv]; exact hr4 h2
            · exact hvs3 _ _ h1 v (List.mem_of_mem_drop hv)
          refine At.reg rfl ?_
          refine Run.as (h := ?_)
          refine Run.fin ?_
          refine At.seq ?_
          refine At.chunks (fun _ hf => Star.nilRow (e := 28) (sz := 4) hf) ?_
          refine At.reg rfl ?_
          refine Run.mv (h := ?_)
          refine Run.mv (h := ?_)
          refine Run.mv (h := ?_)
          refine Run.slH Tb.L53 (h1 := by omega) (h2 := by omega) (hs := hsp) (hr := ?_)
          refine Run.ap (ht := Tb.G53) (hR := ((RdS.own (by repeat (first | exact Pick.here | apply Pick.there)) ⟨hE, hB, hsp⟩).cut (a := 0) (b := kk) (cp := c1) (by simpa using hcpc) (by simp; omega))) (hm := by simp; omega) (n2 := (vs.take kk).length) (l2 := (vs.take kk).map cellsA) (hl2 := by simp [List.map_take]) (hn2 := by simp) (hlen := by simp [maxLen]; omega) (hby := by simp; omega) (h := fun ao214 cp214 => ?_)
          refine Run.as (h := ?_)
          refine Run.fin ?_
          refine At.seq ?_
          refine At.reg rfl ?_
          refine Run.mv (h := ?_)
          refine Run.ldA Tb.A28 Tb.S28 (h := ?_)
          refine Run.bs Tb.G53 (h := fun g217 => ?_)
          refine Run.ap (ht := Tb.G53) (hR := .one (he := Els.nil.cons ⟨rfl, by simp [cellsA, Value.oneCell']⟩)) (hn := by simp) (n2 := (vs.take kk ++ [(⟨((kk + 2 : Nat) : Int), ((kk : Nat) : Int), ((N : Nat) : Int), ao4, cp4, rs4⟩ : AV)]).length) (l2 := (vs.take kk ++ [(⟨((kk + 2 : Nat) : Int), ((kk : Nat) : Int), ((N : Nat) : Int), ao4, cp4, rs4⟩ : AV)]).map cellsA) (hl2 := by rw [List.map_append]; rfl) (hn2 := by simp) (hlen := by simp [maxLen]; omega) (hby := by simp; omega) (h := fun ao218 cp218 => ?_)
          refine Run.as (h := ?_)
          refine Run.fin ?_
          refine At.seq ?_
          refine At.reg rfl ?_
          refine Run.mv (h := ?_)
          refine Run.mv (h := ?_)
          refine Run.mv (h := ?_)
          refine Run.add (h := ?_)
          refine Run.eqi (b := ((kk + 2 : Nat) : Int)) (by rw [wi64 (by omega) (by omega)]; omega) ?_
          refine Run.slL Tb.L53 (h0 := by omega) (h1 := by omega) (hs := hsp) (hr := ?_)
          refine Run.ap (ht := Tb.G53) (hR := ((RdS.own (by repeat (first | exact Pick.here | apply Pick.there)) ⟨hE, hB, hsp⟩).cut (a := kk + 2) (b := vs.length) (cp := c1) (by simpa using hcpc) (by simp))) (hn := by simp) (hm := by simp; omega) (n2 := (vs.take kk ++ [(⟨((kk + 2 : Nat) : Int), ((kk : Nat) : Int), ((N : Nat) : Int), ao4, cp4, rs4⟩ : AV)] ++ vs.drop (kk + 2)).length) (l2 := (vs.take kk ++ [(⟨((kk + 2 : Nat) : Int), ((kk : Nat) : Int), ((N : Nat) : Int), ao4, cp4, rs4⟩ : AV)] ++ vs.drop (kk + 2)).map cellsA) (hl2 := by rw [htk]; simp [List.map_take, List.map_drop]) (hn2 := by simp; omega) (hlen := by simp [maxLen]; omega) (hby := by simp; omega) (h := fun ao224 cp224 => ?_)
          refine Run.as (h := ?_)
          refine Run.fin ?_
          refine At.seq ?_
          refine At.rows (hp := by repeat (first | exact Pick.here | apply Pick.there)) (e := 28) (ao := ao224) (cp := cp224) (fun hE2 hB2 hsp2 _ _ _ => ?_)
          have hshL := And.intro hE2 (And.intro hB2 hsp2)
          refine At.reg rfl ?_
          refine Run.mv (h := ?_)
          refine Run.call Tb.N25 (hc := restore2 (l := (vs.take kk ++ [(⟨((kk + 2 : Nat) : Int), ((kk : Nat) : Int), ((N : Nat) : Int), ao4, cp4, rs4⟩ : AV)] ++ vs.drop (kk + 2))) (RdS.own (by repeat (first | exact Pick.here | apply Pick.there)) hshL) (by simp) (by simp; omega) hokL (hrdL (by repeat (first | exact Pick.here | apply Pick.there)) (by repeat (first | exact Pick.here | apply Pick.there)))) (h := ?_)
          rintro _ _ ⟨ao227, cp227, hq227, rfl, rfl⟩
          have hs227 := rsh hq227
          rw [hRL] at hs227 ⊢
          rw [hBL]
          dsimp only
          refine Run.mv (h := ?_)
          refine Run.ex (h := ?_)
          refine Run.ex (h := ?_)
          refine Run.ex (h := ?_)
          refine Run.as (h := ?_)
          refine Run.as (h := ?_)
          refine Run.as (h := ?_)
          refine Run.fin ?_
          refine At.seq ?_
          refine At.seq ?_
          refine At.reg rfl ?_
          refine Run.mv (h := ?_)
          refine Run.ne (h := ?_)
          refine Run.mv (h := ?_)
          refine Run.orB 2 2 (ht := fun hg236 => by
              refine Run.mv (h := ?_)
              refine Run.ne (h := ?_)
              exact Run.fin_sc ScEnd.here) (hrest := ?_)
          refine Run.mv (h := ?_)
          refine Run.orB 4 6 (ht := fun hg242 => by
              refine Run.mv (h := ?_)
              refine Run.mv (h := ?_)
              refine Run.call Tb.N15 (hc := rsame (RdS.own (by repeat (first | exact Pick.here | apply Pick.there)) hs227) (RdS.own (by repeat (first | exact Pick.here | apply Pick.there)) ⟨hEw, hBw, hsw⟩) (by omega)) (h := ?_)
              rintro _ _ ⟨rfl, rfl⟩
              refine Run.not (h := ?_)
              exact Run.fin_sc ScEnd.here) (hrest := ?_)
          refine Run.fin ?_
          refine At.cnd' (ht := fun hc242 => ?_) (hf := fun hc242 => ?_)
          · skip
            exact absurd hc242 (by simp)
          · skip
            refine At.skip ?_
            refine At.seq ?_
            refine At.seq ?_
            refine At.reg rfl ?_
            refine Run.mv (h := ?_)
            refine Run.eq (h := ?_)
            refine Run.fin ?_
            refine At.cnd' (ht := fun hc244 => ?_) (hf := fun hc244 => ?_)
            · skip
              refine At.seq ?_
              have hk0 : kk = 0 := by omega
              have hmG : (vs.drop 1).map AV.ar = gapL l N k 0 := by
                rw [List.map_drop, hvs]
                simp [gapL]
              have hRG : restB ((vs.drop 1).map AV.ar) = [] := by rw [hmG]; exact restB_bad (gap_bad hbl hN1 hN3 (by omega))
              have hBG : badAt ((vs.drop 1).map AV.ar) = (0, 251) := by rw [hmG]; exact badAt_bad (gap_bad hbl hN1 hN3 (by omega))
              have hl0 : ∀ {L1 F1 : List HP}, Pick L1 (row 28 4 a1 c1 (vs.map cellsA)) F1 → RdS w0 L1 4 (cutA a1 1 4 c1) ((vs.drop 1).map cellsA) := fun hp => by
                have h9 := (RdS.own (w0 := w0) hp ⟨hE, hB, hsp⟩).cut (a := 1) (b := vs.length) (cp := c1) (by simpa using hcpc) (by simp)
                rw [htk, ← List.map_drop] at h9
                exact h9
              refine At.reg rfl ?_
              refine Run.mv (h := ?_)
              refine Run.slL Tb.L53 (h0 := by omega) (h1 := by omega) (hs := hsp) (hr := ?_)
              refine Run.call Tb.N25 (hc := restore2 (l := vs.drop 1) (hl0 (by repeat (first | exact Pick.here | apply Pick.there))) (by simp) (by omega) (fun v h => hokv v (List.mem_of_mem_drop h)) (fun v h => hvs3 _ _ (by repeat (first | exact Pick.here | apply Pick.there)) v (List.mem_of_mem_drop h))) (h := ?_)
              rintro _ _ ⟨ao248, cp248, hq248, rfl, rfl⟩
              have hs248 := rsh hq248
              rw [hRG] at hs248 ⊢
              rw [hBG]
              dsimp only
              refine Run.mv (h := ?_)
              refine Run.ex (h := ?_)
              refine Run.ex (h := ?_)
              refine Run.ex (h := ?_)
              refine Run.as (h := ?_)
              refine Run.as (h := ?_)
              refine Run.as (h := ?_)
              refine Run.fin ?_
              refine At.seq ?_
              refine At.reg rfl ?_
              refine Run.mv (h := ?_)
              refine Run.eq (h := ?_)
              refine Run.as (h := ?_)
              refine Run.fin ?_
              refine At.ret ?_
              refine At.then_ret ?_
              exact At.done (hΦ := by exact ⟨by simp [tupleOf], rfl⟩) (hl := by repeat (first | exact SubL.refl | refine SubL.skip ?_))
            · skip
              refine At.skip ?_
              refine At.seq ?_
              have hmG : (vs.take kk ++ vs.drop (kk + 1)).map AV.ar = gapL l N k kk := by
                rw [List.map_append, List.map_take, List.map_drop, hvs]
                rfl
              have hRG : restB ((vs.take kk ++ vs.drop (kk + 1)).map AV.ar) = [] := by rw [hmG]; exact restB_bad (gap_bad hbl hN1 hN3 (by omega))
              have hBG : badAt ((vs.take kk ++ vs.drop (kk + 1)).map AV.ar) = (kk, 251) := by rw [hmG]; exact badAt_bad (gap_bad hbl hN1 hN3 (by omega))
              have hokG : ∀ v ∈ (vs.take kk ++ vs.drop (kk + 1)), AvOk v := fun v hv => by
                rcases List.mem_append.1 hv with hv | hv
                · exact hokv v (List.mem_of_mem_take hv)
                · exact hokv v (List.mem_of_mem_drop hv)
              have hrdG : ∀ {L1 F1 : List HP}, Pick L1 (pack (vs.map RnsV)) F1 → ∀ v ∈ (vs.take kk ++ vs.drop (kk + 1)), RdA w0 L1 v := fun h1 v hv => by
                rcases List.mem_append.1 hv with hv | hv
                · exact hvs3 _ _ h1 v (List.mem_of_mem_take hv)
                · exact hvs3 _ _ h1 v (List.mem_of_mem_drop hv)
              refine At.reg rfl ?_
              refine Run.as (h := ?_)
              refine Run.fin ?_
              refine At.seq ?_
              refine At.chunks (fun _ hf => Star.nilRow (e := 28) (sz := 4) hf) ?_
              refine At.reg rfl ?_
              refine Run.mv (h := ?_)
              refine Run.mv (h := ?_)
              refine Run.mv (h := ?_)
              refine Run.slH Tb.L53 (h1 := by omega) (h2 := by omega) (hs := hsp) (hr := ?_)
              refine Run.ap (ht := Tb.G53) (hR := ((RdS.own (by repeat (first | exact Pick.here | apply Pick.there)) ⟨hE, hB, hsp⟩).cut (a := 0) (b := kk) (cp := c1) (by simpa using hcpc) (by simp; omega))) (hm := by simp; omega) (n2 := (vs.take kk).length) (l2 := (vs.take kk).map cellsA) (hl2 := by simp [List.map_take]) (hn2 := by simp) (hlen := by simp [maxLen]; omega) (hby := by simp; omega) (h := fun ao258 cp258 => ?_)
              refine Run.as (h := ?_)
              refine Run.fin ?_
              refine At.seq ?_
              refine At.reg rfl ?_
              refine Run.mv (h := ?_)
              refine Run.mv (h := ?_)
              refine Run.mv (h := ?_)
              refine Run.add (h := ?_)
              refine Run.eqi (b := ((kk + 1 : Nat) : Int)) (by rw [wi64 (by omega) (by omega)]; omega) ?_
              refine Run.slL Tb.L53 (h0 := by omega) (h1 := by omega) (hs := hsp) (hr := ?_)
              refine Run.ap (ht := Tb.G53) (hR := ((RdS.own (by repeat (first | exact Pick.here | apply Pick.there)) ⟨hE, hB, hsp⟩).cut (a := kk + 1) (b := vs.length) (cp := c1) (by simpa using hcpc) (by simp))) (hn := by simp) (hm := by simp) (n2 := (vs.take kk ++ vs.drop (kk + 1)).length) (l2 := (vs.take kk ++ vs.drop (kk + 1)).map cellsA) (hl2 := by rw [htk]; simp [List.map_take, List.map_drop]) (hn2 := by simp) (hlen := by simp [maxLen]; omega) (hby := by simp; omega) (h := fun ao264 cp264 => ?_)
              refine Run.as (h := ?_)
              refine Run.fin ?_
              refine At.seq ?_
              refine At.rows (hp := by repeat (first | exact Pick.here | apply Pick.there)) (e := 28) (ao := ao264) (cp := cp264) (fun hE3 hB3 hsp3 _ _ _ => ?_)
              have hshG := And.intro hE3 (And.intro hB3 hsp3)
              refine At.reg rfl ?_
              refine Run.mv (h := ?_)
              refine Run.call Tb.N25 (hc := restore2 (l := (vs.take kk ++ vs.drop (kk + 1))) (RdS.own (by repeat (first | exact Pick.here | apply Pick.there)) hshG) (by simp) (by simp; omega) hokG (hrdG (by repeat (first | exact Pick.here | apply Pick.there)))) (h := ?_)
              rintro _ _ ⟨ao267, cp267, hq267, rfl, rfl⟩
              have hs267 := rsh hq267
              rw [hRG] at hs267 ⊢
              rw [hBG]
              dsimp only
              refine Run.mv (h := ?_)
              refine Run.ex (h := ?_)
              refine Run.ex (h := ?_)
              refine Run.ex (h := ?_)
              refine Run.as (h := ?_)
              refine Run.as (h := ?_)
              refine Run.as (h := ?_)
              refine Run.fin ?_
              refine At.seq ?_
              refine At.reg rfl ?_
              refine Run.mv (h := ?_)
              refine Run.eq (h := ?_)
              refine Run.mv (h := ?_)
              refine Run.andB 3 2 (ht := fun hg277 => by
                  refine Run.mv (h := ?_)
                  refine Run.mv (h := ?_)
                  refine Run.eq (h := ?_)
                  exact Run.fin_sc ScEnd.here) (hrest := ?_)
              refine Run.as (h := ?_)
              refine Run.fin ?_
              refine At.ret ?_
              exact At.done (hΦ := by exact ⟨by simp [tupleOf], rfl⟩) (hl := by repeat (first | exact SubL.refl | refine SubL.skip ?_))
end Go.Proofs.Ytllpfpdanonhkaa
