/- Walks: a chain is put together again. No condition. -/
import Derived.Test.YtllpfpdanonhkaaMk
set_option maxRecDepth 8000
set_option maxHeartbeats 4000000
set_option linter.unusedVariables false
set_option linter.unusedSimpArgs false
namespace Go.Proofs.Ytllpfpdanonhkaa
open Go.Sx Go.RowKit

/-- An archive and where its runs lie. -/
structure AV where
  id : Int
  par : Int
  size : Int
  ao : Option Addr
  cp : Nat
  rs : List RV
def AV.ar (v : AV) : Ar := ⟨v.id, v.par, v.size, pures v.rs⟩
def cellsA (v : AV) : List Value := [.int .u64 v.id, .int .u64 v.par, .int .u64 v.size, .slice v.ao v.rs.length v.cp]
def RdA (w0 : World) (L : List HP) (v : AV) : Prop := RdS w0 L 4 v.ao (v.rs.map cellsV) ∧ ∀ r ∈ v.rs, RdS w0 L 1 r.2.1 (ints .u8 r.1.data)
def AvOk (v : AV) : Prop := (0 ≤ v.id ∧ v.id < 18446744073709551616) ∧ (0 ≤ v.par ∧ v.par < 18446744073709551616) ∧ (0 ≤ v.size ∧ v.size < 18446744073709551616) ∧ v.rs.length ≤ 1099511627776 ∧ ∀ r ∈ v.rs, RnOk r.1
def Link (l : List Ar) (i : Nat) (a : Ar) : Prop := (i = 0 → a.par = 0) ∧ ∀ p, 0 < i → l[i - 1]? = some p → a.par = p.id ∧ a.size = p.size
def ChOk (l : List Ar) (n : Nat) : Prop := ∀ i a, i < n → l[i]? = some a → May a ∧ Link l i a
def putRun (out : List Int) (r : Rn) : List Int := out.take r.off.toNat ++ (if r.hole then List.replicate r.len.toNat 0 else r.data) ++ out.drop (r.off.toNat + r.len.toNat)
def putAr (out : List Int) (a : Ar) : List Int := a.runs.foldl putRun out
def size0 (l : List Ar) : Nat := match l with | [] => 0 | a :: _ => a.size.toNat
def restP (l : List Ar) : List Int := l.foldl putAr (List.replicate (size0 l) 0)
theorem cellsA_at {l : List AV} {k : Nat} {v : AV} (h : l[k]? = some v) : (l.map cellsA)[k]? = some [.int .u64 v.id, .int .u64 v.par, .int .u64 v.size, .slice v.ao v.rs.length v.cp] := by simp [h, cellsA]
theorem ar_at {l : List AV} {k : Nat} {v : AV} (h : l[k]? = some v) : (l.map AV.ar)[k]? = some v.ar := by simp [h]
theorem ChOk.snoc {l : List Ar} {n : Nat} {a : Ar} (h : ChOk l n) (ha : l[n]? = some a) (hm : May a) (hl : Link l n a) : ChOk l (n + 1) := fun i b hi hb => by
  by_cases e : i = n
  · subst e; rw [ha] at hb; cases hb; exact ⟨hm, hl⟩
  · exact h i b (by omega) hb
theorem MayGo_mem {par size : Int} : ∀ {l : List Rn} {a : Int} {p : Option Bool}, (∀ r ∈ l, 0 ≤ r.len) → 0 ≤ a → MayGo par size a p l → ∀ r ∈ l, 0 ≤ r.off ∧ 0 ≤ r.len ∧ r.off + r.len ≤ size ∧ (r.hole = true → r.data.length = 0) ∧ (¬ r.hole = true → (r.data.length : Int) = r.len)
  | [], _, _, _, _, _, r, hr => by cases hr
  | x :: l, a, p, hl, ha, ⟨⟨o1, o2, o3, o4, o5, o6, o7, o8⟩, h2⟩, r, hr => by
    have hx := hl x List.mem_cons_self
    rcases List.mem_cons.1 hr with rfl | hr
    · exact ⟨by omega, hx, by omega, o5, o6⟩
    · exact MayGo_mem (fun y hy => hl y (List.mem_cons_of_mem _ hy)) (by omega) h2 r hr
theorem ChOk.size {l : List Ar} {n : Nat} (h : ChOk l n) : ∀ i a, i < n → l[i]? = some a → a.size.toNat = size0 l := by
  intro i
  induction i with
  | zero => intro a _ ha; cases l with | nil => simp at ha | cons b l => simp at ha; subst ha; rfl
  | succ i ih =>
    intro a hi ha
    have hlt : i < l.length := by have := (List.getElem?_eq_some_iff.1 ha).1; omega
    have hp : l[i]? = some l[i] := List.getElem?_eq_getElem hlt
    have := (h (i + 1) a hi ha).2.2 l[i] (by omega) (by simp)
    rw [this.2]; exact ih _ (by omega) hp
theorem putRun_len {out : List Int} {r : Rn} {n : Nat} (hn : out.length = n) (h1 : r.off.toNat + r.len.toNat ≤ n) (h2 : (if r.hole then List.replicate r.len.toNat (0 : Int) else r.data).length = r.len.toNat) : (putRun out r).length = n := by
  simp only [putRun, List.length_append, List.length_take, List.length_drop, h2]; omega
theorem fold_len {N : Nat} : ∀ (rs : List Rn) (out : List Int), out.length = N → (∀ r ∈ rs, r.off.toNat + r.len.toNat ≤ N ∧ (if r.hole then List.replicate r.len.toNat (0 : Int) else r.data).length = r.len.toNat) → (rs.foldl putRun out).length = N
  | [], _, h, _ => h
  | r :: rs, out, h, k => fold_len rs _ (putRun_len h (k r List.mem_cons_self).1 (k r List.mem_cons_self).2) fun x hx => k x (List.mem_cons_of_mem _ hx)
theorem run_fit {a : Ar} {r : Rn} (hm : May a) (hl : ∀ r ∈ a.runs, 0 ≤ r.len) (hr : r ∈ a.runs) : r.off.toNat + r.len.toNat ≤ a.size.toNat ∧ (if r.hole then List.replicate r.len.toNat (0 : Int) else r.data).length = r.len.toNat := by
  obtain ⟨h1, h2, h3, h4, h5⟩ := MayGo_mem hl (Int.le_refl _) hm.2.2.2.2 r hr
  refine ⟨by omega, ?_⟩
  cases hh : r.hole
  · have := h5 (by simp [hh]); simp; omega
  · simp
theorem putRun_row {cur : List Int} {r : Rn} {n k m : Nat} (hk : k = r.off.toNat) (hm : m = r.len.toNat) (hh : ¬ r.hole = true) (hd : r.data.length = m) (hn : n = r.data.length) : (ints .u8 cur).take k ++ (ints .u8 r.data).take (min n m) ++ (ints .u8 cur).drop (k + min n m) = ints .u8 (putRun cur r) := by
  rw [show min n m = m by omega, ints_take, ints_take, ints_drop, ints_app, ints_app, List.take_of_length_le (l := r.data) (by omega)]
  simp [putRun, hh, hk, hm]
theorem putRun_clr {cur : List Int} {r : Rn} {k m : Nat} (hk : k = r.off.toNat) (hm : m = r.len.toNat) (hh : r.hole = true) : (ints .u8 cur).take k ++ List.replicate m [Value.int .u8 0] ++ (ints .u8 cur).drop (k + m) = ints .u8 (putRun cur r) := by
  rw [ints_take, ints_drop, ints_rep, ints_app, ints_app]
  simp [putRun, hh, hk, hm]
def restTo (l : List Ar) (k : Nat) : List Int := (l.take k).foldl putAr (List.replicate (size0 l) 0)
theorem restTo_succ {l : List Ar} {k : Nat} {a : Ar} (h : l[k]? = some a) : restTo l (k + 1) = putAr (restTo l k) a := by
  unfold restTo; rw [List.take_add_one, h]; simp
theorem restTo_len {l : List Ar} {n : Nat} (h : ChOk l n) (hl : ∀ a ∈ l, ∀ r ∈ a.runs, 0 ≤ r.len) : ∀ j, j ≤ n → j ≤ l.length → (restTo l j).length = size0 l
  | 0, _, _ => by simp [restTo]
  | j + 1, hj, hjl => by
    have hlt : j < l.length := by omega
    have ha : l[j]? = some l[j] := List.getElem?_eq_getElem hlt
    rw [restTo_succ ha]
    refine fold_len _ _ (restTo_len h hl j (by omega) (by omega)) fun r hr => ?_
    have := run_fit (h j _ (by omega) ha).1 (hl _ (List.getElem_mem hlt)) hr
    rw [h.size j _ (by omega) ha] at this
    exact this
def putTo (out : List Int) (l : List Rn) (i : Nat) : List Int := (l.take i).foldl putRun out
theorem putTo_succ {out : List Int} {l : List Rn} {i : Nat} {r : Rn} (h : l[i]? = some r) : putTo out l (i + 1) = putRun (putTo out l i) r := by
  unfold putTo; rw [List.take_add_one, h]; simp

theorem restore {w0 : World} {L : List HP} {co : Option Addr} {n cc : Nat} {l : List AV} (hl : RdS w0 L 4 co (l.map cellsA)) (hn : n = l.length) (hle : n ≤ 1099511627776) (hok : ∀ v ∈ l, AvOk v) (hrd : ∀ v ∈ l, RdA w0 L v) :
    CallOk Tb.P w0 L 25 [.slice co n cc] fun u L' => (l = [] ∧ u = .tuple #[.slice none 0 0, .int .i64 0, .int .i64 2] ∧ L' = L) ∨ (∃ (i : Nat) (a : Ar) (e : Int), ChOk (l.map AV.ar) i ∧ (l.map AV.ar)[i]? = some a ∧ ((¬ May a ∧ e = 250) ∨ (May a ∧ ¬ Link (l.map AV.ar) i a ∧ e = 251)) ∧ u = .tuple #[.slice none 0 0, .int .i64 i, .int .i64 e] ∧ L' = L) ∨ (l ≠ [] ∧ ChOk (l.map AV.ar) n ∧ ∃ q N, N = (restP (l.map AV.ar)).length ∧ u = .tuple #[.slice (some ⟨q, 0, none⟩) N N, .int .i64 0, .int .i64 0] ∧ L' = row 5 1 (some ⟨q, 0, none⟩) N (ints .u8 (restP (l.map AV.ar))) :: L) := by
  refine enter Try.func25 rfl Try.ntmps25 (Nat.le_of_ble_eq_true rfl) ?_
  refine At.seq ?_
  refine At.reg rfl ?_
  refine Run.as (h := ?_)
  refine Run.as (h := ?_)
  refine Run.as (h := ?_)
  refine Run.fin ?_
  refine At.seq ?_
  refine At.seq ?_
  refine At.reg rfl ?_
  refine Run.mv (h := ?_)
  refine Run.len Tb.L53 (h := ?_)
  refine Run.eq (h := ?_)
  refine Run.fin ?_
  refine At.cnd' (ht := fun hc15 => ?_) (hf := fun hc15 => ?_)
  · skip
    refine At.seq ?_
    refine At.reg rfl ?_
    refine Run.as (h := ?_)
    refine Run.as (h := ?_)
    refine Run.as (h := ?_)
    refine Run.fin ?_
    refine At.ret ?_
    refine At.then_ret ?_
    exact At.done (hΦ := by exact .inl ⟨List.eq_nil_of_length_eq_zero (by omega), rfl, rfl⟩)
  · skip
    refine At.skip ?_
    refine At.seq ?_
    refine At.seq ?_
    refine At.reg rfl ?_
    refine Run.mv (h := ?_)
    refine Run.len Tb.L53 (h := ?_)
    refine Run.mv (h := ?_)
    refine Run.fin ?_
    refine At.block ?_
    refine At.loop (α := Nat) (fun k => ⟨[(0, .slice co n cc), (16, .slice co n cc), (17, .int .i64 n), (18, .int .i64 k)], L, []⟩) (fun k => k ≤ n ∧ ChOk (l.map AV.ar) k) (fun k => n - k) (0) (⟨Nat.zero_le _, fun i a h => by omega⟩) (Ent.of (by repeat (first | exact SubE.nil | refine SubE.cons (by first | rfl | (show some _ = some _; simp; done)) ?_)) (by repeat (first | exact SubL.refl | refine SubL.cons (by repeat (first | exact Pick.here | apply Pick.there)) ?_ | refine SubL.skip ?_ | exact SubL.nil))) (fun k hx => ?_)
    obtain ⟨hk, hch⟩ := hx
    refine At.seq ?_
    refine At.reg rfl ?_
    refine Run.lt (h := ?_)
    refine Run.fin ?_
    refine At.seq ?_
    refine At.cnd' (ht := fun hc19 => ?_) (hf := fun hc19 => ?_)
    · skip
      obtain ⟨v, hvk⟩ : ∃ v, l[k]? = some v := ⟨l[k]'(by omega), List.getElem?_eq_getElem _⟩
      have hvm := List.mem_of_getElem? hvk
      obtain ⟨v1, v2, v3, v4, v5⟩ := hok v hvm
      obtain ⟨hvr, hvd⟩ := hrd v hvm
      have hva := ar_at hvk
      obtain ⟨pv, hpv⟩ : ∃ pv : AV, 0 < k → l[k - 1]? = some pv := by
        rcases Nat.eq_zero_or_pos k with h0 | h0
        · exact ⟨v, fun h => by omega⟩
        · exact ⟨l[k - 1]'(by omega), fun _ => List.getElem?_eq_getElem _⟩
      refine At.skip ?_
      refine At.seq ?_
      refine At.block ?_
      refine At.seq ?_
      refine At.reg rfl ?_
      refine Run.mv (h := ?_)
      refine Run.iaR (ht := Tb.L53) (hR := hl.sub) (hj := rfl) (h1 := by simp; omega) (hn := by omega) (h := ?_)
      refine Run.ldrA (ht := Tb.A28) (hn := Tb.S28) (hR := hl.sub) (hj := cellsA_at hvk) (h := ?_)
      refine Run.al Tb.Z28 (h := fun g6 => ?_)
      refine Run.as (h := ?_)
      refine Run.st Tb.S28 (h := ?_)
      refine Run.fin ?_
      refine At.seq ?_
      refine At.seq ?_
      refine At.reg rfl ?_
      refine Run.ldA Tb.A28 Tb.S28 (h := ?_)
      refine Run.call Tb.N37 (hc := may hvr.sub rfl v4 v5 v3) (h := ?_)
      rintro _ _ ⟨bm, rfl, hbm, rfl⟩
      refine Run.not (h := ?_)
      refine Run.fin ?_
      refine At.cnd' (ht := fun hc25 => ?_) (hf := fun hc25 => ?_)
      · skip
        refine At.seq ?_
        refine At.reg rfl ?_
        refine Run.mv (h := ?_)
        refine Run.as (h := ?_)
        refine Run.as (h := ?_)
        refine Run.as (h := ?_)
        refine Run.fin ?_
        refine At.ret ?_
        refine At.then_ret ?_
        refine At.inb_ret ?_
        refine At.then_ret ?_
        refine At.then_ret ?_
        refine At.inb_ret ?_
        refine At.then_ret ?_
        exact At.done (hΦ := by exact .inr (.inl ⟨k, v.ar, 250, hch, hva, .inl ⟨fun h => hc25 (hbm.2 h), rfl⟩, rfl, rfl⟩))
      · skip
        refine At.skip ?_
        refine At.seq ?_
        refine At.draw [(0, 0), (1, 0), (2, 0), (3, 0), (4, 1), (5, 0), (6, 0), (7, 0), (8, 0), (9, 0), (10, 0), (11, 0), (12, 1), (13, 0), (14, 0), (15, 0), (16, 0), (17, 0), (18, 1), (19, 0), (20, 0), (21, 0), (22, 1), (23, 0), (24, 0), (25, 0), (26, 0), (27, 0), (28, 1), (29, 0), (30, 0), (31, 0), (32, 0)] Tb.mixed (by kernel_rfl) ?_
        refine Run.mv (h := ?_)
        refine Run.eq (h := ?_)
        refine Run.mv (h := ?_)
        refine Run.andB 3 2 (ht := fun hg33 => by
            refine Run.fa Tb.F28_1 (h := ?_)
            refine Run.ld Tb.A22 (h := ?_)
            refine Run.ne (h := ?_)
            exact Run.fin_sc ScEnd.here) (hrest := ?_)
        refine Run.mv (h := ?_)
        refine Run.orB 24 7 (bq := decide (0 < (k : Int)) && (decide (v.par ≠ pv.id) || decide (v.size ≠ pv.size))) (ht := fun hg59 => by
            refine Run.mv (h := ?_)
            refine Run.gt (h := ?_)
            refine Run.mv (h := ?_)
            refine Run.andB 20 10 (bq := decide (v.par ≠ pv.id) || decide (v.size ≠ pv.size)) (ht := fun hg58 => by
                refine Run.fa Tb.F28_1 (h := ?_)
                refine Run.ld Tb.A22 (h := ?_)
                refine Run.mv (h := ?_)
                refine Run.mv (h := ?_)
                refine Run.sub (h := ?_)
                refine Run.eqi (b := ((k - 1 : Nat) : Int)) (by rw [wi64 (by omega) (by omega)]; omega) ?_
                refine Run.iaR (ht := Tb.L53) (hR := hl.sub) (hj := rfl) (h1 := by simp; omega) (hn := by omega) (h := ?_)
                refine Run.fa Tb.F28_0 (h := ?_)
                refine Run.ldr (ht := Tb.A22) (hR := hl.sub) (hj := cellsA_at (hpv (by omega))) (h := ?_)
                refine Run.ne (h := ?_)
                refine Run.mv (h := ?_)
                refine Run.orB 9 20 (ht := fun hg57 => by
                    refine Run.fa Tb.F28_2 (h := ?_)
                    refine Run.ld Tb.A22 (h := ?_)
                    refine Run.mv (h := ?_)
                    refine Run.mv (h := ?_)
                    refine Run.sub (h := ?_)
                    refine Run.eqi (b := ((k - 1 : Nat) : Int)) (by rw [wi64 (by omega) (by omega)]; omega) ?_
                    refine Run.iaR (ht := Tb.L53) (hR := hl.sub) (hj := rfl) (h1 := by simp; omega) (hn := by omega) (h := ?_)
                    refine Run.fa Tb.F28_2 (h := ?_)
                    refine Run.ldr (ht := Tb.A22) (hR := hl.sub) (hj := cellsA_at (hpv (by omega))) (h := ?_)
                    refine Run.ne (h := ?_)
                    exact Run.fin_sc ScEnd.here) (hrest := ?_)
                exact Run.fin_sc ScEnd.here) (hrest := ?_)
            exact Run.fin_sc ScEnd.here) (hrest := ?_)
        refine Run.fin ?_
        refine At.cnd' (ht := fun hc59 => ?_) (hf := fun hc59 => ?_)
        · skip
          refine At.seq ?_
          refine At.reg rfl ?_
          refine Run.mv (h := ?_)
          refine Run.as (h := ?_)
          refine Run.as (h := ?_)
          refine Run.as (h := ?_)
          refine Run.fin ?_
          refine At.ret ?_
          refine At.inb_ret ?_
          refine At.then_ret ?_
          refine At.then_ret ?_
          refine At.inb_ret ?_
          refine At.then_ret ?_
          exact At.done (hΦ := by exact .inr (.inl ⟨k, v.ar, 251, hch, hva, .inr ⟨hbm.1 (by simpa using hc25), fun h => by rcases hc59 with ⟨h0, h1⟩ | ⟨h0, h1⟩; exact h1 (h.1 (by omega)); obtain ⟨e1, e2⟩ := h.2 _ (by omega) (ar_at (hpv (by omega))); rcases h1 with h1 | h1; exact h1 e1; exact h1 e2, rfl⟩, rfl, rfl⟩))
        · skip
          have hlk : Link (l.map AV.ar) k v.ar := ⟨fun h0 => Decidable.byContradiction fun h => hc59 (.inl ⟨by omega, h⟩), fun p h0 hp => by
            rw [ar_at (hpv h0)] at hp; cases hp
            exact ⟨Decidable.byContradiction fun h => hc59 (.inr ⟨by omega, .inl h⟩), Decidable.byContradiction fun h => hc59 (.inr ⟨by omega, .inr h⟩)⟩⟩
          refine At.skip ?_
          refine At.inb_norm ?_
          refine At.reg rfl ?_
          refine Run.add (h := ?_)
          refine Run.eqi (b := ((k + 1 : Nat) : Int)) (by rw [wi64 (by omega) (by omega)]; omega) ?_
          refine Run.mv (h := ?_)
          refine Run.fin ?_
          exact At.again (k + 1) (⟨by omega, hch.snoc hva (hbm.1 (by simpa using hc25)) hlk⟩) (by omega)
    · skip
      refine At.exit ?_
      refine At.then_exit ?_
      refine At.then_exit ?_
      refine At.inb_hit ?_
      refine At.seq ?_
      obtain rfl : n = k := by omega
      obtain ⟨v0, hv0⟩ : ∃ v, l[0]? = some v := ⟨l[0]'(by omega), List.getElem?_eq_getElem _⟩
      have hm0 := (hch 0 v0.ar (by omega) (ar_at hv0)).1
      obtain ⟨m1, m2, m3, m4, _⟩ := hm0
      simp only [AV.ar] at m3 m4
      obtain ⟨N, hN⟩ : ∃ N : Nat, (N : Int) = v0.size := ⟨v0.size.toNat, by omega⟩
      have hN0 : size0 (l.map AV.ar) = N := by rw [← hch.size 0 v0.ar (by omega) (ar_at hv0)]; simp only [AV.ar]; omega
      have hlr : ∀ a ∈ l.map AV.ar, ∀ r ∈ a.runs, 0 ≤ r.len := fun a ha r hr => by
        obtain ⟨w, hw, rfl⟩ := List.mem_map.1 ha
        obtain ⟨q, hq, rfl⟩ := List.mem_map.1 hr
        exact ((hok w hw).2.2.2.2 q hq).2.2.1
      refine At.reg rfl ?_
      refine Run.mv (h := ?_)
      refine Run.iaR (ht := Tb.L53) (hR := hl.sub) (j := 0) (hj := rfl) (h1 := by simp; omega) (hn := by omega) (h := ?_)
      refine Run.fa Tb.F28_2 (h := ?_)
      refine Run.ldr (ht := Tb.A22) (hR := hl.sub) (hj := cellsA_at hv0) (h := ?_)
      refine Run.mk (ht := Tb.G23) (hz1 := by simp [Value.oneCell']) (n := N) (ha := hN.symm) (hb := hN.symm) (hlen := by simp only [maxLen]; omega) (hby := by omega) (h := fun g66 => ?_)
      refine Run.as (h := ?_)
      refine Run.fin ?_
      refine At.seq ?_
      refine At.seq ?_
      refine At.reg rfl ?_
      refine Run.mv (h := ?_)
      refine Run.len Tb.L53 (h := ?_)
      refine Run.mv (h := ?_)
      refine Run.fin ?_
      refine At.block ?_
      refine At.loop (α := Nat) (fun k => ⟨[(7, .slice (some ⟨g66, 0, none⟩) N N), (67, .slice co n cc), (68, .int .i64 n), (69, .int .i64 k)], row 5 1 (some ⟨g66, 0, none⟩) N (ints .u8 (restTo (l.map AV.ar) k)) :: L, []⟩) (fun k => k ≤ n) (fun k => n - k) (0) (Nat.zero_le _) (Ent.of (by repeat (first | exact SubE.nil | refine SubE.cons (by first | rfl | (show some _ = some _; simp; done)) ?_)) (by rw [show ints .u8 (restTo (l.map AV.ar) 0) = List.replicate N [.int .u8 0] by simp [restTo, hN0, ints]]; exact SubL.refl)) (fun k hk2 => ?_)
      refine At.seq ?_
      refine At.reg rfl ?_
      refine Run.lt (h := ?_)
      refine Run.fin ?_
      refine At.seq ?_
      refine At.cnd' (ht := fun hc70 => ?_) (hf := fun hc70 => ?_)
      · skip
        obtain ⟨v, hvk⟩ : ∃ v, l[k]? = some v := ⟨l[k]'(by omega), List.getElem?_eq_getElem _⟩
        have hvm := List.mem_of_getElem? hvk
        obtain ⟨v1, v2, v3, v4, v5⟩ := hok v hvm
        obtain ⟨hvr, hvd⟩ := hrd v hvm
        have hva := ar_at hvk
        have hmay := (hch k v.ar (by omega) hva).1
        have hvs := hch.size k v.ar (by omega) hva
        have hfit : ∀ r ∈ pures v.rs, _ := fun r hr => run_fit (r := r) hmay (hlr _ (List.mem_of_getElem? hva)) hr
        rw [hvs, hN0] at hfit
        refine At.skip ?_
        refine At.seq ?_
        refine At.block ?_
        refine At.seq ?_
        refine At.reg rfl ?_
        refine Run.iaR (ht := Tb.L53) (hR := hl.sub) (hj := rfl) (h1 := by simp; omega) (hn := by omega) (h := ?_)
        refine Run.ldrA (ht := Tb.A28) (hn := Tb.S28) (hR := hl.sub) (hj := cellsA_at hvk) (h := ?_)
        refine Run.al Tb.Z28 (h := fun g9 => ?_)
        refine Run.st Tb.S28 (h := ?_)
        refine Run.fin ?_
        refine At.seq ?_
        refine At.reg rfl ?_
        refine Run.fa Tb.F28_3 (h := ?_)
        refine Run.ld Tb.A26 (h := ?_)
        refine Run.len Tb.L26 (h := ?_)
        refine Run.mv (h := ?_)
        refine Run.fin ?_
        refine At.block ?_
        refine At.loop (α := Nat) (fun i => ⟨[(7, .slice (some ⟨g66, 0, none⟩) N N), (67, .slice co n cc), (68, .int .i64 n), (69, .int .i64 k), (74, .slice v.ao v.rs.length v.cp), (75, .int .i64 v.rs.length), (76, .int .i64 i)], row 5 1 (some ⟨g66, 0, none⟩) N (ints .u8 (putTo (restTo (l.map AV.ar) k) (pures v.rs) i)) :: L, []⟩) (fun i => i ≤ v.rs.length) (fun i => v.rs.length - i) (0) (Nat.zero_le _) (Ent.of (by repeat (first | exact SubE.nil | refine SubE.cons (by first | rfl | (show some _ = some _; simp; done)) ?_)) (by repeat (first | exact SubL.refl | refine SubL.cons (by repeat (first | exact Pick.here | apply Pick.there)) ?_ | refine SubL.skip ?_ | exact SubL.nil))) (fun i hi => ?_)
        refine At.seq ?_
        refine At.reg rfl ?_
        refine Run.lt (h := ?_)
        refine Run.fin ?_
        refine At.seq ?_
        refine At.cnd' (ht := fun hc77 => ?_) (hf := fun hc77 => ?_)
        · skip
          obtain ⟨r, hrk⟩ : ∃ r, v.rs[i]? = some r := ⟨v.rs[i]'(by omega), List.getElem?_eq_getElem _⟩
          have hrm := List.mem_of_getElem? hrk
          obtain ⟨q1, q2, q3, q4, q5, q6⟩ := v5 r hrm
          have hrd2 := hvd r hrm
          obtain ⟨f1, f2⟩ := hfit r.1 (List.mem_map.2 ⟨r, hrm, rfl⟩)
          have g5 : ¬ r.1.hole = true → r.1.data.length = r.1.len.toNat := fun h => by rw [if_neg h] at f2; exact f2
          have hcur : (putTo (restTo (l.map AV.ar) k) (pures v.rs) i).length = N := fold_len _ _ (by rw [restTo_len hch hlr k (by omega) (by simp; omega), hN0]) fun x hx => hfit x (List.mem_of_mem_take hx)
          refine At.skip ?_
          refine At.seq ?_
          refine At.block ?_
          refine At.seq ?_
          refine At.reg rfl ?_
          refine Run.iaR (ht := Tb.L26) (hR := hvr.sub) (hj := rfl) (h1 := by simp; omega) (hn := by omega) (h := ?_)
          refine Run.ldrA (ht := Tb.A76) (hn := Tb.S76) (hR := hvr.sub) (hj := cells_at hrk) (h := ?_)
          refine Run.al Tb.Z76 (h := fun g11 => ?_)
          refine Run.st Tb.S76 (h := ?_)
          refine Run.fin ?_
          refine At.seq ?_
          refine At.reg rfl ?_
          refine Run.mv (h := ?_)
          refine Run.fa Tb.F76_0 (h := ?_)
          refine Run.ld Tb.A22 (h := ?_)
          refine Run.fa Tb.F76_0 (h := ?_)
          refine Run.ld Tb.A22 (h := ?_)
          refine Run.fa Tb.F76_1 (h := ?_)
          refine Run.ld Tb.A22 (h := ?_)
          refine Run.add (h := ?_)
          refine Run.eqi (b := r.1.off + r.1.len) (wu64 (by omega) (by omega)) ?_
          refine Run.sl Tb.L23 (h0 := by omega) (h1 := by omega) (h2 := by omega) (hs := fun a h => by cases h; rfl) (hr := ?_)
          refine Run.as (h := ?_)
          refine Run.fin ?_
          refine At.seq ?_
          refine At.reg rfl ?_
          refine Run.fa Tb.F76_2 (h := ?_)
          refine Run.ld Tb.A4 (h := ?_)
          refine Run.fin ?_
          refine At.cnd' (ht := fun hc90 => ?_) (hf := fun hc90 => ?_)
          · skip
            refine At.reg rfl ?_
            refine Run.mv (h := ?_)
            refine Run.clr (ht := Tb.G23) (hz1 := by simp [Value.oneCell']) (k := r.1.off.toNat) (hbo := fun hm => by unfold cutA; rw [if_neg (by omega)]; rfl) (hk0 := by rw [ints_length, hcur]; omega) (l2 := ints .u8 (putRun (putTo (restTo (l.map AV.ar) k) (pures v.rs) i) r.1)) (hl2 := putRun_clr rfl (by omega) hc90) (h := ?_)
            rw [← putTo_succ (pures_at hrk)]
            refine Run.fin ?_
            refine At.inb_norm ?_
            refine At.reg rfl ?_
            refine Run.add (h := ?_)
            refine Run.eqi (b := ((i + 1 : Nat) : Int)) (by rw [wi64 (by omega) (by omega)]; omega) ?_
            refine Run.mv (h := ?_)
            refine Run.fin ?_
            exact At.again (i + 1) (by omega) (by omega)
          · skip
            refine At.reg rfl ?_
            refine Run.mv (h := ?_)
            refine Run.fa Tb.F76_3 (h := ?_)
            refine Run.ld Tb.A23 (h := ?_)
            refine Run.cpy (ht := Tb.G23) (k := r.1.off.toNat) (hR := hrd2.sub) (hbo := fun hm => by unfold cutA; rw [if_neg (by omega)]; rfl) (hk0 := by rw [ints_length, hcur]; omega) (hn := by simp) (l2 := ints .u8 (putRun (putTo (restTo (l.map AV.ar) k) (pures v.rs) i) r.1)) (hl2 := putRun_row rfl (by omega) hc90 (by have := g5 hc90; omega) rfl) (h := ?_)
            rw [← putTo_succ (pures_at hrk)]
            refine Run.fin ?_
            refine At.inb_norm ?_
            refine At.reg rfl ?_
            refine Run.add (h := ?_)
            refine Run.eqi (b := ((i + 1 : Nat) : Int)) (by rw [wi64 (by omega) (by omega)]; omega) ?_
            refine Run.mv (h := ?_)
            refine Run.fin ?_
            exact At.again (i + 1) (by omega) (by omega)
        · skip
          refine At.exit ?_
          refine At.then_exit ?_
          refine At.then_exit ?_
          refine At.inb_hit ?_
          refine At.inb_norm ?_
          rw [show putTo (restTo (l.map AV.ar) k) (pures v.rs) i = restTo (l.map AV.ar) (k + 1) by rw [restTo_succ hva, putAr, putTo, List.take_of_length_le (by simp [pures]; omega)]; rfl]
          refine At.reg rfl ?_
          refine Run.add (h := ?_)
          refine Run.eqi (b := ((k + 1 : Nat) : Int)) (by rw [wi64 (by omega) (by omega)]; omega) ?_
          refine Run.mv (h := ?_)
          refine Run.fin ?_
          exact At.again (k + 1) (by omega) (by omega)
      · skip
        refine At.exit ?_
        refine At.then_exit ?_
        refine At.then_exit ?_
        refine At.inb_hit ?_
        refine At.seq ?_
        obtain rfl : n = k := by omega
        rw [show restTo (l.map AV.ar) n = restP (l.map AV.ar) by rw [restTo, List.take_of_length_le (by simp; omega)]; rfl]
        refine At.reg rfl ?_
        refine Run.mv (h := ?_)
        refine Run.as (h := ?_)
        refine Run.as (h := ?_)
        refine Run.as (h := ?_)
        refine Run.fin ?_
        refine At.ret ?_
        exact At.done (hΦ := by exact .inr (.inr ⟨fun h => by subst h; simp at hv0, hch, g66, N, by rw [← hN0, ← restTo_len hch hlr n (Nat.le_refl _) (by simp; omega), restTo, List.take_of_length_le (by simp; omega)]; rfl, rfl, rfl⟩))
end Go.Proofs.Ytllpfpdanonhkaa
