/- Walks: an archive of a device is made. No condition. -/
import Derived.Test.YtllpfpdanonhkaaDev
set_option maxRecDepth 8000
set_option maxHeartbeats 4000000
set_option linter.unusedVariables false
set_option linter.unusedSimpArgs false
namespace Go.Proofs.Ytllpfpdanonhkaa
open Go.Sx Go.RowKit

def exR (b : List Int) (x : Ex) : Rn := ⟨x.off, x.len, x.hole, if x.hole then [] else part b x.off.toNat x.len.toNat⟩
def mkStep (par : Int) (b : List Int) (acc : List Rn) (x : Ex) : List Rn := if par ≠ 0 ∧ ¬ x.dirty = true then acc else layP acc (exR b x)
def mkRuns (par : Int) (b : List Int) (l : List Ex) : List Rn := l.foldl (mkStep par b) []
def RnB (e : Int) (r : Rn) : Prop := RnOk r ∧ r.off + r.len ≤ e ∧ (r.data.length : Int) ≤ r.len
theorem mk_succ {par : Int} {b : List Int} {l : List Ex} {k : Nat} {x : Ex} (h : l[k]? = some x) : mkRuns par b (l.take (k + 1)) = mkStep par b (mkRuns par b (l.take k)) x := by
  rw [List.take_add_one, h]; simp [mkRuns]
theorem RnB.mono {e e' : Int} {r : Rn} (h : RnB e r) (k : e ≤ e') : RnB e' r := ⟨h.1, by have := h.2.1; omega, h.2.2⟩
theorem layP_B {e : Int} {l : List Rn} {r : Rn} (h : ∀ x ∈ l, RnB e x) (hr : RnB e r) (he : e ≤ 33554432) : ∀ x ∈ layP l r, RnB e x := by
  rcases List.eq_nil_or_concat l with rfl | ⟨ini, y, rfl⟩
  · intro x hx; rw [show x = r by simpa [layP] using hx]; exact hr
  · rw [List.concat_eq_append] at h ⊢
    rw [layP_snoc]
    intro x hx
    rcases List.mem_append.1 hx with hx | hx
    · exact h x (List.mem_append_left _ hx)
    · split at hx
      · rename_i hj
        have hy := h y (by simp)
        obtain ⟨⟨a1, a2, a3, a4, a5, a6⟩, a7, a8⟩ := hy
        obtain ⟨⟨b1, b2, b3, b4, b5, b6⟩, b7, b8⟩ := hr
        have := hj.1
        rw [List.mem_singleton.1 hx]
        refine ⟨⟨a1, a2, by dsimp only; omega, by dsimp only; omega, by simp; omega, a6.app b6⟩, by dsimp only; omega, by simp; omega⟩
      · rcases List.mem_cons.1 hx with rfl | hx
        · exact h _ (by simp)
        · rw [List.mem_singleton.1 hx]; exact hr
theorem layP_len {l : List Rn} {r : Rn} : (layP l r).length ≤ l.length + 1 := by
  rcases List.eq_nil_or_concat l with rfl | ⟨ini, y, rfl⟩
  · simp [layP]
  · rw [List.concat_eq_append, layP_snoc]; split <;> simp
theorem DevGo_at {b : List Int} {l : List Ex} (h : DevGo b 0 l) (hok : ∀ x ∈ l, ExOk x) : ∀ k, k ≤ l.length → DevGo b (endE l k) (l.drop k) ∧ 0 ≤ endE l k ∧ endE l k ≤ b.length
  | 0, _ => ⟨h, Int.le_refl _, by show (0 : Int) ≤ _; omega⟩
  | k + 1, hk => by
    obtain ⟨h1, h2, h3⟩ := DevGo_at h hok k (by omega)
    obtain ⟨x, hx⟩ : ∃ x, l[k]? = some x := ⟨l[k]'(by omega), List.getElem?_eq_getElem _⟩
    rw [DevGo_drop hx] at h1
    have he : endE l (k + 1) = endE l k + x.len := by simp [endE, hx]
    rw [he]
    obtain ⟨o1, o2, o3, o4⟩ := h1.1
    obtain ⟨q1, q2, q3, q4⟩ := hok x (List.mem_of_getElem? hx)
    exact ⟨h1.2, by omega, by omega⟩
theorem exR_B {b : List Int} {x : Ex} {e : Int} (q : ExOk x) (hl : x.off + x.len ≤ b.length) (hs : b.length ≤ 33554432) (hy : Byt b) (he : x.off + x.len ≤ e) : RnB e (exR b x) := by
  obtain ⟨q1, q2, q3, q4⟩ := q
  have hpl : (part b x.off.toNat x.len.toNat).length = x.len.toNat := part_length (by omega)
  have hd : (exR b x).data.length ≤ x.len.toNat ∧ Byt (exR b x).data := by
    unfold exR
    cases x.hole
    · exact ⟨Nat.le_of_eq hpl, part_byt hy⟩
    · exact ⟨Nat.zero_le _, fun _ h => by cases h⟩
  exact ⟨⟨q1, q2, q3, q4, by omega, hd.2⟩, he, by have : (exR b x).len = x.len := rfl; omega⟩
def badArg (id par : Int) (b : List Int) : Prop := ((id = 0 ∨ id = par) ∨ (b.length : Int) = 0) ∨ 33554432 < (b.length : Int)

theorem make_ {w0 : World} {L : List HP} {id par : Int} {ao lo : Option Addr} {n cp m cl : Nat} {b : List Int} {l : List Ex} (hid : 0 ≤ id ∧ id < 18446744073709551616) (hpar : 0 ≤ par ∧ par < 18446744073709551616) (hb : RdS w0 L 1 ao (ints .u8 b)) (hn : n = b.length) (hcp : n ≤ cp) (hle : n ≤ 1099511627776) (hy : Byt b) (hl : RdS w0 L 5 lo (l.map cellsE)) (hm : m = l.length) (hml : m ≤ 1099511627776) (hok : ∀ x ∈ l, ExOk x) :
    CallOk Tb.P w0 L 12 [.int .u64 id, .int .u64 par, .slice ao n cp, .slice lo m cl] fun u L' => (badArg id par b ∧ u = .tuple #[.agg #[.int .u64 0, .int .u64 0, .int .u64 0, .slice none 0 0], .int .i64 2] ∧ L' = L) ∨ (¬ badArg id par b ∧ ¬ DevGo b 0 l ∧ u = .tuple #[.agg #[.int .u64 0, .int .u64 0, .int .u64 0, .slice none 0 0], .int .i64 254] ∧ L' = L) ∨ (¬ badArg id par b ∧ DevGo b 0 l ∧ ∃ ao' cp' rs, pures rs = mkRuns par b l ∧ (∀ r ∈ pures rs, RnB b.length r) ∧ u = .tuple #[.agg #[.int .u64 id, .int .u64 par, .int .u64 n, .slice ao' rs.length cp'], .int .i64 0] ∧ L' = Rns ao' cp' rs :: L) := by
  refine enter Try.func12 rfl Try.ntmps12 (Nat.le_of_ble_eq_true rfl) ?_
  refine At.seq ?_
  refine At.reg rfl ?_
  refine Run.al Tb.Z28 (h := fun g8 => ?_)
  refine Run.as (h := ?_)
  refine Run.fin ?_
  refine At.seq ?_
  refine At.block ?_
  refine At.seq ?_
  refine At.reg rfl ?_
  refine Run.mv (h := ?_)
  refine Run.eq (h := ?_)
  refine Run.mv (h := ?_)
  refine Run.orB 3 2 (ht := fun hg21 => by
      refine Run.mv (h := ?_)
      refine Run.mv (h := ?_)
      refine Run.eq (h := ?_)
      exact Run.fin_sc ScEnd.here) (hrest := ?_)
  refine Run.mv (h := ?_)
  refine Run.orB 3 7 (ht := fun hg26 => by
      refine Run.mv (h := ?_)
      refine Run.len Tb.L23 (h := ?_)
      refine Run.eq (h := ?_)
      exact Run.fin_sc ScEnd.here) (hrest := ?_)
  refine Run.mv (h := ?_)
  refine Run.orB 3 12 (ht := fun hg31 => by
      refine Run.mv (h := ?_)
      refine Run.len Tb.L23 (h := ?_)
      refine Run.gt (h := ?_)
      exact Run.fin_sc ScEnd.here) (hrest := ?_)
  refine Run.as (h := ?_)
  refine Run.fin ?_
  refine At.cnd' (ht := fun hc14 => ?_) (hf := fun hc14 => ?_)
  · skip
    refine At.seq ?_
    refine At.reg rfl ?_
    refine Run.bd Tb.B28 (h := ?_)
    refine Run.st Tb.S28 (h := ?_)
    refine Run.as (h := ?_)
    refine Run.fin ?_
    refine At.ret ?_
    refine At.inb_ret ?_
    refine At.then_ret ?_
    exact At.done (hΦ := by exact .inl ⟨by unfold badArg; omega, rfl, rfl⟩) (hres := ResR.block (ht := Tb.A28) (hn := Tb.S28) (k := ResR.tmp rfl ResR.nil))
  · skip
    refine At.seq ?_
    refine At.reg rfl ?_
    refine Run.mv (h := ?_)
    refine Run.mv (h := ?_)
    refine Run.call Tb.N34 (hc := device hb.sub hn hcp hle hy hl.sub hm hml hok) (h := ?_)
    rintro _ _ ⟨bd, rfl, hbd, rfl⟩
    refine Run.not (h := ?_)
    refine Run.as (h := ?_)
    refine Run.fin ?_
    refine At.cnd' (ht := fun hc33 => ?_) (hf := fun hc33 => ?_)
    · skip
      refine At.seq ?_
      refine At.reg rfl ?_
      refine Run.bd Tb.B28 (h := ?_)
      refine Run.st Tb.S28 (h := ?_)
      refine Run.as (h := ?_)
      refine Run.fin ?_
      refine At.ret ?_
      refine At.inb_ret ?_
      refine At.then_ret ?_
      exact At.done (hΦ := by exact .inr (.inl ⟨by unfold badArg; omega, fun h => hc33 (hbd.2 h), rfl, rfl⟩)) (hres := ResR.block (ht := Tb.A28) (hn := Tb.S28) (k := ResR.tmp rfl ResR.nil))
    · skip
      refine At.skip ?_
      refine At.inb_norm ?_
      refine At.seq ?_
      refine At.reg rfl ?_
      refine Run.mv (h := ?_)
      refine Run.mv (h := ?_)
      refine Run.mv (h := ?_)
      refine Run.len Tb.L23 (h := ?_)
      refine Run.cvf Tb.I3 Tb.I22 (hw := by exact wu64 (by omega) (by omega)) (h := ?_)
      refine Run.bd Tb.B28 (h := ?_)
      refine Run.al Tb.Z28 (h := fun g10 => ?_)
      refine Run.st Tb.S28 (h := ?_)
      refine Run.fin ?_
      refine At.seq ?_
      refine At.seq ?_
      refine At.reg rfl ?_
      refine Run.mv (h := ?_)
      refine Run.len Tb.L24 (h := ?_)
      refine Run.mv (h := ?_)
      refine Run.fin ?_
      refine At.block ?_
      have hdev : DevGo b 0 l := hbd.1 (by simpa using hc33)
      refine At.chunks (fun _ hf => Rns_nil hf) ?_
      refine At.loop (α := Nat × List RV × Option Addr × Nat) (fun x => ⟨[(1, .int .u64 par), (2, .slice ao n cp), (8, .pointer (some ⟨g8, 0, none⟩)), (10, .pointer (some ⟨g10, 0, none⟩)), (45, .slice lo m cl), (46, .int .i64 m), (47, .int .i64 x.1)], cel g10 28 [.int .u64 id, .int .u64 par, .int .u64 n, .slice x.2.2.1 x.2.1.length x.2.2.2] :: cel g8 28 [.int .u64 0, .int .u64 0, .int .u64 0, .slice none 0 0] :: Rns x.2.2.1 x.2.2.2 x.2.1 :: L, []⟩) (fun x => x.1 ≤ m ∧ pures x.2.1 = mkRuns par b (l.take x.1) ∧ (∀ r ∈ pures x.2.1, RnB (endE l x.1) r) ∧ x.2.1.length ≤ x.1) (fun x => m - x.1) ((0, [], none, 0)) (⟨Nat.zero_le _, rfl, (fun r h => by simp [pures] at h), Nat.le_refl _⟩) (Ent.of (by repeat (first | exact SubE.nil | refine SubE.cons (by first | rfl | (show some _ = some _; simp; done)) ?_)) (by repeat (first | exact SubL.refl | refine SubL.cons (by repeat (first | exact Pick.here | apply Pick.there)) ?_ | refine SubL.skip ?_ | exact SubL.nil))) (fun x hx => ?_)
      obtain ⟨k, rs, a1, c1⟩ := x
      dsimp only at hx ⊢
      obtain ⟨hk, hpu, hB, hlen⟩ := hx
      refine At.seq ?_
      refine At.reg rfl ?_
      refine Run.lt (h := ?_)
      refine Run.fin ?_
      refine At.seq ?_
      refine At.cnd' (ht := fun hc48 => ?_) (hf := fun hc48 => ?_)
      · skip
        obtain ⟨x, hxk⟩ : ∃ x, l[k]? = some x := ⟨l[k]'(by omega), List.getElem?_eq_getElem _⟩
        obtain ⟨q1, q2, q3, q4⟩ := hok x (List.mem_of_getElem? hxk)
        have hend : endE l (k + 1) = endE l k + x.len := by simp [endE, hxk]
        obtain ⟨hg, he0, he1⟩ := DevGo_at hdev hok k (by omega)
        obtain ⟨_, _, he2⟩ := DevGo_at hdev hok (k + 1) (by omega)
        rw [DevGo_drop hxk] at hg
        obtain ⟨⟨o1, o2, o3, o4⟩, _⟩ := hg
        have hsm : b.length ≤ 33554432 := by unfold badArg at hc14; omega
        have hpl : (part b x.off.toNat x.len.toNat).length = x.len.toNat := part_length (by omega)
        have hrx : RnB (endE l (k + 1)) (exR b x) := exR_B (hok x (List.mem_of_getElem? hxk)) (by omega) hsm hy (by omega)
        refine At.skip ?_
        refine At.seq ?_
        refine At.block ?_
        refine At.seq ?_
        refine At.reg rfl ?_
        refine Run.iaR (ht := Tb.L24) (hR := hl.sub) (hj := rfl) (h1 := by simp; omega) (hn := by omega) (h := ?_)
        refine Run.ldrA (ht := Tb.A37) (hn := Tb.S37) (hR := hl.sub) (hj := cellsE_at hxk) (h := ?_)
        refine Run.al Tb.Z37 (h := fun g12 => ?_)
        refine Run.st Tb.S37 (h := ?_)
        refine Run.fin ?_
        refine At.seq ?_
        refine At.seq ?_
        refine At.reg rfl ?_
        refine Run.mv (h := ?_)
        refine Run.ne (h := ?_)
        refine Run.mv (h := ?_)
        refine Run.andB 3 2 (ht := fun hg57 => by
            refine Run.fa Tb.F37_4 (h := ?_)
            refine Run.ld Tb.A4 (h := ?_)
            refine Run.not (h := ?_)
            exact Run.fin_sc ScEnd.here) (hrest := ?_)
        refine Run.fin ?_
        refine At.cnd' (ht := fun hc57 => ?_) (hf := fun hc57 => ?_)
        · skip
          refine At.exit ?_
          refine At.then_exit ?_
          refine At.inb_hit ?_
          refine At.reg rfl ?_
          refine Run.add (h := ?_)
          refine Run.eqi (b := ((k + 1 : Nat) : Int)) (by rw [wi64 (by omega) (by omega)]; omega) ?_
          refine Run.mv (h := ?_)
          refine Run.fin ?_
          exact At.again ((k + 1, rs, a1, c1)) (⟨by dsimp only; omega, by dsimp only; rw [mk_succ hxk, ← hpu, mkStep, if_pos hc57], fun r h => (hB r h).mono (by dsimp only; rw [hend]; omega), by dsimp only; omega⟩) (by dsimp only; omega)
        · skip
          refine At.skip ?_
          refine At.seq ?_
          refine At.reg rfl ?_
          refine Run.fa Tb.F37_0 (h := ?_)
          refine Run.ld Tb.A22 (h := ?_)
          refine Run.fa Tb.F37_1 (h := ?_)
          refine Run.ld Tb.A22 (h := ?_)
          refine Run.fa Tb.F37_2 (h := ?_)
          refine Run.ld Tb.A4 (h := ?_)
          refine Run.bd Tb.B76 (h := ?_)
          refine Run.al Tb.Z76 (h := fun g13 => ?_)
          refine Run.st Tb.S76 (h := ?_)
          refine Run.fin ?_
          refine At.seq ?_
          refine At.seq ?_
          refine At.reg rfl ?_
          refine Run.fa Tb.F37_2 (h := ?_)
          refine Run.ld Tb.A4 (h := ?_)
          refine Run.not (h := ?_)
          refine Run.fin ?_
          refine At.cnd' (ht := fun hc67 => ?_) (hf := fun hc67 => ?_)
          · skip
            refine At.reg rfl ?_
            refine Run.mv (h := ?_)
            refine Run.fa Tb.F37_0 (h := ?_)
            refine Run.ld Tb.A22 (h := ?_)
            refine Run.fa Tb.F37_0 (h := ?_)
            refine Run.ld Tb.A22 (h := ?_)
            refine Run.fa Tb.F37_1 (h := ?_)
            refine Run.ld Tb.A22 (h := ?_)
            refine Run.add (h := ?_)
            refine Run.eqi (b := x.off + x.len) (wu64 (by omega) (by omega)) ?_
            refine Run.sl Tb.L23 (h0 := by omega) (h1 := by omega) (h2 := by omega) (hs := hb.plain (by simp; omega)) (hr := ?_)
            have hd1 : (exR b x).data = part b x.off.toNat x.len.toNat := by simp [exR, hc67]
            refine Run.eqv (v' := .slice (cutA ao x.off.toNat 1 cp) (exR b x).data.length (cp - x.off.toNat)) (by rw [hd1, hpl]; congr 1; omega) ?_
            refine Run.fa Tb.F76_3 (h := ?_)
            refine Run.st Tb.S23 (h := ?_)
            refine Run.fin ?_
            refine At.reg rfl ?_
            refine Run.fa Tb.F28_3 (h := ?_)
            refine Run.ld Tb.A26 (h := ?_)
            refine Run.ldA Tb.A76 Tb.S76 (h := ?_)
            refine Run.call Tb.N35 (hc := lay_ (r := exR b x) (by repeat (first | exact Pick.here | apply Pick.there)) (by rw [hd1, part, ← ints_drop, ← ints_take, show x.off.toNat + x.len.toNat = (x.off + x.len).toNat by omega]; exact (hb.cut (by simp; omega) (by simp; omega)).sub) hrx.1 (fun y hy => by obtain ⟨c1, c2, c3⟩ := hB y.1 (List.mem_map.2 ⟨y, hy, rfl⟩); obtain ⟨b1, b2, b3, b4, b5, b6⟩ := c1; have e1 : (exR b x).len = x.len := rfl; obtain ⟨_, d2, d3⟩ := hrx; rw [e1] at d3 ⊢; exact ⟨⟨b1, b2, b3, b4, b5, b6⟩, by omega, by omega, by omega⟩) (by omega) rfl) (h := ?_)
            rintro _ _ ⟨a2, c2, rs2, hrs2, rfl, rfl⟩
            refine Run.fa Tb.F28_3 (h := ?_)
            refine Run.st Tb.S26 (h := ?_)
            refine Run.fin ?_
            refine At.inb_norm ?_
            refine At.reg rfl ?_
            refine Run.add (h := ?_)
            refine Run.eqi (b := ((k + 1 : Nat) : Int)) (by rw [wi64 (by omega) (by omega)]; omega) ?_
            refine Run.mv (h := ?_)
            refine Run.fin ?_
            exact At.again ((k + 1, rs2, a2, c2)) (⟨by dsimp only; omega, by dsimp only; rw [mk_succ hxk, ← hpu, mkStep, if_neg hc57, hrs2], fun r h => by rw [hrs2] at h; exact layP_B (fun y hy => (hB y hy).mono (by rw [hend]; omega)) hrx (by omega) r h, by have h1 := congrArg List.length hrs2; have h2 := layP_len (l := pures rs) (r := exR b x); simp only [pures, List.length_map] at h1 h2; dsimp only; omega⟩) (by dsimp only; omega)
          · skip
            have hh : x.hole = true := by simpa using hc67
            have hd0 : (exR b x).data = [] := by simp [exR, hh]
            refine At.chunks (L' := cel g13 76 [.int .u64 x.off, .int .u64 x.len, .bool x.hole, .slice none (exR b x).data.length 0] :: cel g12 37 [.int .u64 x.off, .int .u64 x.len, .bool x.hole, .bool x.unsaved, .bool x.dirty] :: cel g10 28 [.int .u64 id, .int .u64 par, .int .u64 n, .slice a1 rs.length c1] :: cel g8 28 [.int .u64 0, .int .u64 0, .int .u64 0, .slice none 0 0] :: Rns a1 c1 rs :: L) (fun _ hf => by rw [hd0]; exact hf) ?_
            refine At.skip ?_
            refine At.reg rfl ?_
            refine Run.fa Tb.F28_3 (h := ?_)
            refine Run.ld Tb.A26 (h := ?_)
            refine Run.ldA Tb.A76 Tb.S76 (h := ?_)
            refine Run.call Tb.N35 (hc := lay_ (r := exR b x) (by repeat (first | exact Pick.here | apply Pick.there)) (by rw [hd0]; exact RdS.nil) hrx.1 (fun y hy => by obtain ⟨c1, c2, c3⟩ := hB y.1 (List.mem_map.2 ⟨y, hy, rfl⟩); obtain ⟨b1, b2, b3, b4, b5, b6⟩ := c1; have e1 : (exR b x).len = x.len := rfl; obtain ⟨_, d2, d3⟩ := hrx; rw [e1] at d3 ⊢; exact ⟨⟨b1, b2, b3, b4, b5, b6⟩, by omega, by omega, by omega⟩) (by omega) rfl) (h := ?_)
            rintro _ _ ⟨a2, c2, rs2, hrs2, rfl, rfl⟩
            refine Run.fa Tb.F28_3 (h := ?_)
            refine Run.st Tb.S26 (h := ?_)
            refine Run.fin ?_
            refine At.inb_norm ?_
            refine At.reg rfl ?_
            refine Run.add (h := ?_)
            refine Run.eqi (b := ((k + 1 : Nat) : Int)) (by rw [wi64 (by omega) (by omega)]; omega) ?_
            refine Run.mv (h := ?_)
            refine Run.fin ?_
            exact At.again ((k + 1, rs2, a2, c2)) (⟨by dsimp only; omega, by dsimp only; rw [mk_succ hxk, ← hpu, mkStep, if_neg hc57, hrs2], fun r h => by rw [hrs2] at h; exact layP_B (fun y hy => (hB y hy).mono (by rw [hend]; omega)) hrx (by omega) r h, by have h1 := congrArg List.length hrs2; have h2 := layP_len (l := pures rs) (r := exR b x); simp only [pures, List.length_map] at h1 h2; dsimp only; omega⟩) (by dsimp only; omega)
      · skip
        refine At.exit ?_
        refine At.then_exit ?_
        refine At.then_exit ?_
        refine At.inb_hit ?_
        refine At.seq ?_
        refine At.reg rfl ?_
        refine Run.ldA Tb.A28 Tb.S28 (h := ?_)
        refine Run.st Tb.S28 (h := ?_)
        refine Run.as (h := ?_)
        refine Run.fin ?_
        refine At.ret ?_
        have hkm : m = k := by omega
        exact At.done (hΦ := by exact .inr (.inr ⟨by unfold badArg; omega, hdev, a1, c1, rs, by rw [hpu, List.take_of_length_le (by omega)], fun r h => (hB r h).mono (DevGo_at hdev hok k (by omega)).2.2, rfl, rfl⟩)) (hres := ResR.block (ht := Tb.A28) (hn := Tb.S28) (k := ResR.tmp rfl ResR.nil))
end Go.Proofs.Ytllpfpdanonhkaa
