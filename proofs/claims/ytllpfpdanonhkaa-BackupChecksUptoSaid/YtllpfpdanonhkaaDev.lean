/- Walks: do extents make up a device. No condition. -/
import Derived.Test.YtllpfpdanonhkaaLay
set_option maxRecDepth 8000
set_option maxHeartbeats 4000000
set_option linter.unusedVariables false
set_option linter.unusedSimpArgs false
namespace Go.Proofs.Ytllpfpdanonhkaa
open Go.Sx Go.RowKit

theorem lay_ {w0 : World} {L F : List HP} {ao da : Option Addr} {cp dc n : Nat} {r : Rn} {rs : List RV} (hp : Pick L (Rns ao cp rs) F) (hd : RdS w0 F 1 da (ints .u8 r.data)) (hr : RnOk r) (hx : ∀ x ∈ rs, RnOk x.1 ∧ x.1.off + x.1.len < 18446744073709551616 ∧ x.1.len + r.len < 18446744073709551616 ∧ x.1.data.length + r.data.length ≤ 1099511627776) (hnn : rs.length ≤ 1099511627776) (hn : n = rs.length) :
    CallOk Tb.P w0 L 35 [.slice ao n cp, .agg #[.int .u64 r.off, .int .u64 r.len, .bool r.hole, .slice da r.data.length dc]] fun u L' => ∃ ao' cp' rs', pures rs' = layP (pures rs) r ∧ u = .slice ao' rs'.length cp' ∧ L' = Rns ao' cp' rs' :: F := by
  subst hn
  rcases List.eq_nil_or_concat rs with rfl | ⟨ini, x, rfl⟩
  · exact lay0 hp hd hr
  · rw [List.concat_eq_append] at *
    obtain ⟨h1, h2, h3, h4⟩ := hx x (by simp)
    exact lay1 hp hd hr h1 h2 h3 h4 (by simp at hnn; omega)
structure Ex where
  off : Int
  len : Int
  hole : Bool
  unsaved : Bool
  dirty : Bool
def cellsE (x : Ex) : List Value := [.int .u64 x.off, .int .u64 x.len, .bool x.hole, .bool x.unsaved, .bool x.dirty]
def ExOk (x : Ex) : Prop := 0 ≤ x.off ∧ x.off < 18446744073709551616 ∧ 0 ≤ x.len ∧ x.len < 18446744073709551616
def okEx (b : List Int) (a : Int) (x : Ex) : Prop := x.off = a ∧ x.len ≠ 0 ∧ x.len ≤ b.length - a ∧ (x.hole = true → lmax (part b a.toNat x.len.toNat) ≤ 0)
def DevGo (b : List Int) : Int → List Ex → Prop
  | a, [] => a = b.length
  | a, x :: l => okEx b a x ∧ DevGo b (a + x.len) l
def endE (l : List Ex) : Nat → Int
  | 0 => 0
  | k + 1 => match l[k]? with | some x => endE l k + x.len | none => 0
theorem DevGo_drop {b : List Int} {a : Int} {l : List Ex} {k : Nat} {x : Ex} (h : l[k]? = some x) : DevGo b a (l.drop k) ↔ okEx b a x ∧ DevGo b (a + x.len) (l.drop (k + 1)) := by
  obtain ⟨hk, rfl⟩ := List.getElem?_eq_some_iff.1 h
  rw [List.drop_eq_getElem_cons hk]; rfl
theorem cellsE_at {l : List Ex} {k : Nat} {x : Ex} (h : l[k]? = some x) : (l.map cellsE)[k]? = some [.int .u64 x.off, .int .u64 x.len, .bool x.hole, .bool x.unsaved, .bool x.dirty] := by simp [h, cellsE]

theorem device {w0 : World} {L : List HP} {ao lo : Option Addr} {n cp m cl : Nat} {b : List Int} {l : List Ex} (hb : RdS w0 L 1 ao (ints .u8 b)) (hn : n = b.length) (hcp : n ≤ cp) (hle : n ≤ 1099511627776) (hy : Byt b) (hl : RdS w0 L 5 lo (l.map cellsE)) (hm : m = l.length) (hml : m ≤ 1099511627776) (hok : ∀ x ∈ l, ExOk x) :
    CallOk Tb.P w0 L 34 [.slice ao n cp, .slice lo m cl] fun u L' => ∃ d, u = .bool d ∧ (d = true ↔ DevGo b 0 l) ∧ L' = L := by
  refine enter Try.func34 rfl Try.ntmps34 (Nat.le_of_ble_eq_true rfl) ?_
  refine At.seq ?_
  refine At.reg rfl ?_
  refine Run.as (h := ?_)
  refine Run.fin ?_
  refine At.seq ?_
  refine At.reg rfl ?_
  refine Run.as (h := ?_)
  refine Run.fin ?_
  refine At.seq ?_
  refine At.seq ?_
  refine At.reg rfl ?_
  refine Run.mv (h := ?_)
  refine Run.len Tb.L24 (h := ?_)
  refine Run.mv (h := ?_)
  refine Run.fin ?_
  refine At.block ?_
  refine At.loop (α := Nat) (fun k => ⟨[(0, .slice ao n cp), (8, .slice lo m cl), (9, .int .i64 m), (10, .int .i64 k), (5, .int .u64 (endE l k))], L, []⟩) (fun k => k ≤ m ∧ (DevGo b 0 l ↔ DevGo b (endE l k) (l.drop k)) ∧ 0 ≤ endE l k ∧ endE l k ≤ b.length) (fun k => m - k) (0) (⟨Nat.zero_le _, Iff.rfl, Int.le_refl _, by show (0 : Int) ≤ _; omega⟩) (Ent.of (by repeat (first | exact SubE.nil | refine SubE.cons (by first | rfl | (show some _ = some _; simp; done)) ?_)) (by repeat (first | exact SubL.refl | refine SubL.cons (by repeat (first | exact Pick.here | apply Pick.there)) ?_ | refine SubL.skip ?_ | exact SubL.nil))) (fun k hx => ?_)
  obtain ⟨hk, hiff, he0, he1⟩ := hx
  refine At.seq ?_
  refine At.reg rfl ?_
  refine Run.lt (h := ?_)
  refine Run.fin ?_
  refine At.seq ?_
  refine At.cnd' (ht := fun hc1 => ?_) (hf := fun hc1 => ?_)
  · skip
    obtain ⟨x, hxk⟩ : ∃ x, l[k]? = some x := ⟨l[k]'(by omega), List.getElem?_eq_getElem _⟩
    obtain ⟨q1, q2, q3, q4⟩ := hok x (List.mem_of_getElem? hxk)
    rw [DevGo_drop hxk] at hiff
    have hend : endE l (k + 1) = endE l k + x.len := by simp [endE, hxk]
    refine At.skip ?_
    refine At.seq ?_
    refine At.block ?_
    refine At.seq ?_
    refine At.reg rfl ?_
    refine Run.iaR (ht := Tb.L24) (hR := hl) (hj := rfl) (h1 := by simp; omega) (hn := by omega) (h := ?_)
    refine Run.ldrA (ht := Tb.A37) (hn := Tb.S37) (hR := hl) (hj := cellsE_at hxk) (h := ?_)
    refine Run.al Tb.Z37 (h := fun g7 => ?_)
    refine Run.st Tb.S37 (h := ?_)
    refine Run.fin ?_
    refine At.seq ?_
    refine At.seq ?_
    refine At.reg rfl ?_
    refine Run.fa Tb.F37_0 (h := ?_)
    refine Run.ld Tb.A22 (h := ?_)
    refine Run.mv (h := ?_)
    refine Run.ne (h := ?_)
    refine Run.mv (h := ?_)
    refine Run.orB 3 4 (ht := fun hg22 => by
        refine Run.fa Tb.F37_1 (h := ?_)
        refine Run.ld Tb.A22 (h := ?_)
        refine Run.eq (h := ?_)
        exact Run.fin_sc ScEnd.here) (hrest := ?_)
    refine Run.mv (h := ?_)
    refine Run.orB 8 9 (ht := fun hg32 => by
        refine Run.fa Tb.F37_1 (h := ?_)
        refine Run.ld Tb.A22 (h := ?_)
        refine Run.mv (h := ?_)
        refine Run.len Tb.L23 (h := ?_)
        refine Run.cvf Tb.I3 Tb.I22 (hw := by exact wu64 (by omega) (by omega)) (h := ?_)
        refine Run.mv (h := ?_)
        refine Run.sub (h := ?_)
        refine Run.eqi (b := (n : Int) - endE l k) (wu64 (by omega) (by omega)) ?_
        refine Run.gt (h := ?_)
        exact Run.fin_sc ScEnd.here) (hrest := ?_)
    refine Run.fin ?_
    refine At.cnd' (ht := fun hc2 => ?_) (hf := fun hc2 => ?_)
    · skip
      refine At.seq ?_
      refine At.reg rfl ?_
      refine Run.as (h := ?_)
      refine Run.fin ?_
      refine At.ret ?_
      refine At.then_ret ?_
      refine At.inb_ret ?_
      refine At.then_ret ?_
      refine At.then_ret ?_
      refine At.inb_ret ?_
      refine At.then_ret ?_
      exact At.done (hΦ := by exact ⟨false, rfl, ⟨(fun h => by cases h), fun hm => by obtain ⟨⟨o1, o2, o3, o4⟩, _⟩ := hiff.1 hm; omega⟩, rfl⟩)
    · skip
      refine At.skip ?_
      refine At.seq ?_
      refine At.seq ?_
      refine At.reg rfl ?_
      refine Run.fa Tb.F37_2 (h := ?_)
      refine Run.ld Tb.A4 (h := ?_)
      refine Run.mv (h := ?_)
      refine Run.andB 9 2 (ht := fun hg45 => by
          refine Run.mv (h := ?_)
          refine Run.mv (h := ?_)
          refine Run.mv (h := ?_)
          refine Run.fa Tb.F37_1 (h := ?_)
          refine Run.ld Tb.A22 (h := ?_)
          refine Run.add (h := ?_)
          refine Run.eqi (b := endE l k + x.len) (wu64 (by omega) (by omega)) ?_
          refine Run.sl Tb.L23 (h0 := by omega) (h1 := by omega) (h2 := by omega) (hs := hb.plain (by simp; omega)) (hr := ?_)
          refine Run.call Tb.N59 (hc := smax (bs := part b (endE l k).toNat x.len.toNat) (n := (endE l k + x.len).toNat - (endE l k).toNat) (by rw [part, ← ints_drop, ← ints_take, show (endE l k).toNat + x.len.toNat = (endE l k + x.len).toNat by omega]; exact (hb.cut (by simp; omega) (by simp; omega)).sub) (by rw [part_length (by omega)]; omega) (by omega) (by omega)) (h := ?_)
          rintro _ _ ⟨rfl, rfl⟩
          refine Run.gt (h := ?_)
          exact Run.fin_sc ScEnd.here) (hrest := ?_)
      refine Run.fin ?_
      refine At.cnd' (ht := fun hc3 => ?_) (hf := fun hc3 => ?_)
      · skip
        refine At.seq ?_
        refine At.reg rfl ?_
        refine Run.as (h := ?_)
        refine Run.fin ?_
        refine At.ret ?_
        refine At.then_ret ?_
        refine At.inb_ret ?_
        refine At.then_ret ?_
        refine At.then_ret ?_
        refine At.inb_ret ?_
        refine At.then_ret ?_
        exact At.done (hΦ := by exact ⟨false, rfl, ⟨(fun h => by cases h), fun hm => by obtain ⟨⟨o1, o2, o3, o4⟩, _⟩ := hiff.1 hm; have := o4 hc3.1; omega⟩, rfl⟩)
      · skip
        have hall : okEx b (endE l k) x := ⟨by omega, by omega, by omega, fun h => Decidable.byContradiction fun h2 => hc3 ⟨h, by omega⟩⟩
        refine At.skip ?_
        refine At.reg rfl ?_
        refine Run.mv (h := ?_)
        refine Run.fa Tb.F37_1 (h := ?_)
        refine Run.ld Tb.A22 (h := ?_)
        refine Run.add (h := ?_)
        refine Run.eqi (b := endE l (k + 1)) (by rw [hend]; exact wu64 (by omega) (by omega)) ?_
        refine Run.as (h := ?_)
        refine Run.fin ?_
        refine At.inb_norm ?_
        refine At.reg rfl ?_
        refine Run.add (h := ?_)
        refine Run.eqi (b := ((k + 1 : Nat) : Int)) (by rw [wi64 (by omega) (by omega)]; omega) ?_
        refine Run.mv (h := ?_)
        refine Run.fin ?_
        exact At.again (k + 1) (⟨by omega, by rw [hend]; exact ⟨fun h => (hiff.1 h).2, fun h => hiff.2 ⟨hall, h⟩⟩, by rw [hend]; omega, by rw [hend]; omega⟩) (by omega)
  · skip
    refine At.exit ?_
    refine At.then_exit ?_
    refine At.then_exit ?_
    refine At.inb_hit ?_
    refine At.seq ?_
    refine At.reg rfl ?_
    refine Run.mv (h := ?_)
    refine Run.mv (h := ?_)
    refine Run.len Tb.L23 (h := ?_)
    refine Run.cvf Tb.I3 Tb.I22 (hw := by exact wu64 (by omega) (by omega)) (h := ?_)
    refine Run.eq (h := ?_)
    refine Run.as (h := ?_)
    refine Run.fin ?_
    refine At.ret ?_
    have hkm : k = m := by omega
    rw [hkm, List.drop_of_length_le (by omega)] at hiff
    exact At.done (hΦ := by exact ⟨_, rfl, by rw [hkm, hiff, decide_eq_true_iff]; simp only [DevGo, hn], rfl⟩)
end Go.Proofs.Ytllpfpdanonhkaa
