/- Walks: an archive as bytes (backup, and its reference). No condition. -/
import Derived.Test.YtllpfpdanonhkaaMay
set_option maxRecDepth 8000
set_option maxHeartbeats 4000000
set_option linter.unusedVariables false
set_option linter.unusedSimpArgs false
namespace Go.Proofs.Ytllpfpdanonhkaa
open Go.Sx Go.RowKit

/-! ### An archive as bytes, plainly -/
def sealB (b : List Int) : List Int := b ++ bigs (crcv b) 4
def hdr (vs : List Int) (k : Nat) : List Int := ((vs.take k).map fun v => bigs v 8).flatten
def hdV (a : Ar) : List Int := [6003378903737058097, a.id, a.par, a.size, a.runs.length]
def encH (r : Rn) : List Int := bigs r.off 8 ++ bigs r.len 8 ++ bigs (if r.hole then 0 else 1) 1
def encR (r : Rn) : List Int := sealB (encH r) ++ if r.hole then [] else sealB r.data
def encTo (a : Ar) (k : Nat) : List Int := sealB (hdr (hdV a) 5) ++ ((a.runs.take k).map encR).flatten
def enc (a : Ar) : List Int := encTo a a.runs.length
theorem hdr_succ {vs : List Int} {k : Nat} (h : k < vs.length) : hdr vs k ++ bigs (vs.getD k 0) 8 = hdr vs (k + 1) := by
  unfold hdr
  rw [← take_snoc h]; simp
theorem hdr_len {vs : List Int} {k : Nat} (h : k ≤ vs.length) : (hdr vs k).length = 8 * k := by
  induction k with
  | zero => rfl
  | succ k ih => rw [← hdr_succ (by omega), List.length_append, ih (by omega), bigs_len]; omega
theorem hdr_byt {vs : List Int} {k : Nat} : Byt (hdr vs k) := fun b hb => by
  obtain ⟨l, hl, hbl⟩ := List.mem_flatten.1 hb
  obtain ⟨v, _, rfl⟩ := List.mem_map.1 hl
  exact bigs_byt b hbl
theorem sealB_len {b : List Int} : (sealB b).length = b.length + 4 := by simp [sealB, bigs_len]
theorem encH_len {r : Rn} : (encH r).length = 17 := by simp [encH, bigs_len]
theorem encH_byt {r : Rn} : Byt (encH r) := (bigs_byt.app bigs_byt).app bigs_byt
theorem sealB_byt {b : List Int} (h : Byt b) : Byt (sealB b) := h.app bigs_byt
theorem encTo_succ {a : Ar} {k : Nat} {r : Rn} (h : a.runs[k]? = some r) : encTo a (k + 1) = encTo a k ++ encR r := by
  obtain ⟨hk, rfl⟩ := List.getElem?_eq_some_iff.1 h
  unfold encTo
  rw [List.take_add_one]
  simp only [List.getElem?_eq_getElem hk, Option.toList_some, List.map_append, List.map_cons, List.map_nil, List.flatten_append, List.flatten_cons, List.flatten_nil, List.append_nil, List.append_assoc]
theorem encTo_hole {a : Ar} {k : Nat} {r : Rn} (h : a.runs[k]? = some r) (hh : r.hole = true) : encTo a k ++ encH r ++ bigs (crcv (encH r)) 4 = encTo a (k + 1) := by
  rw [encTo_succ h]; simp [encR, sealB, hh]
theorem encTo_data {a : Ar} {k : Nat} {r : Rn} (h : a.runs[k]? = some r) (hh : ¬ r.hole = true) : encTo a k ++ encH r ++ bigs (crcv (encH r)) 4 ++ r.data ++ bigs (crcv r.data) 4 = encTo a (k + 1) := by
  rw [encTo_succ h]; simp [encR, sealB, hh]
theorem encTo_mono {a : Ar} {k m : Nat} (h : k ≤ m) : (encTo a k).length ≤ (encTo a m).length := by
  induction m with
  | zero => rw [show k = 0 by omega]; exact Nat.le_refl _
  | succ m ih =>
    by_cases e : k = m + 1
    · rw [e]; exact Nat.le_refl _
    · refine Nat.le_trans (ih (by omega)) ?_
      cases hr : a.runs[m]? with
      | none =>
        unfold encTo
        rw [List.take_of_length_le (i := m + 1) (by have := List.getElem?_eq_none_iff.1 hr; omega), List.take_of_length_le (i := m) (List.getElem?_eq_none_iff.1 hr)]
        exact Nat.le_refl _
      | some r => rw [encTo_succ hr, List.length_append]; omega
theorem encTo_le {a : Ar} {k : Nat} (h : k ≤ a.runs.length) : (encTo a k).length ≤ (enc a).length := encTo_mono h
theorem u8_hole (b : Bool) : 0 ≤ (if b then 0 else 1 : Int) ∧ (if b then 0 else 1 : Int) < 256 := by cases b <;> decide

theorem sealed {w0 : World} {L : List HP} {g : Nat} {bs xs : List Int} {F : List HP} {ao : Option Addr} {m c : Nat} (hp : Pick L (Wr g bs) F) (hb : RdS w0 F 1 ao (ints .u8 xs)) (hm : m = xs.length) (hy : Byt xs) (hle : bs.length + xs.length + 4 ≤ 1099511627776) :
    CallOk Tb.P w0 L 40 [.pointer (some ⟨g, 0, none⟩), .slice ao m c] fun u L' => u = .tuple #[] ∧ L' = Wr g (bs ++ xs ++ bigs (crcv xs) 4) :: F := by
  refine enter Try.func40 rfl Try.ntmps40 (Nat.le_of_ble_eq_true rfl) ?_
  refine At.seq ?_
  refine At.reg rfl ?_
  refine Run.mv (h := ?_)
  refine Run.mv (h := ?_)
  refine Run.call Tb.N62 (hc := wraw hp hb hm (by omega)) (h := ?_)
  rintro _ _ ⟨rfl, rfl⟩
  refine Run.fin ?_
  refine At.reg rfl ?_
  refine Run.mv (h := ?_)
  refine Run.mv (h := ?_)
  refine Run.bs Tb.G39 (h := fun g9 => ?_)
  refine Run.call Tb.N64 (hc := crc hb.sub .one hm (by omega) hy) (h := ?_)
  rintro _ _ ⟨rfl, rfl⟩
  refine Run.call Tb.N63 (hc := wU32 (by repeat (first | exact Pick.here | apply Pick.there)) (crcv_range xs) (by simp; omega)) (h := ?_)
  rintro _ _ ⟨rfl, rfl⟩
  refine Run.fin ?_
  exact At.doneN (hΦ := by exact ⟨rfl, rfl⟩)
theorem encode {w0 : World} {L : List HP} {id par size : Int} {ao : Option Addr} {n cp : Nat} {rs : List RV} (hr : RdS w0 L 4 ao (rs.map cellsV)) (hn : n = rs.length) (hle : n ≤ 1099511627776) (hok : ∀ r ∈ rs, RnOk r.1) (hid : 0 ≤ id ∧ id < 18446744073709551616) (hpar : 0 ≤ par ∧ par < 18446744073709551616) (hsz : 0 ≤ size ∧ size < 18446744073709551616) (hdt : ∀ r ∈ rs, RdS w0 L 1 r.2.1 (ints .u8 r.1.data)) (hbig : (enc ⟨id, par, size, pures rs⟩).length ≤ 549755813888) :
    CallOk Tb.P w0 L 20 [.agg #[.int .u64 id, .int .u64 par, .int .u64 size, .slice ao n cp]] fun u L' => (May ⟨id, par, size, pures rs⟩ ∧ ∃ q, u = .tuple #[.slice (some ⟨q, 0, none⟩) (enc ⟨id, par, size, pures rs⟩).length (enc ⟨id, par, size, pures rs⟩).length, .int .i64 0] ∧ L' = row 5 1 (some ⟨q, 0, none⟩) (enc ⟨id, par, size, pures rs⟩).length (ints .u8 (enc ⟨id, par, size, pures rs⟩)) :: L) ∨ (¬ May ⟨id, par, size, pures rs⟩ ∧ u = .tuple #[.slice none 0 0, .int .i64 250] ∧ L' = L) := by
  refine enter Try.func20 rfl Try.ntmps20 (Nat.le_of_ble_eq_true rfl) ?_
  refine At.seq ?_
  refine At.reg rfl ?_
  refine Run.bx (h := fun g1 => ?_)
  refine Run.as (h := ?_)
  refine Run.as (h := ?_)
  refine Run.fin ?_
  refine At.seq ?_
  refine At.seq ?_
  refine At.reg rfl ?_
  refine Run.ldA Tb.A28 Tb.S28 (h := ?_)
  refine Run.call Tb.N37 (hc := may hr.sub hn hle hok hsz) (h := ?_)
  rintro _ _ ⟨bm, rfl, hbm, rfl⟩
  refine Run.not (h := ?_)
  refine Run.fin ?_
  refine At.cnd' (ht := fun hc14 => ?_) (hf := fun hc14 => ?_)
  · skip
    refine At.seq ?_
    refine At.reg rfl ?_
    refine Run.as (h := ?_)
    refine Run.as (h := ?_)
    refine Run.fin ?_
    refine At.ret ?_
    refine At.then_ret ?_
    exact At.done (hΦ := by exact .inr ⟨fun h => hc14 (hbm.2 h), rfl, rfl⟩)
  · skip
    refine At.skip ?_
    refine At.seq ?_
    refine At.reg rfl ?_
    refine Run.call Tb.N38 (hc := newWriter) (h := ?_)
    rintro _ _ ⟨gw, rfl, rfl⟩
    refine Run.call Tb.N38 (hc := newWriter) (h := ?_)
    rintro _ _ ⟨gh, rfl, rfl⟩
    refine Run.as (h := ?_)
    refine Run.as (h := ?_)
    refine Run.fin ?_
    refine At.seq ?_
    refine At.seq ?_
    refine At.reg rfl ?_
    refine Run.fa Tb.F28_0 (h := ?_)
    refine Run.ld Tb.A22 (h := ?_)
    refine Run.fa Tb.F28_1 (h := ?_)
    refine Run.ld Tb.A22 (h := ?_)
    refine Run.fa Tb.F28_2 (h := ?_)
    refine Run.ld Tb.A22 (h := ?_)
    refine Run.fa Tb.F28_3 (h := ?_)
    refine Run.ld Tb.A26 (h := ?_)
    refine Run.len Tb.L26 (h := ?_)
    refine Run.cvf Tb.I3 Tb.I22 (hw := by exact wu64 (by omega) (by omega)) (h := ?_)
    refine Run.bs Tb.G84 (h := fun g27 => ?_)
    refine Run.len Tb.L84 (h := ?_)
    refine Run.mv (h := ?_)
    refine Run.fin ?_
    refine At.block ?_
    have hvs : ∀ k, 0 ≤ List.getD [6003378903737058097, id, par, size, (n : Int)] k 0 ∧ List.getD [6003378903737058097, id, par, size, (n : Int)] k 0 < 18446744073709551616 := fun k => by
      have : k = 0 ∨ k = 1 ∨ k = 2 ∨ k = 3 ∨ k = 4 ∨ 5 ≤ k := by omega
      rcases this with rfl | rfl | rfl | rfl | rfl | h
      · exact ⟨by show (0 : Int) ≤ 6003378903737058097; decide, by show (6003378903737058097 : Int) < 18446744073709551616; decide⟩
      · exact hid
      · exact hpar
      · exact hsz
      · exact ⟨by show (0 : Int) ≤ n; omega, by show (n : Int) < _; omega⟩
      · rw [List.getD_eq_getElem?_getD, List.getElem?_eq_none (by simpa using h)]; decide
    refine At.loop (α := Nat) (fun k => ⟨[(1, .pointer (some ⟨g1, 0, none⟩)), (4, .pointer (some ⟨gw, 0, none⟩)), (5, .pointer (some ⟨gh, 0, none⟩)), (27, .slice (some ⟨g27, 0, none⟩) 5 5), (28, .int .i64 5), (29, .int .i64 k)], row 22 1 (some ⟨g27, 0, none⟩) 5 (ints .u64 [6003378903737058097, id, par, size, (n : Int)]) :: Wr gh (hdr [6003378903737058097, id, par, size, (n : Int)] k) :: Wr gw [] :: cel g1 28 [.int .u64 id, .int .u64 par, .int .u64 size, .slice ao n cp] :: L, []⟩) (fun k => k ≤ 5) (fun k => 5 - k) (0) (Nat.zero_le _) (Ent.of (by repeat (first | exact SubE.nil | refine SubE.cons (by first | rfl | (show some _ = some _; simp; done)) ?_)) (by repeat (first | exact SubL.refl | refine SubL.cons (by repeat (first | exact Pick.here | apply Pick.there)) ?_ | refine SubL.skip ?_ | exact SubL.nil))) (fun k hx => ?_)
    refine At.seq ?_
    refine At.reg rfl ?_
    refine Run.lt (h := ?_)
    refine Run.fin ?_
    refine At.seq ?_
    refine At.cnd' (ht := fun hc30 => ?_) (hf := fun hc30 => ?_)
    · skip
      refine At.skip ?_
      refine At.seq ?_
      refine At.block ?_
      refine At.seq ?_
      refine At.reg rfl ?_
      refine Run.iaR (ht := Tb.L84) (hR := .one) (hj := rfl) (h1 := by simp; omega) (hn := by omega) (h := ?_)
      refine Run.ldr0 (ht := Tb.A22) (hR := .one) (hj := ints_at (l := [6003378903737058097, id, par, size, (n : Int)]) (k := .u64) (by simp; omega)) (h := ?_)
      refine Run.as (h := ?_)
      refine Run.fin ?_
      refine At.reg rfl ?_
      refine Run.mv (h := ?_)
      refine Run.mv (h := ?_)
      refine Run.call Tb.N39 (hc := wU64 (by repeat (first | exact Pick.here | apply Pick.there)) (hvs k) (by rw [hdr_len (by simp; omega)]; omega)) (h := ?_)
      rintro _ _ ⟨rfl, rfl⟩
      rw [hdr_succ (by simp; omega)]
      refine Run.fin ?_
      refine At.inb_norm ?_
      refine At.reg rfl ?_
      refine Run.add (h := ?_)
      refine Run.eqi (b := ((k + 1 : Nat) : Int)) (by rw [wi64 (by omega) (by omega)]; omega) ?_
      refine Run.mv (h := ?_)
      refine Run.fin ?_
      exact At.again (k + 1) (by omega) (by omega)
    · skip
      refine At.exit ?_
      refine At.then_exit ?_
      refine At.then_exit ?_
      refine At.inb_hit ?_
      refine At.seq ?_
      obtain rfl : k = 5 := by omega
      refine At.reg rfl ?_
      refine Run.mv (h := ?_)
      refine Run.mv (h := ?_)
      refine Run.call Tb.N41 (hc := wout (by repeat (first | exact Pick.here | apply Pick.there)) (by rw [hdr_len (by simp)]; omega)) (h := ?_)
      rintro _ _ ⟨q, rfl, rfl⟩
      refine Run.call Tb.N40 (hc := sealed (by repeat (first | exact Pick.here | apply Pick.there)) .one rfl hdr_byt (by rw [hdr_len (by simp)]; simp)) (h := ?_)
      rintro _ _ ⟨rfl, rfl⟩
      rw [show ([] ++ hdr [6003378903737058097, id, par, size, (n : Int)] 5 ++ bigs (crcv (hdr [6003378903737058097, id, par, size, (n : Int)] 5)) 4) = encTo ⟨id, par, size, pures rs⟩ 0 by simp [encTo, sealB, hdV, pures, hn]]
      refine Run.fin ?_
      refine At.seq ?_
      refine At.seq ?_
      refine At.reg rfl ?_
      refine Run.fa Tb.F28_3 (h := ?_)
      refine Run.ld Tb.A26 (h := ?_)
      refine Run.len Tb.L26 (h := ?_)
      refine Run.mv (h := ?_)
      refine Run.fin ?_
      refine At.block ?_
      refine At.loop (α := Nat) (fun k => ⟨[(1, .pointer (some ⟨g1, 0, none⟩)), (4, .pointer (some ⟨gw, 0, none⟩)), (42, .slice ao n cp), (43, .int .i64 n), (44, .int .i64 k)], Wr gw (encTo ⟨id, par, size, pures rs⟩ k) :: cel g1 28 [.int .u64 id, .int .u64 par, .int .u64 size, .slice ao n cp] :: L, []⟩) (fun k => k ≤ n) (fun k => n - k) (0) (Nat.zero_le _) (Ent.of (by repeat (first | exact SubE.nil | refine SubE.cons (by first | rfl | (show some _ = some _; simp; done)) ?_)) (by repeat (first | exact SubL.refl | refine SubL.cons (by repeat (first | exact Pick.here | apply Pick.there)) ?_ | refine SubL.skip ?_ | exact SubL.nil))) (fun k hx => ?_)
      refine At.seq ?_
      refine At.reg rfl ?_
      refine Run.lt (h := ?_)
      refine Run.fin ?_
      refine At.seq ?_
      refine At.cnd' (ht := fun hc45 => ?_) (hf := fun hc45 => ?_)
      · skip
        obtain ⟨r, hrk⟩ : ∃ r, rs[k]? = some r := ⟨rs[k]'(by omega), List.getElem?_eq_getElem _⟩
        obtain ⟨q1, q2, q3, q4, q5, q6⟩ := hok r (List.mem_of_getElem? hrk)
        have hrd := hdt r (List.mem_of_getElem? hrk)
        have hap : (pures rs)[k]? = some r.1 := pures_at hrk
        have hl0 := encTo_le (a := ⟨id, par, size, pures rs⟩) (k := k + 1) (by simp [pures]; omega)
        have hl1 := congrArg List.length (encTo_succ (a := ⟨id, par, size, pures rs⟩) hap)
        rw [List.length_append] at hl1
        refine At.skip ?_
        refine At.seq ?_
        refine At.block ?_
        refine At.seq ?_
        refine At.reg rfl ?_
        refine Run.iaR (ht := Tb.L26) (hR := hr.sub) (hj := rfl) (h1 := by simp; omega) (hn := by omega) (h := ?_)
        refine Run.ldrA (ht := Tb.A76) (hn := Tb.S76) (hR := hr.sub) (hj := cells_at hrk) (h := ?_)
        refine Run.al Tb.Z76 (h := fun g9 => ?_)
        refine Run.st Tb.S76 (h := ?_)
        refine Run.fin ?_
        refine At.seq ?_
        refine At.reg rfl ?_
        refine Run.call Tb.N38 (hc := newWriter) (h := ?_)
        rintro _ _ ⟨gr, rfl, rfl⟩
        refine Run.as (h := ?_)
        refine Run.fin ?_
        refine At.seq ?_
        refine At.reg rfl ?_
        refine Run.mv (h := ?_)
        refine Run.fa Tb.F76_0 (h := ?_)
        refine Run.ld Tb.A22 (h := ?_)
        refine Run.call Tb.N39 (hc := wU64 (by repeat (first | exact Pick.here | apply Pick.there)) ⟨q1, q2⟩ (by simp)) (h := ?_)
        rintro _ _ ⟨rfl, rfl⟩
        refine Run.fin ?_
        refine At.seq ?_
        refine At.reg rfl ?_
        refine Run.mv (h := ?_)
        refine Run.fa Tb.F76_1 (h := ?_)
        refine Run.ld Tb.A22 (h := ?_)
        refine Run.call Tb.N39 (hc := wU64 (by repeat (first | exact Pick.here | apply Pick.there)) ⟨q3, q4⟩ (by simp [bigs_len])) (h := ?_)
        rintro _ _ ⟨rfl, rfl⟩
        refine Run.fin ?_
        refine At.seq ?_
        refine At.reg rfl ?_
        refine Run.as (h := ?_)
        refine Run.fin ?_
        refine At.seq ?_
        refine At.cut (α := Unit) (fun _ => ⟨[(1, .pointer (some ⟨g1, 0, none⟩)), (4, .pointer (some ⟨gw, 0, none⟩)), (9, .pointer (some ⟨g9, 0, none⟩)), (10, .pointer (some ⟨gr, 0, none⟩)), (11, .int .u8 (if r.1.hole then 0 else 1)), (42, .slice ao n cp), (43, .int .i64 n), (44, .int .i64 k)], Wr gr ([] ++ bigs r.1.off 8 ++ bigs r.1.len 8) :: cel g9 76 [.int .u64 r.1.off, .int .u64 r.1.len, .bool r.1.hole, .slice r.2.1 r.1.data.length r.2.2] :: Wr gw (encTo ⟨id, par, size, pures rs⟩ k) :: cel g1 28 [.int .u64 id, .int .u64 par, .int .u64 size, .slice ao n cp] :: L, []⟩) (fun _ => True) ?_ (fun _ hx => ?_)
        · skip
          refine At.seq ?_
          refine At.reg rfl ?_
          refine Run.fa Tb.F76_2 (h := ?_)
          refine Run.ld Tb.A4 (h := ?_)
          refine Run.fin ?_
          refine At.cnd' (ht := fun hc4 => ?_) (hf := fun hc4 => ?_)
          · skip
            refine At.reg rfl ?_
            refine Run.as (h := ?_)
            refine Run.fin ?_
            refine At.say 11 (.int .u8 (if r.1.hole then 0 else 1)) (e := by simp_all) (h := ?_)
            exact At.join (()) (trivial)
          · skip
            refine At.skip ?_
            refine At.say 11 (.int .u8 (if r.1.hole then 0 else 1)) (e := by simp_all) (h := ?_)
            exact At.join (()) (trivial)
        · skip
          refine At.seq ?_
          refine At.reg rfl ?_
          refine Run.mv (h := ?_)
          refine Run.mv (h := ?_)
          refine Run.call Tb.N42 (hc := wU8 (by repeat (first | exact Pick.here | apply Pick.there)) (u8_hole r.1.hole) (by simp [bigs_len])) (h := ?_)
          rintro _ _ ⟨rfl, rfl⟩
          refine Run.fin ?_
          refine At.seq ?_
          refine At.reg rfl ?_
          refine Run.mv (h := ?_)
          refine Run.mv (h := ?_)
          refine Run.call Tb.N41 (hc := wout (bs := encH r.1) (by repeat (first | exact Pick.here | apply Pick.there)) (by rw [encH_len]; omega)) (h := ?_)
          rintro _ _ ⟨q, rfl, rfl⟩
          refine Run.call Tb.N40 (hc := sealed (xs := encH r.1) (by repeat (first | exact Pick.here | apply Pick.there)) .one rfl encH_byt (by rw [encH_len]; omega)) (h := ?_)
          rintro _ _ ⟨rfl, rfl⟩
          refine Run.fin ?_
          refine At.seq ?_
          refine At.reg rfl ?_
          refine Run.fa Tb.F76_2 (h := ?_)
          refine Run.ld Tb.A4 (h := ?_)
          refine Run.not (h := ?_)
          refine Run.fin ?_
          refine At.cnd' (ht := fun hc68 => ?_) (hf := fun hc68 => ?_)
          · skip
            refine At.reg rfl ?_
            refine Run.mv (h := ?_)
            refine Run.fa Tb.F76_3 (h := ?_)
            refine Run.ld Tb.A23 (h := ?_)
            refine Run.call Tb.N40 (hc := sealed (by repeat (first | exact Pick.here | apply Pick.there)) hrd.sub rfl q6 (by simp [encH_len, bigs_len]; simp [encR, hc68, sealB_len, encH_len] at hl1; omega)) (h := ?_)
            rintro _ _ ⟨rfl, rfl⟩
            rw [encTo_data hap hc68]
            refine Run.fin ?_
            refine At.inb_norm ?_
            refine At.reg rfl ?_
            refine Run.add (h := ?_)
            refine Run.eqi (b := ((k + 1 : Nat) : Int)) (by rw [wi64 (by omega) (by omega)]; omega) ?_
            refine Run.mv (h := ?_)
            refine Run.fin ?_
            exact At.again (k + 1) (by omega) (by omega)
          · skip
            rw [encTo_hole hap (by simpa using hc68)]
            refine At.skip ?_
            refine At.inb_norm ?_
            refine At.reg rfl ?_
            refine Run.add (h := ?_)
            refine Run.eqi (b := ((k + 1 : Nat) : Int)) (by rw [wi64 (by omega) (by omega)]; omega) ?_
            refine Run.mv (h := ?_)
            refine Run.fin ?_
            exact At.again (k + 1) (by omega) (by omega)
      · skip
        refine At.exit ?_
        refine At.then_exit ?_
        refine At.then_exit ?_
        refine At.inb_hit ?_
        refine At.seq ?_
        obtain rfl : n = k := by omega
        refine At.reg rfl ?_
        refine Run.mv (h := ?_)
        refine Run.call Tb.N41 (hc := wout (by repeat (first | exact Pick.here | apply Pick.there)) (by have := encTo_le (a := ⟨id, par, size, pures rs⟩) (k := n) (by simp [pures]; omega); omega)) (h := ?_)
        rintro _ _ ⟨q, rfl, rfl⟩
        rw [show encTo ⟨id, par, size, pures rs⟩ n = enc ⟨id, par, size, pures rs⟩ by simp [enc, pures, hn]]
        refine Run.as (h := ?_)
        refine Run.as (h := ?_)
        refine Run.fin ?_
        refine At.ret ?_
        exact At.done (hΦ := by exact .inl ⟨hbm.1 (by simpa using hc14), q, rfl, rfl⟩)
end Go.Proofs.Ytllpfpdanonhkaa
