/- The plain law of sealed bytes: numbers as bytes and back, a check sum tells one turned byte; an archive's bytes are read back as it, and one turned byte of them is told. No condition. -/
import Derived.Test.YtllpfpdanonhkaaDcd
set_option linter.unusedVariables false
set_option linter.unusedSimpArgs false
namespace Go.Proofs.Ytllpfpdanonhkaa
open Go.Sx Go.RowKit

/-! ### Numbers -/
theorem bval_append {l m : List Int} : bval (l ++ m) = bval l * 256 ^ m.length + bval m := by
  have key : ∀ (m : List Int) (v : Int), m.foldl (fun v b => v * 256 + b) v = v * 256 ^ m.length + m.foldl (fun v b => v * 256 + b) 0 := by
    intro m
    induction m with
    | nil => intro v; simp
    | cons b m ih =>
      intro v
      simp only [List.foldl_cons, List.length_cons]
      rw [ih (v * 256 + b), ih (0 * 256 + b), Int.pow_succ, Int.add_mul, Int.zero_mul, Int.zero_add]
      have : v * 256 * 256 ^ m.length = v * (256 ^ m.length * 256) := by rw [Int.mul_assoc, Int.mul_comm 256]
      omega
  unfold bval
  rw [List.foldl_append, key]
theorem bigs_succ {v : Int} {n : Nat} : bigs v (n + 1) = bigs (v / 256) n ++ [v % 256] := by
  unfold bigs
  rw [List.range_succ, List.map_append]
  congr 1
  · refine List.map_congr_left fun j hj => ?_
    have hj := List.mem_range.1 hj
    unfold big1
    rw [show n + 1 - 1 - j = (n - 1 - j) + 1 by omega, Int.pow_succ, Int.mul_comm, ← Int.ediv_ediv_of_nonneg (by omega)]
  · simp [big1]
theorem bval_bigs : ∀ {n : Nat} {v : Int}, 0 ≤ v → v < 256 ^ n → bval (bigs v n) = v
  | 0, v, h0, h1 => by simp [bigs, bval] at *; omega
  | n + 1, v, h0, h1 => by
    rw [bigs_succ, bval_snoc, bval_bigs (by omega) (by rw [Int.pow_succ] at h1; omega)]; omega
theorem bigs_bval : ∀ {n : Nat} {l : List Int}, l.length = n → Byt l → bigs (bval l) n = l
  | 0, l, h, _ => by rw [List.eq_nil_of_length_eq_zero h]; rfl
  | n + 1, l, h, hb => by
    rcases List.eq_nil_or_concat l with rfl | ⟨i, b, rfl⟩
    · simp at h
    · rw [List.concat_eq_append] at *
      have hb1 := hb b (by simp)
      rw [bval_snoc, bigs_succ, show (bval i * 256 + b) / 256 = bval i by omega, show (bval i * 256 + b) % 256 = b by omega]
      rw [bigs_bval (by simpa using h) fun x hx => hb x (List.mem_append_left _ hx)]
theorem bval_inj {l m : List Int} (h : l.length = m.length) (hl : Byt l) (hm : Byt m) (e : bval l = bval m) : l = m := by
  rw [← bigs_bval (n := l.length) rfl hl, ← bigs_bval (n := l.length) h.symm hm, e]

/-! ### The check sum -/
def R32 (s : Int) : Prop := 0 ≤ s ∧ s < 4294967296
theorem ofInt_inj {a b : Int} (ha : R32 a) (hb : R32 b) (h : BitVec.ofInt 32 a = BitVec.ofInt 32 b) : a = b := by
  have := congrArg BitVec.toNat h
  rw [BitVec.toNat_ofInt, BitVec.toNat_ofInt] at this
  obtain ⟨a1, a2⟩ := ha
  obtain ⟨b1, b2⟩ := hb
  omega
theorem bits_xor {a b : Int} : bits .xor .u32 a b = ((BitVec.ofInt 32 a ^^^ BitVec.ofInt 32 b).toNat : Int) := by
  show IntKind.u32.wrap (((BitVec.ofInt 32 a ^^^ BitVec.ofInt 32 b).toNat : Nat) : Int) = _
  have := (BitVec.ofInt 32 a ^^^ BitVec.ofInt 32 b).isLt
  rw [IntKind.wrap_u32]; omega
theorem xor_injL {a b c : Int} (ha : R32 a) (hb : R32 b) (h : bits .xor .u32 a c = bits .xor .u32 b c) : a = b := by
  rw [bits_xor, bits_xor] at h
  have h1 : BitVec.ofInt 32 a ^^^ BitVec.ofInt 32 c = BitVec.ofInt 32 b ^^^ BitVec.ofInt 32 c := BitVec.eq_of_toNat_eq (by exact_mod_cast h)
  exact ofInt_inj ha hb (by simpa using h1)
theorem xor_injR {a b c : Int} (ha : R32 a) (hb : R32 b) (h : bits .xor .u32 c a = bits .xor .u32 c b) : a = b := by
  rw [bits_xor, bits_xor] at h
  have h1 : BitVec.ofInt 32 c ^^^ BitVec.ofInt 32 a = BitVec.ofInt 32 c ^^^ BitVec.ofInt 32 b := BitVec.eq_of_toNat_eq (by exact_mod_cast h)
  exact ofInt_inj ha hb (by simpa using h1)
theorem xor_high {n : Int} (h0 : 0 ≤ n) (h1 : n < 2147483648) : 2147483648 ≤ bits .xor .u32 n 2197175160 := by
  obtain ⟨m, rfl⟩ := Int.eq_ofNat_of_zero_le h0
  rw [bits_xor, BitVec.toNat_xor]
  have e1 : (BitVec.ofInt 32 (m : Int)).toNat = m := by rw [BitVec.toNat_ofInt]; omega
  have e2 : (BitVec.ofInt 32 2197175160).toNat = 2197175160 := by decide
  rw [e1, e2]
  have hb : (m ^^^ 2197175160).testBit 31 = true := by
    rw [Nat.testBit_xor, Nat.testBit_lt_two_pow (by omega)]; decide
  have := Nat.ge_two_pow_of_testBit hb
  omega
theorem crc1_inj {a b : Int} (ha : R32 a) (hb : R32 b) (h : crc1 a = crc1 b) : a = b := by
  obtain ⟨a1, a2⟩ := ha
  obtain ⟨b1, b2⟩ := hb
  unfold crc1 at h
  split at h <;> split at h
  · have := xor_injL (a := a / 2) (b := b / 2) ⟨by omega, by omega⟩ ⟨by omega, by omega⟩ h; omega
  · have := xor_high (n := a / 2) (by omega) (by omega); omega
  · have := xor_high (n := b / 2) (by omega) (by omega); omega
  · omega
theorem crc8_inj {a b : Int} (ha : R32 a) (hb : R32 b) : ∀ n, crc8 a n = crc8 b n → a = b
  | 0, h => h
  | n + 1, h => crc8_inj ha hb n (crc1_inj (crc8_range ha n) (crc8_range hb n) h)
def crcS (s b : Int) : Int := crc8 (bits .xor .u32 s b) 8
theorem crcS_range {s b : Int} : R32 (crcS s b) := crc8_range (bits_range .xor s b) 8
theorem crcS_injL {s t b : Int} (hs : R32 s) (ht : R32 t) (h : crcS s b = crcS t b) : s = t := xor_injL hs ht (crc8_inj (bits_range .xor _ _) (bits_range .xor _ _) 8 h)
theorem crcS_injR {s a b : Int} (ha : R32 a) (hb : R32 b) (h : crcS s a = crcS s b) : a = b := xor_injR ha hb (crc8_inj (bits_range .xor _ _) (bits_range .xor _ _) 8 h)
theorem crcFold_inj : ∀ {l : List Int} {s t : Int}, R32 s → R32 t → l.foldl crcS s = l.foldl crcS t → s = t
  | [], _, _, _, _, h => h
  | _ :: l, _, _, hs, ht, h => crcS_injL hs ht (crcFold_inj crcS_range crcS_range h)
theorem crcFold_range : ∀ {l : List Int} {s : Int}, R32 s → R32 (l.foldl crcS s)
  | [], _, h => h
  | _ :: l, _, _ => crcFold_range (l := l) crcS_range
/-- One turned byte turns the sum. -/
theorem crcv_flip {l m : List Int} {a b : Int} (ha : 0 ≤ a ∧ a < 256) (hb : 0 ≤ b ∧ b < 256) (h : crcv (l ++ a :: m) = crcv (l ++ b :: m)) : a = b := by
  have h1 := xor_injR (c := 4294967295) (crcF_range _) (crcF_range _) h
  have h2 : (l ++ a :: m).foldl crcS 4294967295 = (l ++ b :: m).foldl crcS 4294967295 := h1
  rw [List.foldl_append, List.foldl_append, List.foldl_cons, List.foldl_cons] at h2
  exact crcS_injR ⟨ha.1, by omega⟩ ⟨hb.1, by omega⟩ (crcFold_inj crcS_range crcS_range h2)

/-! ### Parts -/
theorem part_eq {bs : List Int} {p n : Nat} : part bs p n = (bs.drop p).take n := by
  unfold part; rw [List.drop_take, show p + n - p = n by omega]
theorem part_mid {l x m : List Int} {p n : Nat} (hp : l.length = p) (hn : x.length = n) : part (l ++ (x ++ m)) p n = x := by
  subst hp hn; rw [part_eq, List.drop_left, List.take_left]
theorem part_app {bs : List Int} {p n m : Nat} : part bs p (n + m) = part bs p n ++ part bs (p + n) m := by
  rw [part_eq, part_eq, part_eq, List.take_add, List.drop_drop]
theorem part_sub {bs : List Int} {p n i k : Nat} (h : i + k ≤ n) : part (part bs p n) i k = part bs (p + i) k := by
  rw [part_eq, part_eq, part_eq, List.drop_take, List.drop_drop, List.take_take, Nat.min_eq_left (by omega)]
theorem part_all {bs : List Int} {n : Nat} (h : bs.length = n) : part bs 0 n = bs := by rw [part_eq, List.drop_zero, List.take_of_length_le (by omega)]
theorem part_big {v : Int} {n : Nat} {bs : List Int} {p : Nat} (h : part bs p n = bigs v n) (h0 : 0 ≤ v) (h1 : v < 256 ^ n) : bval (part bs p n) = v := by rw [h, bval_bigs h0 h1]

/-! ### Sealed parts -/
theorem p256_4 : (256 : Int) ^ 4 = 4294967296 := by decide
theorem p256_8 : (256 : Int) ^ 8 = 18446744073709551616 := by decide
theorem p256_1 : (256 : Int) ^ 1 = 256 := by decide
/-- What lies sealed is read. -/
theorem sealed_ok {l x m : List Int} : bytesE (l ++ (sealB x ++ m)) l.length x.length = none ∧ part (l ++ (sealB x ++ m)) l.length x.length = x := by
  have e1 : part (l ++ (sealB x ++ m)) l.length x.length = x := by
    unfold sealB; rw [List.append_assoc]; exact part_mid rfl rfl
  have e2 : part (l ++ (sealB x ++ m)) (l.length + x.length) 4 = bigs (crcv x) 4 := by
    have := part_mid (l := l ++ x) (x := bigs (crcv x) 4) (m := m) (p := l.length + x.length) (n := 4) (by simp) bigs_len
    unfold sealB; simpa using this
  refine ⟨?_, e1⟩
  have hc := crcv_range x
  unfold bytesE
  rw [if_neg (by unfold short; simp [sealB_len]; omega), Int.toNat_natCast, e1, e2, bval_bigs hc.1 (by rw [p256_4]; exact hc.2), if_pos rfl]
theorem byt_split {l m : List Int} {a : Int} (h : Byt (l ++ a :: m)) : Byt l ∧ (0 ≤ a ∧ a < 256) ∧ Byt m := ⟨fun x hx => h x (by simp [hx]), h a (by simp), fun x hx => h x (by simp [hx])⟩
/-- One turned byte of what lies sealed is told. -/
theorem sealed_bad {l x y m : List Int} {u v : List Int} {a b : Int} (hx : Byt x) (h1 : sealB x = u ++ a :: v) (h2 : y = u ++ b :: v) (hb : 0 ≤ b ∧ b < 256) (hab : a ≠ b) : ∃ e, bytesE (l ++ (y ++ m)) l.length x.length = some e := by
  have hs : ¬ short (l ++ (y ++ m)) l.length x.length := by
    have := congrArg List.length h1
    unfold short; subst h2; simp [sealB_len] at *; omega
  have hc := crcv_range x
  have hcB : (256 : Int) ^ 4 = 4294967296 := p256_4
  have hlen : (u ++ a :: v).length = x.length + 4 := by rw [← h1, sealB_len]
  have hA : Byt (u ++ a :: v) := by rw [← h1]; exact sealB_byt hx
  obtain ⟨b1, b2, b3⟩ := byt_split hA
  have hyl : y.length = x.length + 4 := by subst h2; simpa using hlen
  have e1 : part (l ++ (y ++ m)) l.length x.length = y.take x.length := by
    have := part_mid (l := l) (x := y.take x.length) (m := y.drop x.length ++ m) (p := l.length) (n := x.length) rfl (by simp; omega)
    rwa [← List.append_assoc (y.take x.length), List.take_append_drop] at this
  have e2 : part (l ++ (y ++ m)) (l.length + x.length) 4 = y.drop x.length := by
    have := part_mid (l := l ++ y.take x.length) (x := y.drop x.length) (m := m) (p := l.length + x.length) (n := 4) (by simp; omega) (by simp; omega)
    rwa [List.append_assoc, ← List.append_assoc (y.take x.length), List.take_append_drop] at this
  have h3 : x = (u ++ a :: v).take x.length := by rw [← h1]; unfold sealB; rw [List.take_left]
  have h4 : bigs (crcv x) 4 = (u ++ a :: v).drop x.length := by rw [← h1]; unfold sealB; rw [List.drop_left]
  unfold bytesE
  rw [if_neg hs, Int.toNat_natCast, e1, e2]
  refine ⟨253, if_neg fun h => hab ?_⟩
  by_cases hu : u.length < x.length
  · -- among the bytes
    obtain ⟨n, hn⟩ : ∃ n, x.length = u.length + (n + 1) := ⟨x.length - u.length - 1, by omega⟩
    have t1 : ∀ c : Int, (u ++ c :: v).take x.length = u ++ c :: v.take n := fun c => by
      rw [hn, List.take_append, List.take_of_length_le (by omega), show u.length + (n + 1) - u.length = n + 1 by omega, List.take_succ_cons]
    have t2 : ∀ c : Int, (u ++ c :: v).drop x.length = v.drop n := fun c => by
      rw [hn, List.drop_append, List.drop_of_length_le (by omega), show u.length + (n + 1) - u.length = n + 1 by omega, List.drop_succ_cons, List.nil_append]
    rw [h2, t1, t2, ← t2 a, ← h4, bval_bigs hc.1 (by rw [hcB]; exact hc.2)] at h
    rw [t1] at h3
    rw [h3] at h
    exact crcv_flip b2 hb h
  · obtain ⟨n, hn⟩ : ∃ n, u.length = x.length + n := ⟨u.length - x.length, by omega⟩
    have t1 : ∀ c : Int, (u ++ c :: v).take x.length = u.take x.length := fun c => by rw [List.take_append, show x.length - u.length = 0 by omega, List.take_zero, List.append_nil]
    have t2 : ∀ c : Int, (u ++ c :: v).drop x.length = u.drop x.length ++ c :: v := fun c => by rw [List.drop_append, show x.length - u.length = 0 by omega, List.drop_zero]
    rw [h2, t1, t2, ← t1 a, ← h3, ← bval_bigs (n := 4) hc.1 (by rw [hcB]; exact hc.2), h4, t2] at h
    have h5 := bval_inj (by simp) (b1.drop.app (fun z hz => by rcases List.mem_cons.1 hz with rfl | hz; exact hb; exact b3 z hz)) (b1.drop.app (fun z hz => by rcases List.mem_cons.1 hz with rfl | hz; exact b2; exact b3 z hz)) h
    have h6 := List.append_cancel_left h5
    cases h6; rfl

/-! ### A run, and an archive -/
def RnF (r : Rn) : Prop := RnOk r ∧ (r.hole = true → r.data = []) ∧ (¬ r.hole = true → (r.data.length : Int) = r.len)
theorem encH_parts {r : Rn} (h : RnOk r) : bval (part (encH r) 0 8) = r.off ∧ bval (part (encH r) 8 8) = r.len ∧ bval (part (encH r) 16 1) = if r.hole then 0 else 1 := by
  obtain ⟨h1, h2, h3, h4, _⟩ := h
  have e1 : part (encH r) 0 8 = bigs r.off 8 := by
    have := part_mid (l := []) (x := bigs r.off 8) (m := bigs r.len 8 ++ bigs (if r.hole then 0 else 1) 1) (p := 0) (n := 8) rfl bigs_len
    simpa [encH] using this
  have e2 : part (encH r) 8 8 = bigs r.len 8 := by
    have := part_mid (l := bigs r.off 8) (x := bigs r.len 8) (m := bigs (if r.hole then 0 else 1) 1) (p := 8) (n := 8) bigs_len bigs_len
    simpa [encH] using this
  have e3 : part (encH r) 16 1 = bigs (if r.hole then 0 else 1) 1 := by
    have := part_mid (l := bigs r.off 8 ++ bigs r.len 8) (x := bigs (if r.hole then 0 else 1) 1) (m := []) (p := 16) (n := 1) (by simp [bigs_len]) bigs_len
    simpa [encH] using this
  refine ⟨part_big e1 h1 (by rw [p256_8]; exact h2), part_big e2 h3 (by rw [p256_8]; exact h4), part_big e3 ?_ ?_⟩ <;> cases r.hole <;> decide
theorem decRun_ok {l m : List Int} {r : Rn} (h : RnF r) : decRun (l ++ (encR r ++ m)) l.length = .inr (r, l.length + (encR r).length) := by
  obtain ⟨h1, h2, h3⟩ := h
  obtain ⟨p1, p2, p3⟩ := encH_parts h1
  obtain ⟨q1, q2, q3, q4, q5, q6⟩ := h1
  have e0 : l ++ (encR r ++ m) = l ++ (sealB (encH r) ++ ((if r.hole then [] else sealB r.data) ++ m)) := by simp [encR]
  have hs := sealed_ok (l := l) (x := encH r) (m := (if r.hole then [] else sealB r.data) ++ m)
  rw [encH_len] at hs
  rw [← e0] at hs
  have hs1 : bytesE (l ++ (encR r ++ m)) l.length 17 = none := hs.1
  unfold decRun
  rw [hs1, hs.2, p1, p2, p3]
  dsimp only
  obtain ⟨o, n, hh, d⟩ := r
  cases hh
  · have h3 := h3 (by simp)
    simp only at h3
    subst h3
    rw [if_neg (by simp), if_neg (by simp)]
    have e1 : l ++ (encR ⟨o, d.length, false, d⟩ ++ m) = (l ++ sealB (encH ⟨o, d.length, false, d⟩)) ++ (sealB d ++ m) := by simp [encR]
    have hs2 := sealed_ok (l := l ++ sealB (encH ⟨o, d.length, false, d⟩)) (x := d) (m := m)
    rw [← e1, List.length_append, sealB_len, encH_len] at hs2
    rw [hs2.1]
    dsimp only
    rw [Int.toNat_natCast, hs2.2]
    congr 2
    simp [encR, sealB_len, encH_len]; omega
  · have h2 := h2 rfl
    simp only at h2
    subst h2
    rw [if_neg (by simp), if_pos (by simp)]
    simp [encR, sealB_len, encH_len]
theorem cut_app {α : Type} {x y u v : List α} {a : α} (h : x ++ y = u ++ a :: v) : (∃ w, x = u ++ a :: w ∧ v = w ++ y) ∨ ∃ w, y = w ++ a :: v ∧ u = x ++ w := by
  rcases List.append_eq_append_iff.1 h with ⟨w, h1, h2⟩ | ⟨w, h1, h2⟩
  · cases w with
    | nil => exact .inr ⟨[], by simpa using h2, by simpa using h1⟩
    | cons c w => exact .inr ⟨c :: w, by simpa using h2, by simpa using h1⟩
  · cases w with
    | nil => exact .inr ⟨[], by simpa using h2.symm, by simpa using h1.symm⟩
    | cons c w =>
      simp only [List.cons_append, List.cons.injEq] at h2
      obtain ⟨rfl, h2⟩ := h2
      exact .inl ⟨w, h1, h2⟩
theorem decRun_bad {l m y u v : List Int} {r : Rn} {a b : Int} (h : RnF r) (h1 : encR r = u ++ a :: v) (h2 : y = u ++ b :: v) (hb : 0 ≤ b ∧ b < 256) (hab : a ≠ b) : ∃ e, decRun (l ++ (y ++ m)) l.length = .inl e := by
  have hE : encR r = sealB (encH r) ++ (if r.hole then [] else sealB r.data) := rfl
  rw [hE] at h1
  rcases cut_app h1 with ⟨w, k1, k2⟩ | ⟨w, k1, k2⟩
  · obtain ⟨e, he⟩ := sealed_bad (l := l) (y := u ++ b :: w) (m := (if r.hole then [] else sealB r.data) ++ m) encH_byt k1 rfl hb hab
    rw [encH_len] at he
    have e0 : l ++ (y ++ m) = l ++ (u ++ b :: w ++ ((if r.hole then [] else sealB r.data) ++ m)) := by rw [h2, k2]; simp
    rw [← e0] at he
    have he1 : bytesE (l ++ (y ++ m)) l.length 17 = some e := he
    exact ⟨e, by rw [decRun, he1]⟩
  · obtain ⟨q1, q2, q3⟩ := h
    cases hh : r.hole
    · rw [hh] at k1
      have k3 : sealB r.data = w ++ a :: v := k1
      have hl := q3 (by simp [hh])
      obtain ⟨e, he⟩ := sealed_bad (l := l ++ sealB (encH r)) (y := w ++ b :: v) (m := m) q1.2.2.2.2.2 k3 rfl hb hab
      have e0 : l ++ (y ++ m) = l ++ sealB (encH r) ++ (w ++ b :: v ++ m) := by rw [h2, k2]; simp
      rw [← e0, List.length_append, sealB_len, encH_len] at he
      have hs := sealed_ok (l := l) (x := encH r) (m := w ++ b :: v ++ m)
      rw [encH_len] at hs
      have e1 : l ++ (y ++ m) = l ++ (sealB (encH r) ++ (w ++ b :: v ++ m)) := by rw [e0]; simp
      rw [← e1] at hs
      have hs1 : bytesE (l ++ (y ++ m)) l.length 17 = none := hs.1
      obtain ⟨p1, p2, p3⟩ := encH_parts q1
      refine ⟨e, ?_⟩
      unfold decRun
      rw [hs1, hs.2, p2, p3, hh, ← hl]
      dsimp only
      rw [if_neg (by decide), if_neg (by decide), he]
    · rw [hh] at k1
      simp at k1
def encs (l : List Rn) : List Int := (l.map encR).flatten
theorem encs_cons {r : Rn} {l : List Rn} : encs (r :: l) = encR r ++ encs l := rfl
theorem decRuns_ok : ∀ {rs : List Rn} {l m : List Int}, (∀ r ∈ rs, RnF r) → decRuns (l ++ (encs rs ++ m)) rs.length l.length = .inr (rs, l.length + (encs rs).length)
  | [], l, m, _ => rfl
  | r :: rs, l, m, h => by
    have e0 : l ++ (encs (r :: rs) ++ m) = l ++ (encR r ++ (encs rs ++ m)) := by rw [encs_cons]; simp
    have h1 := decRun_ok (l := l) (m := encs rs ++ m) (h r List.mem_cons_self)
    have e1 : l ++ (encs (r :: rs) ++ m) = (l ++ encR r) ++ (encs rs ++ m) := by rw [encs_cons]; simp
    have h2 := decRuns_ok (l := l ++ encR r) (m := m) fun x hx => h x (List.mem_cons_of_mem _ hx)
    rw [List.length_append, ← e1] at h2
    rw [← e0] at h1
    simp only [List.length_cons, decRuns, h1, h2]
    congr 2
    rw [encs_cons, List.length_append]; omega
theorem decRuns_bad : ∀ {rs : List Rn} {l m y u v : List Int} {a b : Int}, (∀ r ∈ rs, RnF r) → encs rs = u ++ a :: v → y = u ++ b :: v → (0 ≤ b ∧ b < 256) → a ≠ b → ∃ e, decRuns (l ++ (y ++ m)) rs.length l.length = .inl e
  | [], _, _, _, u, _, _, _, _, h1, _, _, _ => by simp [encs] at h1
  | r :: rs, l, m, y, u, v, a, b, h, h1, h2, hb, hab => by
    rw [encs_cons] at h1
    rcases cut_app h1 with ⟨w, k1, k2⟩ | ⟨w, k1, k2⟩
    · obtain ⟨e, he⟩ := decRun_bad (l := l) (m := encs rs ++ m) (h r List.mem_cons_self) k1 rfl hb hab
      have e0 : l ++ (y ++ m) = l ++ (u ++ b :: w ++ (encs rs ++ m)) := by rw [h2, k2]; simp
      rw [← e0] at he
      exact ⟨e, by simp only [List.length_cons, decRuns, he]⟩
    · obtain ⟨e, he⟩ := decRuns_bad (l := l ++ encR r) (m := m) (fun x hx => h x (List.mem_cons_of_mem _ hx)) k1 rfl hb hab
      have e0 : l ++ (y ++ m) = l ++ encR r ++ (w ++ b :: v ++ m) := by rw [h2, k2]; simp
      have e1 : l ++ (y ++ m) = l ++ (encR r ++ (w ++ b :: v ++ m)) := by rw [e0]; simp
      have h3 := decRun_ok (l := l) (m := w ++ b :: v ++ m) (h r List.mem_cons_self)
      rw [← e1] at h3
      rw [← e0, List.length_append] at he
      exact ⟨e, by simp only [List.length_cons, decRuns, h3, he]⟩

/-! ### The head -/
def hdB (a : Ar) : List Int := hdr (hdV a) 5
theorem hdB_eq {a : Ar} : hdB a = bigs 6003378903737058097 8 ++ (bigs a.id 8 ++ (bigs a.par 8 ++ (bigs a.size 8 ++ bigs a.runs.length 8))) := by simp [hdB, hdr, hdV]
theorem hdB_len {a : Ar} : (hdB a).length = 40 := by simp [hdB_eq, bigs_len]
theorem enc_eq {a : Ar} : enc a = sealB (hdB a) ++ encs a.runs := by simp [enc, encTo, hdB, encs]
structure ArF (a : Ar) : Prop where
  id : 0 ≤ a.id ∧ a.id < 18446744073709551616
  par : 0 ≤ a.par ∧ a.par < 18446744073709551616
  size : 0 ≤ a.size ∧ a.size < 18446744073709551616
  num : a.runs.length < 18446744073709551616
  runs : ∀ r ∈ a.runs, RnF r
theorem hdB_parts {a : Ar} (h : ArF a) : bval (part (hdB a) 0 8) = 6003378903737058097 ∧ bval (part (hdB a) 8 8) = a.id ∧ bval (part (hdB a) 16 8) = a.par ∧ bval (part (hdB a) 24 8) = a.size ∧ bval (part (hdB a) 32 8) = a.runs.length := by
  have mid : ∀ (l : List Int) (v : Int) (m : List Int) (p : Nat), hdB a = l ++ (bigs v 8 ++ m) → l.length = p → 0 ≤ v → v < 18446744073709551616 → bval (part (hdB a) p 8) = v := fun l v m p e hp h0 h1 => by
    rw [e]; exact part_big (part_mid hp bigs_len) h0 (by rw [p256_8]; exact h1)
  obtain ⟨h1, h2, h3, h4, _⟩ := h
  refine ⟨mid [] _ _ 0 hdB_eq rfl (by decide) (by decide), ?_, ?_, ?_, ?_⟩
  · exact mid (bigs 6003378903737058097 8) _ (bigs a.par 8 ++ (bigs a.size 8 ++ bigs a.runs.length 8)) 8 (by rw [hdB_eq]) bigs_len h1.1 h1.2
  · exact mid (bigs 6003378903737058097 8 ++ bigs a.id 8) _ (bigs a.size 8 ++ bigs a.runs.length 8) 16 (by rw [hdB_eq]; simp) (by simp [bigs_len]) h2.1 h2.2
  · exact mid (bigs 6003378903737058097 8 ++ bigs a.id 8 ++ bigs a.par 8) _ (bigs a.runs.length 8) 24 (by rw [hdB_eq]; simp) (by simp [bigs_len]) h3.1 h3.2
  · exact mid (bigs 6003378903737058097 8 ++ bigs a.id 8 ++ bigs a.par 8 ++ bigs a.size 8) _ [] 32 (by rw [hdB_eq]; simp) (by simp [bigs_len]) (by omega) (by omega)
theorem hdB_byt {a : Ar} : Byt (hdB a) := hdr_byt
theorem dec_of {a : Ar} {x : List Int} (h : ArF a) : part (sealB (hdB a) ++ x) 0 40 = hdB a ∧ bytesE (sealB (hdB a) ++ x) 0 40 = none ∧ bval (part (sealB (hdB a) ++ x) 0 8) = 6003378903737058097 := by
  have hs := sealed_ok (l := []) (x := hdB a) (m := x)
  rw [hdB_len] at hs
  simp only [List.nil_append, List.length_nil] at hs
  refine ⟨hs.2, hs.1, ?_⟩
  have h8 := part_sub (bs := sealB (hdB a) ++ x) (p := 0) (n := 40) (i := 0) (k := 8) (by omega)
  rw [hs.2] at h8
  rw [← h8, (hdB_parts h).1]
theorem dec_enc {a : Ar} (h : ArF a) (hm : May a) : dec (enc a) = .inr a := by
  obtain ⟨k1, k2, k3⟩ := dec_of (x := encs a.runs) h
  obtain ⟨_, p1, p2, p3, p4⟩ := hdB_parts h
  rw [enc_eq]
  have hn : ¬ short (sealB (hdB a) ++ encs a.runs) 0 40 := by unfold short; simp [sealB_len, hdB_len]; omega
  have hr := decRuns_ok (l := sealB (hdB a)) (m := []) h.runs
  rw [List.append_nil, sealB_len, hdB_len] at hr
  have e : (hdP (sealB (hdB a) ++ encs a.runs) 32).toNat = a.runs.length := by unfold hdP; rw [k1, p4]; simp
  unfold dec
  rw [if_neg hn, if_neg (by rw [k3]; simp), k2]
  dsimp only
  rw [e, hr]
  dsimp only
  rw [if_neg (by simp [sealB_len, hdB_len])]
  unfold hdP
  rw [k1, p1, p2, p3]
  rw [if_pos hm]
theorem dec_flip {a : Ar} {k : Nat} {b : Int} (h : ArF a) (hk : k < (enc a).length) (hb : 0 ≤ b ∧ b < 256) (hne : (enc a).getD k 0 ≠ b) : ∃ e, dec ((enc a).set k b) = .inl e := by
  obtain ⟨u, c, v, h1, h2, h3⟩ : ∃ u c v, enc a = u ++ c :: v ∧ (enc a).set k b = u ++ b :: v ∧ c = (enc a).getD k 0 := by
    refine ⟨(enc a).take k, (enc a)[k], (enc a).drop (k + 1), ?_, ?_, by simp [List.getD, hk]⟩
    · rw [← List.drop_eq_getElem_cons hk, List.take_append_drop]
    · rw [List.set_eq_take_append_cons_drop, if_pos hk]
  rw [h2]
  rw [← h3] at hne
  rw [enc_eq] at h1
  rcases cut_app h1 with ⟨w, k1, k2⟩ | ⟨w, k1, k2⟩
  · obtain ⟨e, he⟩ := sealed_bad (l := []) (y := u ++ b :: w) (m := encs a.runs) hdB_byt k1 rfl hb hne
    have e0 : u ++ b :: v = u ++ b :: w ++ encs a.runs := by rw [k2]; simp
    rw [hdB_len] at he
    simp only [List.nil_append, List.length_nil] at he
    rw [← e0] at he
    have he1 : bytesE (u ++ b :: v) 0 40 = some e := he
    unfold dec
    split
    · exact ⟨_, rfl⟩
    · split
      · exact ⟨_, rfl⟩
      · rw [he1]; exact ⟨_, rfl⟩
  · have e0 : u ++ b :: v = sealB (hdB a) ++ (w ++ b :: v) := by rw [k2]; simp
    obtain ⟨e, he⟩ := decRuns_bad (l := sealB (hdB a)) (m := []) h.runs k1 rfl hb hne
    rw [List.append_nil, sealB_len, hdB_len] at he
    obtain ⟨q1, q2, q3⟩ := dec_of (x := w ++ b :: v) h
    obtain ⟨_, _, _, _, p4⟩ := hdB_parts h
    rw [e0]
    have e1 : (hdP (sealB (hdB a) ++ (w ++ b :: v)) 32).toNat = a.runs.length := by unfold hdP; rw [q1, p4]; simp
    unfold dec
    split
    · exact ⟨_, rfl⟩
    · rw [if_neg (by rw [q3]; simp), q2]
      dsimp only
      rw [e1, he]
      exact ⟨_, rfl⟩

/-! ### What is read is what would be written -/
theorem bytesE_seal {bs : List Int} {p : Nat} {n : Int} (hy : Byt bs) (hp : p ≤ bs.length) (h0 : 0 ≤ n) (h : bytesE bs p n = none) : part bs p (n.toNat + 4) = sealB (part bs p n.toNat) ∧ p + n.toNat + 4 ≤ bs.length := by
  have hs := bytesE_none h
  unfold bytesE at h
  rw [if_neg hs] at h
  split at h
  · rename_i hc
    unfold short at hs
    have hl : p + n.toNat + 4 ≤ bs.length := by omega
    refine ⟨?_, hl⟩
    rw [part_app, sealB, ← hc, bigs_bval (part_length hl) (part_byt hy)]
  · cases h
theorem decRun_enc {bs : List Int} {p q : Nat} {r : Rn} (hy : Byt bs) (hp : p ≤ bs.length) (h : decRun bs p = .inr (r, q)) : p ≤ q ∧ q ≤ bs.length ∧ part bs p (q - p) = encR r := by
  unfold decRun at h
  cases h1 : bytesE bs p 17 with
  | some e => rw [h1] at h; cases h
  | none =>
    rw [h1] at h
    dsimp only at h
    obtain ⟨s1, s2⟩ := bytesE_seal hy hp (by omega) h1
    rw [show (17 : Int).toNat = 17 from rfl] at s1 s2
    have hl17 : (part bs p 17).length = 17 := part_length (by omega)
    have hy17 : Byt (part bs p 17) := part_byt hy
    have hH : ∀ k : Bool, bval (part (part bs p 17) 16 1) = (if k then 0 else 1) → ∀ d, part bs p 17 = encH ⟨bval (part (part bs p 17) 0 8), bval (part (part bs p 17) 8 8), k, d⟩ := fun k hk d => by
      unfold encH
      dsimp only
      rw [← hk, bigs_bval (part_length (by omega)) (part_byt hy17), bigs_bval (part_length (by omega)) (part_byt hy17), bigs_bval (part_length (by omega)) (part_byt hy17)]
      have e1 : part (part bs p 17) 0 17 = part bs p 17 := part_all hl17
      rw [show 17 = 8 + 8 + 1 from rfl, part_app, part_app] at e1
      exact e1.symm
    have hr1 := bval_u64 (part_byt (p := 8) (n := 8) hy17) (by rw [part_length (by omega)]; omega)
    split at h
    · cases h
    · rename_i hc1
      split at h
      · rename_i hc2
        cases h
        refine ⟨by omega, by omega, ?_⟩
        rw [show p + 21 - p = 17 + 4 by omega, s1, encR]
        dsimp only
        rw [if_pos rfl, List.append_nil]
        exact congrArg sealB (hH true (by simpa using hc2) [])
      · rename_i hc2
        cases h2 : bytesE bs (p + 21) (bval (part (part bs p 17) 8 8)) with
        | some e => rw [h2] at h; cases h
        | none =>
          rw [h2] at h
          dsimp only at h
          cases h
          obtain ⟨s3, s4⟩ := bytesE_seal hy (by omega) hr1.1 h2
          refine ⟨by omega, by omega, ?_⟩
          have hb16 := bval_u8 (part_byt (p := 16) (n := 1) hy17) (by rw [part_length (by omega)]; omega)
          rw [show p + 21 + (bval (part (part bs p 17) 8 8)).toNat + 4 - p = (17 + 4) + ((bval (part (part bs p 17) 8 8)).toNat + 4) by omega, part_app, s1, encR]
          dsimp only
          rw [if_neg (by simp)]
          congr 1
          exact congrArg sealB (hH false (by simp; omega) _)
theorem decRuns_enc {bs : List Int} (hy : Byt bs) : ∀ {n p q : Nat} {l : List Rn}, p ≤ bs.length → decRuns bs n p = .inr (l, q) → p ≤ q ∧ q ≤ bs.length ∧ l.length = n ∧ part bs p (q - p) = encs l
  | 0, p, q, l, hp, h => by
    cases h
    refine ⟨Nat.le_refl _, hp, rfl, ?_⟩
    rw [Nat.sub_self, part_eq]; rfl
  | n + 1, p, q, l, hp, h => by
    unfold decRuns at h
    cases h1 : decRun bs p with
    | inl e => rw [h1] at h; cases h
    | inr x =>
      obtain ⟨r, p'⟩ := x
      rw [h1] at h
      dsimp only at h
      cases h2 : decRuns bs n p' with
      | inl e => rw [h2] at h; cases h
      | inr x =>
        obtain ⟨l', q'⟩ := x
        rw [h2] at h
        cases h
        obtain ⟨a1, a2, a3⟩ := decRun_enc hy hp h1
        obtain ⟨b1, b2, b3, b4⟩ := decRuns_enc hy a2 h2
        refine ⟨by omega, b2, by simp [b3], ?_⟩
        rw [encs_cons, ← a3, ← b4, show q - p = (p' - p) + (q - p') by omega, part_app, show p + (p' - p) = p' by omega]
theorem enc_dec {bs : List Int} {a : Ar} (hy : Byt bs) (h : dec bs = .inr a) : enc a = bs ∧ May a := by
  unfold dec at h
  split at h
  · cases h
  · rename_i hs
    split at h
    · cases h
    · rename_i hm
      cases h1 : bytesE bs 0 40 with
      | some e => rw [h1] at h; cases h
      | none =>
        rw [h1] at h
        dsimp only at h
        cases h2 : decRuns bs (hdP bs 32).toNat 44 with
        | inl e => rw [h2] at h; cases h
        | inr x =>
          obtain ⟨l, q⟩ := x
          rw [h2] at h
          dsimp only at h
          split at h
          · cases h
          · rename_i hq
            split at h
            · rename_i hmay
              cases h
              refine ⟨?_, hmay⟩
              obtain ⟨s1, s2⟩ := bytesE_seal hy (Nat.zero_le _) (by omega) h1
              rw [show (40 : Int).toNat = 40 from rfl] at s1 s2
              obtain ⟨b1, b2, b3, b4⟩ := decRuns_enc hy (by omega) h2
              have hq2 : q = bs.length := by omega
              subst hq2
              have hl40 : (part bs 0 40).length = 40 := part_length (by omega)
              have hy40 : Byt (part bs 0 40) := part_byt hy
              have hm2 : bval (part bs 0 8) = 6003378903737058097 := Decidable.not_not.1 hm
              have hN := bval_u64 (part_byt (p := 32) (n := 8) hy40) (by rw [part_length (by omega)]; omega)
              have hh : part bs 0 40 = hdB ⟨hdP bs 8, hdP bs 16, hdP bs 24, l⟩ := by
                rw [hdB_eq]
                dsimp only
                rw [b3, Int.toNat_of_nonneg (show 0 ≤ hdP bs 32 from hN.1), ← hm2]
                unfold hdP
                rw [bigs_bval (part_length (by omega)) (part_byt hy), bigs_bval (part_length (by omega)) (part_byt hy40), bigs_bval (part_length (by omega)) (part_byt hy40), bigs_bval (part_length (by omega)) (part_byt hy40), bigs_bval (part_length (by omega)) (part_byt hy40)]
                have e1 : part (part bs 0 40) 0 (8 + (8 + (8 + (8 + 8)))) = part bs 0 40 := part_all hl40
                rw [part_app, part_app, part_app, part_app] at e1
                rw [part_sub (bs := bs) (p := 0) (n := 40) (i := 0) (k := 8) (by omega)] at e1
                exact e1.symm
              rw [enc_eq]
              dsimp only
              rw [← hh, ← s1, ← b4]
              have e2 := part_app (bs := bs) (p := 0) (n := 40 + 4) (m := bs.length - 44)
              rw [show 40 + 4 + (bs.length - 44) = bs.length by omega, part_all rfl] at e2
              exact e2.symm
            · cases h
end Go.Proofs.Ytllpfpdanonhkaa
