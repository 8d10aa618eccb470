/- Walks: bytes and numbers (octet, and its reference). No condition. -/
import Derived.Test.YtllpfpdanonhkaaTab
set_option maxRecDepth 8000
set_option maxHeartbeats 4000000
set_option linter.unusedVariables false
set_option linter.unusedSimpArgs false
namespace Go.Proofs.Ytllpfpdanonhkaa
open Go.Sx Go.RowKit

/-! ### Plain: numbers out of bytes and back -/
def big1 (n : Nat) (v : Int) (j : Nat) : Int := v / 256 ^ (n - 1 - j) % 256
def bigs (v : Int) (n : Nat) : List Int := (List.range n).map (big1 n v)
def bval (l : List Int) : Int := l.foldl (fun v b => v * 256 + b) 0
def crc1 (s : Int) : Int := if s % 2 = 1 then bits .xor .u32 (s / 2) 2197175160 else s / 2
def crc8 (s : Int) : Nat → Int
  | 0 => s
  | n + 1 => crc1 (crc8 s n)
def crcF (l : List Int) : Int := l.foldl (fun s b => crc8 (bits .xor .u32 s b) 8) 4294967295
def crcv (l : List Int) : Int := bits .xor .u32 4294967295 (crcF l)
def Byt (l : List Int) : Prop := ∀ b ∈ l, 0 ≤ b ∧ b < 256

theorem Byt.at {l : List Int} (h : Byt l) (k : Nat) : 0 ≤ l.getD k 0 ∧ l.getD k 0 < 256 := by
  by_cases hk : k < l.length
  · have : l.getD k 0 = l[k] := by simp [List.getD, hk]
    rw [this]; exact h _ (List.getElem_mem _)
  · have : l.getD k 0 = 0 := by simp [List.getD, hk]
    rw [this]; omega
theorem Byt.app {l m : List Int} (h : Byt l) (k : Byt m) : Byt (l ++ m) := fun b hb => by
  rcases List.mem_append.1 hb with hb | hb
  · exact h b hb
  · exact k b hb
theorem Byt.take {l : List Int} {n : Nat} (h : Byt l) : Byt (l.take n) := fun b hb => h b (List.mem_of_mem_take hb)
theorem Byt.drop {l : List Int} {n : Nat} (h : Byt l) : Byt (l.drop n) := fun b hb => h b (List.mem_of_mem_drop hb)
theorem bigs_len {v : Int} {n : Nat} : (bigs v n).length = n := by simp [bigs]
theorem bigs_byt {v : Int} {n : Nat} : Byt (bigs v n) := fun b hb => by
  obtain ⟨j, _, rfl⟩ := List.mem_map.1 hb
  unfold big1; omega
theorem bigs_snoc {v : Int} {n k : Nat} (h : 1 ≤ k) (h2 : k ≤ n) : (bigs v n).take (n - k) ++ [v / 256 ^ (k - 1) % 256] = (bigs v n).take (n - (k - 1)) := by
  rw [show n - (k - 1) = (n - k) + 1 by omega, List.take_add_one]
  congr 1
  simp only [bigs, List.getElem?_map]
  rw [List.getElem?_range (by omega)]
  simp only [Option.map_some, Option.toList_some, big1]
  rw [show n - 1 - (n - k) = k - 1 by omega]
theorem shr8 (v : Int) (j : Nat) (h : j ≤ 7) : v.fdiv (2 ^ min (8 * (j : Int)).toNat (IntKind.bits .u64)) = v / 256 ^ j := by
  have : j = 0 ∨ j = 1 ∨ j = 2 ∨ j = 3 ∨ j = 4 ∨ j = 5 ∨ j = 6 ∨ j = 7 := by omega
  rcases this with rfl | rfl | rfl | rfl | rfl | rfl | rfl | rfl <;> rw [Int.fdiv_eq_ediv_of_nonneg _ (by decide)] <;> rfl
theorem shrB (v : Int) : v.fdiv (2 ^ min (Int.toNat 8) (IntKind.bits .u64)) = v / 256 := by
  rw [Int.fdiv_eq_ediv_of_nonneg _ (by decide)]; rfl
theorem shr1 (v : Int) (n : Nat) (h : 1 ≤ n) : v.fdiv (2 ^ min ((1 : Int)).toNat n) = v / 2 := by
  rw [show min ((1 : Int)).toNat n = 1 by simp; omega, Int.fdiv_eq_ediv_of_nonneg _ (by decide)]; rfl
theorem bval_snoc {l : List Int} {b : Int} : bval (l ++ [b]) = bval l * 256 + b := by simp [bval]
theorem bval_bound {l : List Int} (h : Byt l) : 0 ≤ bval l ∧ bval l < 256 ^ l.length := by
  have key : ∀ (l : List Int), Byt l → ∀ v n, 0 ≤ v → v < 256 ^ n → 0 ≤ l.foldl (fun v b => v * 256 + b) v ∧ l.foldl (fun v b => v * 256 + b) v < 256 ^ (n + l.length) := by
    intro l
    induction l with
    | nil => intro _ v n h1 h2; exact ⟨h1, by simpa using h2⟩
    | cons b l ih =>
      intro hb v n h1 h2
      have h3 := hb b List.mem_cons_self
      have := ih (fun x hx => hb x (List.mem_cons_of_mem _ hx)) (v * 256 + b) (n + 1) (by omega) (by rw [Int.pow_succ]; omega)
      simp only [List.foldl_cons, List.length_cons]
      rw [show n + (l.length + 1) = n + 1 + l.length by omega]; exact this
  simpa [bval] using key l h 0 0 (by omega) (by simp)
theorem bval_u64 {l : List Int} (h : Byt l) (hl : l.length ≤ 8) : 0 ≤ bval l ∧ bval l < 18446744073709551616 := by
  have h1 := bval_bound h
  refine ⟨h1.1, Int.lt_of_lt_of_le h1.2 ?_⟩
  have : ∀ n : Nat, n ≤ 8 → (256 : Int) ^ n ≤ 18446744073709551616 := by
    intro n hn
    have : n = 0 ∨ n = 1 ∨ n = 2 ∨ n = 3 ∨ n = 4 ∨ n = 5 ∨ n = 6 ∨ n = 7 ∨ n = 8 := by omega
    rcases this with rfl | rfl | rfl | rfl | rfl | rfl | rfl | rfl | rfl <;> decide
  exact this _ hl
theorem take_snoc {l : List Int} {k : Nat} (h : k < l.length) : l.take k ++ [l.getD k 0] = l.take (k + 1) := by
  rw [List.take_add_one]; simp [List.getD, h]

theorem or8 {v b : Int} (h0 : 0 ≤ v) (h1 : v < 72057594037927936) (h2 : 0 ≤ b) (h3 : b < 256) : bits .or .u64 (v * 256) b = v * 256 + b := by
  obtain ⟨n, rfl⟩ := Int.eq_ofNat_of_zero_le h0
  obtain ⟨m, rfl⟩ := Int.eq_ofNat_of_zero_le h2
  have hm : m < 2 ^ 8 := by omega
  have hn : n < 72057594037927936 := by omega
  have e1 : (n <<< 8) ||| m = n <<< 8 + m := (Nat.shiftLeft_add_eq_or_of_lt hm n).symm
  have e2 : n <<< 8 = n * 256 := Nat.shiftLeft_eq n 8
  have e3 : (BitVec.ofInt 64 ((n : Int) * 256)).toNat = n * 256 := by
    rw [BitVec.toNat_ofInt]; omega
  have e4 : (BitVec.ofInt 64 (m : Int)).toNat = m := by
    rw [BitVec.toNat_ofInt]; omega
  have e5 : (BitVec.ofInt 64 ((n : Int) * 256) ||| BitVec.ofInt 64 (m : Int)).toNat = n * 256 + m := by
    rw [BitVec.toNat_or, e3, e4, ← e2, e1]
  show IntKind.u64.wrap (((BitVec.ofInt 64 ((n : Int) * 256) ||| BitVec.ofInt 64 (m : Int)).toNat : Nat) : Int) = _
  rw [e5, IntKind.wrap_u64]; omega
theorem or8w {v b : Int} (h0 : 0 ≤ v) (h1 : v < 72057594037927936) (h2 : 0 ≤ b) (h3 : b < 256) : bits .or .u64 (IntKind.u64.wrap (v * 2 ^ min ((8 : Int)).toNat (IntKind.bits .u64))) (IntKind.u64.wrap b) = v * 256 + b := by
  have e1 : (2 : Int) ^ min ((8 : Int)).toNat (IntKind.bits .u64) = 256 := by decide
  rw [e1, wu64 (by omega) (by omega), wu64 (by omega) (by omega)]; exact or8 h0 h1 h2 h3
theorem bval_56 {l : List Int} (h : Byt l) (hl : l.length ≤ 7) : 0 ≤ bval l ∧ bval l < 72057594037927936 := by
  have h1 := bval_bound h
  refine ⟨h1.1, Int.lt_of_lt_of_le h1.2 ?_⟩
  have : ∀ n : Nat, n ≤ 7 → (256 : Int) ^ n ≤ 72057594037927936 := by
    intro n hn
    have : n = 0 ∨ n = 1 ∨ n = 2 ∨ n = 3 ∨ n = 4 ∨ n = 5 ∨ n = 6 ∨ n = 7 := by omega
    rcases this with rfl | rfl | rfl | rfl | rfl | rfl | rfl | rfl <;> decide
  exact this _ hl

/-! ### The writer and the reader, as chunks -/
def Wr (g : Nat) (bs : List Int) : HP := exi fun x : Option Addr × Nat => [cel g 122 [.bool true, .slice x.1 bs.length x.2], row 5 1 x.1 x.2 (ints .u8 bs)]
def Rdr (g : Nat) (bs : List Int) (at' : Nat) : HP := exi fun x : Option Addr × Nat => [cel g 129 [.bool true, .slice x.1 bs.length x.2, .int .i64 at'], row 5 1 x.1 x.2 (ints .u8 bs)]
theorem wrOpen {c : Cx} {n : Nat} {env : Env} {L F : List HP} {ds : List Deferred} {X : Act → World → Prop} {g : Nat} {bs : List Int} (hp : Pick L (Wr g bs) F) (h : ∀ ao cp, At c n ⟨env, cel g 122 [.bool true, .slice ao bs.length cp] :: row 5 1 ao cp (ints .u8 bs) :: F, ds⟩ X) : At c n ⟨env, L, ds⟩ X :=
  At.sm (L' := fun x : Option Addr × Nat => cel g 122 [.bool true, .slice x.1 bs.length x.2] :: row 5 1 x.1 x.2 (ints .u8 bs) :: F) (fun _ hf => Star.exi_elim (hp.star hf)) fun x => h x.1 x.2
theorem wrClose {c : Cx} {n : Nat} {env : Env} {L F : List HP} {ds : List Deferred} {X : Act → World → Prop} {g : Nat} {bs : List Int} {ao : Option Addr} {cp : Nat} (h : At c n ⟨env, Wr g bs :: F, ds⟩ X) (hp : SubL L (cel g 122 [.bool true, .slice ao bs.length cp] :: row 5 1 ao cp (ints .u8 bs) :: F)) : At c n ⟨env, L, ds⟩ X :=
  At.chunks (L' := Wr g bs :: F) (fun _ hf => Star.exi_intro (ao, cp) (hp.star hf)) h
theorem rdOpen {c : Cx} {n : Nat} {env : Env} {L F : List HP} {ds : List Deferred} {X : Act → World → Prop} {g at' : Nat} {bs : List Int} (hp : Pick L (Rdr g bs at') F) (h : ∀ ao cp, At c n ⟨env, cel g 129 [.bool true, .slice ao bs.length cp, .int .i64 at'] :: row 5 1 ao cp (ints .u8 bs) :: F, ds⟩ X) : At c n ⟨env, L, ds⟩ X :=
  At.sm (L' := fun x : Option Addr × Nat => cel g 129 [.bool true, .slice x.1 bs.length x.2, .int .i64 at'] :: row 5 1 x.1 x.2 (ints .u8 bs) :: F) (fun _ hf => Star.exi_elim (hp.star hf)) fun x => h x.1 x.2
theorem rdClose {c : Cx} {n : Nat} {env : Env} {L F : List HP} {ds : List Deferred} {X : Act → World → Prop} {g at' : Nat} {bs : List Int} {ao : Option Addr} {cp : Nat} (h : At c n ⟨env, Rdr g bs at' :: F, ds⟩ X) (hp : SubL L (cel g 129 [.bool true, .slice ao bs.length cp, .int .i64 at'] :: row 5 1 ao cp (ints .u8 bs) :: F)) : At c n ⟨env, L, ds⟩ X :=
  At.chunks (L' := Rdr g bs at' :: F) (fun _ hf => Star.exi_intro (ao, cp) (hp.star hf)) h

theorem big_set {v : Int} {n k : Nat} (h : 1 ≤ k) (h2 : k ≤ n) : (List.replicate k (0 : Int) ++ (bigs v n).drop k).set (k - 1) (v / 256 ^ (n - k) % 256) = List.replicate (k - 1) 0 ++ (bigs v n).drop (k - 1) := by
  obtain ⟨k, rfl⟩ : ∃ m, k = m + 1 := ⟨k - 1, by omega⟩
  rw [Nat.add_sub_cancel, List.replicate_succ', List.append_assoc, List.set_append_right _ _ (by simp)]
  simp only [List.length_replicate, Nat.sub_self, List.singleton_append, List.set_cons_zero]
  congr 1
  have hk : k < (bigs v n).length := by rw [bigs_len]; omega
  rw [List.drop_eq_getElem_cons hk]
  congr 1
  simp only [bigs, List.getElem_map, List.getElem_range, big1]
  rw [show n - 1 - k = n - (k + 1) by omega]

theorem bval_u32 {l : List Int} (h : Byt l) (hl : l.length ≤ 4) : 0 ≤ bval l ∧ bval l < 4294967296 := by
  have h1 := bval_bound h
  refine ⟨h1.1, Int.lt_of_lt_of_le h1.2 ?_⟩
  have : ∀ n : Nat, n ≤ 4 → (256 : Int) ^ n ≤ 4294967296 := by
    intro n hn
    have : n = 0 ∨ n = 1 ∨ n = 2 ∨ n = 3 ∨ n = 4 := by omega
    rcases this with rfl | rfl | rfl | rfl | rfl <;> decide
  exact this _ hl
theorem bval_u8 {l : List Int} (h : Byt l) (hl : l.length ≤ 1) : 0 ≤ bval l ∧ bval l < 256 := by
  have h1 := bval_bound h
  refine ⟨h1.1, Int.lt_of_lt_of_le h1.2 ?_⟩
  have : ∀ n : Nat, n ≤ 1 → (256 : Int) ^ n ≤ 256 := by
    intro n hn
    have : n = 0 ∨ n = 1 := by omega
    rcases this with rfl | rfl <;> decide
  exact this _ hl
theorem part_len {l : List Int} {p n : Nat} : ((l.take (p + n)).drop p).length ≤ n := by rw [List.length_drop, List.length_take]; omega

theorem bits_range (op : BinOp) (x y : Int) : 0 ≤ bits op .u32 x y ∧ bits op .u32 x y < 4294967296 := by
  unfold bits; rw [IntKind.wrap_u32]; omega
theorem crc1_range {s : Int} (h : 0 ≤ s ∧ s < 4294967296) : 0 ≤ crc1 s ∧ crc1 s < 4294967296 := by
  unfold crc1
  split
  · exact bits_range _ _ _
  · omega
theorem crc8_range {s : Int} (h : 0 ≤ s ∧ s < 4294967296) : ∀ n, 0 ≤ crc8 s n ∧ crc8 s n < 4294967296
  | 0 => h
  | n + 1 => crc1_range (crc8_range h n)
theorem crcF_range (l : List Int) : 0 ≤ crcF l ∧ crcF l < 4294967296 := by
  have key : ∀ (l : List Int) (s : Int), 0 ≤ s ∧ s < 4294967296 → 0 ≤ l.foldl (fun s b => crc8 (bits .xor .u32 s b) 8) s ∧ l.foldl (fun s b => crc8 (bits .xor .u32 s b) 8) s < 4294967296 := by
    intro l
    induction l with
    | nil => intro s h; exact h
    | cons b l ih => intro s _; exact ih _ (crc8_range (bits_range _ _ _) 8)
  exact key l _ (by omega)
theorem crcv_range (l : List Int) : 0 ≤ crcv l ∧ crcv l < 4294967296 := bits_range _ _ _
theorem crcF_snoc (l : List Int) (b : Int) : crcF (l ++ [b]) = crc8 (bits .xor .u32 (crcF l) b) 8 := by simp [crcF]
theorem and1 {s : Int} (h : 0 ≤ s ∧ s < 4294967296) : bits .and .u32 s 1 = s % 2 := by
  obtain ⟨n, rfl⟩ := Int.eq_ofNat_of_zero_le h.1
  have e1 : (BitVec.ofInt 32 (n : Int)).toNat = n := by rw [BitVec.toNat_ofInt]; omega
  have e2 : (BitVec.ofInt 32 (n : Int) &&& BitVec.ofInt 32 1).toNat = n % 2 := by
    rw [BitVec.toNat_and, e1]
    show n &&& 1 = n % 2
    exact Nat.and_one_is_mod n
  show IntKind.u32.wrap (((BitVec.ofInt 32 (n : Int) &&& BitVec.ofInt 32 1).toNat : Nat) : Int) = _
  rw [e2, IntKind.wrap_u32]; omega
theorem xor0 {s : Int} (h : 0 ≤ s ∧ s < 4294967296) : bits .xor .u32 s 0 = s := by
  obtain ⟨n, rfl⟩ := Int.eq_ofNat_of_zero_le h.1
  have e1 : (BitVec.ofInt 32 (n : Int)).toNat = n := by rw [BitVec.toNat_ofInt]; omega
  have e2 : (BitVec.ofInt 32 (n : Int) ^^^ BitVec.ofInt 32 0).toNat = n := by
    rw [BitVec.toNat_xor, e1]
    show n ^^^ 0 = n
    exact Nat.xor_zero n
  show IntKind.u32.wrap (((BitVec.ofInt 32 (n : Int) ^^^ BitVec.ofInt 32 0).toNat : Nat) : Int) = _
  rw [e2, IntKind.wrap_u32]; omega
theorem crc_alt {s : Int} (h : 0 ≤ s ∧ s < 4294967296) : bits .xor .u32 (s / 2) (bits .and .u32 2197175160 (IntKind.u32.wrap (0 - s % 2))) = crc1 s := by
  unfold crc1
  have : s % 2 = 0 ∨ s % 2 = 1 := by omega
  rcases this with e | e
  · rw [e, if_neg (by decide)]
    have : bits .and .u32 2197175160 (IntKind.u32.wrap (0 - 0)) = 0 := by decide
    rw [this, xor0 (by omega)]
  · rw [e, if_pos rfl]
    have : bits .and .u32 2197175160 (IntKind.u32.wrap (0 - 1)) = 2197175160 := by decide
    rw [this]
theorem shrC (v : Int) : v.fdiv (2 ^ min (Int.toNat 1) (IntKind.bits .u32)) = v / 2 := by
  rw [Int.fdiv_eq_ediv_of_nonneg _ (by decide)]; rfl
theorem crc1_even {s : Int} (h : ¬ s % 2 = 1) : s / 2 = crc1 s := by unfold crc1; rw [if_neg h]
theorem crc1_odd {s : Int} (h : s % 2 = 1) : bits .xor .u32 (s / 2) 2197175160 = crc1 s := by unfold crc1; rw [if_pos h]

def lmax : List Int → Int
  | [] => 0
  | a :: l => l.foldl max a
theorem lmax_snoc {l : List Int} {b : Int} (h : l ≠ []) : lmax (l ++ [b]) = max (lmax l) b := by
  cases l with
  | nil => exact absurd rfl h
  | cons a l => simp [lmax]
theorem lmax_one {l : List Int} (h : 0 < l.length) : lmax (l.take 1) = l.getD 0 0 := by
  cases l with
  | nil => simp at h
  | cons a l => rfl

theorem copied {w0 : World} {L : List HP} {ao : Option Addr} {n cp : Nat} {bs : List Int} (hb : RdS w0 L 1 ao (ints .u8 bs)) (hn : n = bs.length) (hle : n ≤ 1099511627776) :
    CallOk Tb.P w0 L 66 [.slice ao n cp] fun u L' => ∃ q, u = .slice (some ⟨q, 0, none⟩) n n ∧ L' = row 5 1 (some ⟨q, 0, none⟩) n (ints .u8 bs) :: L := by
  refine enter Try.func66 rfl Try.ntmps66 (Nat.le_of_ble_eq_true rfl) ?_
  refine At.seq ?_
  refine At.reg rfl ?_
  refine Run.as (h := ?_)
  refine Run.fin ?_
  refine At.seq ?_
  refine At.reg rfl ?_
  refine Run.mv (h := ?_)
  refine Run.len Tb.L23 (h := ?_)
  refine Run.mk (ht := Tb.G23) (hz1 := by simp [Value.oneCell']) (n := n) (ha := rfl) (hb := rfl) (hlen := by simp only [maxLen]; omega) (hby := by omega) (h := fun g6 => ?_)
  refine Run.as (h := ?_)
  refine Run.fin ?_
  refine At.seq ?_
  refine At.reg rfl ?_
  refine Run.mv (h := ?_)
  refine Run.mv (h := ?_)
  refine Run.cpy (ht := Tb.G23) (k := 0) (hR := hb.sub) (hbo := by simp [adr]) (hk0 := by simp) (hn := by simp [hn]) (l2 := ints .u8 bs) (hl2 := by simp [ints, hn, List.take_of_length_le]) (h := ?_)
  refine Run.fin ?_
  refine At.seq ?_
  refine At.reg rfl ?_
  refine Run.mv (h := ?_)
  refine Run.as (h := ?_)
  refine Run.fin ?_
  refine At.ret ?_
  exact At.done (hΦ := by exact ⟨g6, rfl, rfl⟩)
theorem rcopy {w0 : World} {L : List HP} {ao : Option Addr} {n cp : Nat} {bs : List Int} (hb : RdS w0 L 1 ao (ints .u8 bs)) (hn : n = bs.length) (hle : n ≤ 1099511627776) :
    CallOk Tb.P w0 L 11 [.slice ao n cp] fun u L' => ∃ ao' cp', u = .slice ao' n cp' ∧ L' = row 5 1 ao' cp' (ints .u8 bs) :: L := by
  refine enter Try.func11 rfl Try.ntmps11 (Nat.le_of_ble_eq_true rfl) ?_
  refine At.seq ?_
  refine At.reg rfl ?_
  refine Run.as (h := ?_)
  refine Run.fin ?_
  refine At.seq ?_
  refine At.reg rfl ?_
  refine Run.as (h := ?_)
  refine Run.fin ?_
  refine At.seq ?_
  refine At.reg rfl ?_
  refine Run.mv (h := ?_)
  refine Run.mv (h := ?_)
  refine Run.chunks (L' := row 5 1 none 0 [] :: L) (fun _ h => Star.nilRow h) ?_
  refine Run.ap (ht := Tb.G23) (hR := hb.sub) (hm := by simp [hn]) (n2 := n) (l2 := ints .u8 bs) (hn2 := by simp [hn]) (hlen := by simp [maxLen]; omega) (hby := by simp; omega) (h := fun ao6 cp6 => ?_)
  refine Run.as (h := ?_)
  refine Run.fin ?_
  refine At.ret ?_
  exact At.done (hΦ := by exact ⟨ao6, cp6, rfl, rfl⟩)
theorem rsame {w0 : World} {L : List HP} {ao bo : Option Addr} {cp cq : Nat} {a b : List Int} (ha : RdS w0 L 1 ao (ints .u8 a)) (hb : RdS w0 L 1 bo (ints .u8 b)) (hla : a.length ≤ 1099511627776) :
    CallOk Tb.P w0 L 15 [.slice ao a.length cp, .slice bo b.length cq] fun u L' => u = .bool (decide (a = b)) ∧ L' = L := by
  refine enter Try.func15 rfl Try.ntmps15 (Nat.le_of_ble_eq_true rfl) ?_
  refine At.seq ?_
  refine At.reg rfl ?_
  refine Run.as (h := ?_)
  refine Run.fin ?_
  refine At.seq ?_
  refine At.seq ?_
  refine At.reg rfl ?_
  refine Run.mv (h := ?_)
  refine Run.len Tb.L23 (h := ?_)
  refine Run.mv (h := ?_)
  refine Run.len Tb.L23 (h := ?_)
  refine Run.ne (h := ?_)
  refine Run.fin ?_
  refine At.cnd' (ht := fun hc1 => ?_) (hf := fun hc1 => ?_)
  · skip
    refine At.seq ?_
    refine At.reg rfl ?_
    refine Run.as (h := ?_)
    refine Run.fin ?_
    refine At.ret ?_
    refine At.then_ret ?_
    exact At.done (hΦ := by exact ⟨by rw [decide_eq_false (by rintro rfl; exact hc1 rfl)]; rfl, rfl⟩)
  · skip
    refine At.skip ?_
    refine At.seq ?_
    refine At.seq ?_
    refine At.reg rfl ?_
    refine Run.as (h := ?_)
    refine Run.fin ?_
    refine At.block ?_
    refine At.loop (α := Nat) (fun k => ⟨[(0, .slice ao a.length cp), (1, .slice bo b.length cq), (5, .int .i64 k)], L, []⟩) (fun k => k ≤ a.length ∧ a.length = b.length ∧ a.take k = b.take k) (fun k => a.length - k) (0) (⟨by omega, by omega, rfl⟩) (Ent.of (by repeat (first | exact SubE.nil | refine SubE.cons (by first | rfl | (show some _ = some _; simp; done)) ?_)) (by repeat (first | exact SubL.refl | refine SubL.cons (by repeat (first | exact Pick.here | apply Pick.there)) ?_ | refine SubL.skip ?_ | exact SubL.nil))) (fun k hx => ?_)
    obtain ⟨hk1, hk2, hk3⟩ := hx
    refine At.seq ?_
    refine At.seq ?_
    refine At.reg rfl ?_
    refine Run.mv (h := ?_)
    refine Run.mv (h := ?_)
    refine Run.len Tb.L23 (h := ?_)
    refine Run.lt (h := ?_)
    refine Run.fin ?_
    refine At.cnd' (ht := fun hc2 => ?_) (hf := fun hc2 => ?_)
    · skip
      refine At.skip ?_
      refine At.seq ?_
      refine At.block ?_
      refine At.seq ?_
      refine At.draw [(0, 0), (1, 0), (2, 0), (4, 0), (5, 0), (6, 0), (3, 1), (7, 1), (8, 0)] Tb.mixed (by kernel_rfl) ?_
      refine Run.mv (h := ?_)
      refine Run.mv (h := ?_)
      refine Run.iaR (ht := Tb.L23) (hR := ha) (hj := rfl) (h1 := by simp; omega) (hn := by omega) (h := ?_)
      refine Run.mv (h := ?_)
      refine Run.mv (h := ?_)
      refine Run.iaR (ht := Tb.L23) (hR := hb) (hj := rfl) (h1 := by simp; omega) (hn := by omega) (h := ?_)
      refine Run.ldr0 (ht := Tb.A5) (hR := ha) (hj := ints_at (by omega)) (h := ?_)
      refine Run.ldr0 (ht := Tb.A5) (hR := hb) (hj := ints_at (by omega)) (h := ?_)
      refine Run.ne (h := ?_)
      refine Run.fin ?_
      refine At.cnd' (ht := fun hc3 => ?_) (hf := fun hc3 => ?_)
      · skip
        refine At.seq ?_
        refine At.reg rfl ?_
        refine Run.as (h := ?_)
        refine Run.fin ?_
        refine At.ret ?_
        refine At.inb_ret ?_
        refine At.then_ret ?_
        refine At.then_ret ?_
        refine At.inb_ret ?_
        refine At.then_ret ?_
        exact At.done (hΦ := by exact ⟨by rw [decide_eq_false (by rintro rfl; exact hc3 rfl)]; rfl, rfl⟩)
      · skip
        refine At.skip ?_
        refine At.inb_norm ?_
        refine At.reg rfl ?_
        refine Run.mv (h := ?_)
        refine Run.add (h := ?_)
        refine Run.eqi (b := ((k + 1 : Nat) : Int)) (by rw [wi64 (by omega) (by omega)]; omega) ?_
        refine Run.as (h := ?_)
        refine Run.fin ?_
        exact At.again (k + 1) (⟨by omega, hk2, by rw [← take_snoc (by omega), ← take_snoc (by omega), hk3]; simp only [ne_eq, Decidable.not_not] at hc3; rw [hc3]⟩) (by omega)
    · skip
      refine At.exit ?_
      refine At.then_exit ?_
      refine At.then_exit ?_
      refine At.inb_hit ?_
      refine At.seq ?_
      refine At.reg rfl ?_
      refine Run.as (h := ?_)
      refine Run.fin ?_
      refine At.ret ?_
      exact At.done (hΦ := by exact ⟨by rw [decide_eq_true (by rwa [List.take_of_length_le (by omega), List.take_of_length_le (by omega)] at hk3)]; rfl, rfl⟩)
theorem rvalue {w0 : World} {L : List HP} {ao : Option Addr} {n cp : Nat} {bs : List Int} (hb : RdS w0 L 1 ao (ints .u8 bs)) (hn : n = bs.length) (hy : Byt bs) (hle : n ≤ 8) :
    CallOk Tb.P w0 L 53 [.slice ao n cp] fun u L' => u = .int .u64 (bval bs) ∧ L' = L := by
  refine enter Try.func53 rfl Try.ntmps53 (Nat.le_of_ble_eq_true rfl) ?_
  refine At.seq ?_
  refine At.reg rfl ?_
  refine Run.as (h := ?_)
  refine Run.fin ?_
  refine At.seq ?_
  refine At.reg rfl ?_
  refine Run.as (h := ?_)
  refine Run.fin ?_
  refine At.seq ?_
  refine At.seq ?_
  refine At.reg rfl ?_
  refine Run.as (h := ?_)
  refine Run.fin ?_
  refine At.block ?_
  refine At.loop (α := Nat) (fun k => ⟨[(0, .slice ao n cp), (3, .int .u64 (bval (bs.take k))), (4, .int .i64 k)], L, []⟩) (fun k => k ≤ n) (fun k => n - k) (0) (Nat.zero_le _) (Ent.of (by repeat (first | exact SubE.nil | refine SubE.cons (by first | rfl | (show some _ = some _; simp; done)) ?_)) (by repeat (first | exact SubL.refl | refine SubL.cons (by repeat (first | exact Pick.here | apply Pick.there)) ?_ | refine SubL.skip ?_ | exact SubL.nil))) (fun k hx => ?_)
  have hlen : (bs.take k).length = k := by rw [List.length_take]; omega
  refine At.seq ?_
  refine At.seq ?_
  refine At.reg rfl ?_
  refine Run.mv (h := ?_)
  refine Run.mv (h := ?_)
  refine Run.len Tb.L23 (h := ?_)
  refine Run.lt (h := ?_)
  refine Run.fin ?_
  refine At.cnd' (ht := fun hc1 => ?_) (hf := fun hc1 => ?_)
  · skip
    refine At.skip ?_
    refine At.seq ?_
    refine At.block ?_
    refine At.reg rfl ?_
    refine Run.mv (h := ?_)
    refine Run.shl (hb := by omega) (h := ?_)
    refine Run.mv (h := ?_)
    refine Run.mv (h := ?_)
    refine Run.iaR (ht := Tb.L23) (hR := hb) (hj := rfl) (h1 := by simp; omega) (hn := by omega) (h := ?_)
    refine Run.ldr0 (ht := Tb.A5) (hR := hb) (hj := ints_at (by omega)) (h := ?_)
    refine Run.cv Tb.I5 Tb.I22 (h := ?_)
    refine Run.bit (op := .or) (hop := by simp) (h := ?_)
    have hv := bval_56 (hy.take (n := k)) (by omega)
    have hbk := hy.at k
    refine Run.eqi (b := bval (bs.take (k + 1))) (by rw [or8w hv.1 hv.2 hbk.1 hbk.2, ← bval_snoc, take_snoc (by omega)]) ?_
    refine Run.as (h := ?_)
    refine Run.fin ?_
    refine At.inb_norm ?_
    refine At.reg rfl ?_
    refine Run.mv (h := ?_)
    refine Run.add (h := ?_)
    refine Run.eqi (b := ((k + 1 : Nat) : Int)) (by rw [wi64 (by omega) (by omega)]; omega) ?_
    refine Run.as (h := ?_)
    refine Run.fin ?_
    exact At.again (k + 1) (by omega) (by omega)
  · skip
    refine At.exit ?_
    refine At.then_exit ?_
    refine At.then_exit ?_
    refine At.inb_hit ?_
    refine At.seq ?_
    refine At.reg rfl ?_
    refine Run.mv (h := ?_)
    refine Run.as (h := ?_)
    refine Run.fin ?_
    refine At.ret ?_
    exact At.done (hΦ := by exact ⟨congrArg (fun l => Value.int .u64 (bval l)) (List.take_of_length_le (by omega)), rfl⟩)
theorem rbig {w0 : World} {L : List HP} {v : Int} {n : Nat} (hv : 0 ≤ v ∧ v < 18446744073709551616) (hle : n ≤ 8) :
    CallOk Tb.P w0 L 43 [.int .u64 v, .int .i64 n] fun u L' => ∃ q, u = .slice (some ⟨q, 0, none⟩) n n ∧ L' = row 5 1 (some ⟨q, 0, none⟩) n (ints .u8 (bigs v n)) :: L := by
  refine enter Try.func43 rfl Try.ntmps43 (Nat.le_of_ble_eq_true rfl) ?_
  refine At.seq ?_
  refine At.reg rfl ?_
  refine Run.as (h := ?_)
  refine Run.fin ?_
  refine At.seq ?_
  refine At.reg rfl ?_
  refine Run.mv (h := ?_)
  refine Run.mk (ht := Tb.G23) (hz1 := by simp [Value.oneCell']) (n := n) (ha := rfl) (hb := rfl) (hlen := by simp only [maxLen]; omega) (hby := by omega) (h := fun g8 => ?_)
  refine Run.as (h := ?_)
  refine Run.fin ?_
  refine At.seq ?_
  refine At.seq ?_
  refine At.reg rfl ?_
  refine Run.mv (h := ?_)
  refine Run.sub (h := ?_)
  refine Run.eqi (b := (n : Int) - 1) (wi64 (by omega) (by omega)) ?_
  refine Run.as (h := ?_)
  refine Run.fin ?_
  refine At.block ?_
  refine At.loop (α := Nat) (fun k => ⟨[(0, .int .u64 (v / 256 ^ (n - k))), (5, .slice (some ⟨g8, 0, none⟩) n n), (6, .int .i64 ((k : Int) - 1))], row 5 1 (some ⟨g8, 0, none⟩) n (ints .u8 (List.replicate k 0 ++ (bigs v n).drop k)) :: L, []⟩) (fun k => k ≤ n) (fun k => k) (n) (Nat.le_refl _) (Ent.of (by repeat (first | exact SubE.nil | refine SubE.cons (by first | rfl | (show some _ = some _; simp; done)) ?_)) (by simp [bigs_len, ints_rep, List.drop_of_length_le]; exact SubL.refl)) (fun k hx => ?_)
  have hlen : (ints .u8 (List.replicate k 0 ++ (bigs v n).drop k)).length = n := by simp [bigs_len]; omega
  refine At.seq ?_
  refine At.seq ?_
  refine At.reg rfl ?_
  refine Run.mv (h := ?_)
  refine Run.ge (h := ?_)
  refine Run.fin ?_
  refine At.cnd' (ht := fun hc1 => ?_) (hf := fun hc1 => ?_)
  · skip
    refine At.skip ?_
    refine At.seq ?_
    refine At.block ?_
    refine At.seq ?_
    refine At.reg rfl ?_
    refine Run.mv (h := ?_)
    refine Run.mv (h := ?_)
    refine Run.mv (h := ?_)
    refine Run.cv Tb.I22 Tb.I5 (h := ?_)
    refine Run.eqi (b := v / 256 ^ (n - k) % 256) (IntKind.wrap_u8 _) ?_
    refine Run.iaR (ht := Tb.L23) (hR := .one) (j := k - 1) (hj := by omega) (h1 := by omega) (hn := by omega) (h := ?_)
    refine Run.str0 (hsz := Tb.S5) (hj := by rw [ints_at (by simp [bigs_len]; omega)]) (h := ?_)
    refine Run.chunks (L' := row 5 1 (some ⟨g8, 0, none⟩) n (ints .u8 (List.replicate (k - 1) 0 ++ (bigs v n).drop (k - 1))) :: L) (fun _ hf => by rw [ints_set, big_set (by omega) (by omega)] at hf; exact hf) ?_
    refine Run.fin ?_
    refine At.reg rfl ?_
    refine Run.mv (h := ?_)
    refine Run.shr (hb := by omega) (h := ?_)
    refine Run.eqi (b := v / 256 ^ (n - (k - 1))) (by rw [shrB, show n - (k - 1) = n - k + 1 by omega, Int.pow_succ, Int.ediv_ediv_of_nonneg (Int.pow_nonneg (by omega))]) ?_
    refine Run.as (h := ?_)
    refine Run.fin ?_
    refine At.inb_norm ?_
    refine At.reg rfl ?_
    refine Run.mv (h := ?_)
    refine Run.sub (h := ?_)
    refine Run.eqi (b := ((k - 1 : Nat) : Int) - 1) (by rw [wi64 (by omega) (by omega)]; omega) ?_
    refine Run.as (h := ?_)
    refine Run.fin ?_
    exact At.again (k - 1) (by omega) (by omega)
  · skip
    refine At.exit ?_
    refine At.then_exit ?_
    refine At.then_exit ?_
    refine At.inb_hit ?_
    refine At.seq ?_
    refine At.reg rfl ?_
    refine Run.mv (h := ?_)
    refine Run.as (h := ?_)
    refine Run.fin ?_
    refine At.ret ?_
    obtain rfl : k = 0 := by omega
    exact At.done (hΦ := by exact ⟨g8, rfl, rfl⟩)
theorem walive {w0 : World} {L : List HP} {g : Nat} {b : Bool} (hc : Cel w0 L ⟨g, 0, none⟩ (.bool b)) :
    CallOk Tb.P w0 L 65 [.pointer (some ⟨g, 0, none⟩)] fun u L' => u = .bool b ∧ L' = L := by
  refine enter Try.func65 rfl Try.ntmps65 (Nat.le_of_ble_eq_true rfl) ?_
  refine At.seq ?_
  refine At.reg rfl ?_
  refine Run.as (h := ?_)
  refine Run.fin ?_
  refine At.seq ?_
  refine At.reg rfl ?_
  refine Run.mv (h := ?_)
  refine Run.neV (h0 := .ptrR Tb.I82) (h := ?_)
  refine Run.mv (h := ?_)
  refine Run.andB 4 2 (ht := fun hg10 => by
      refine Run.mv (h := ?_)
      refine Run.ncp (h := ?_)
      refine Run.fa Tb.F122_0 (h := ?_)
      refine Run.ldx Tb.A4 hc (h := ?_)
      exact Run.fin_sc ScEnd.here) (hrest := ?_)
  refine Run.as (h := ?_)
  refine Run.fin ?_
  refine At.ret ?_
  exact At.done (hΦ := by exact ⟨rfl, rfl⟩)
theorem ralive {w0 : World} {L : List HP} {g : Nat} {b : Bool} (hc : Cel w0 L ⟨g, 0, none⟩ (.bool b)) :
    CallOk Tb.P w0 L 71 [.pointer (some ⟨g, 0, none⟩)] fun u L' => u = .bool b ∧ L' = L := by
  refine enter Try.func71 rfl Try.ntmps71 (Nat.le_of_ble_eq_true rfl) ?_
  refine At.seq ?_
  refine At.reg rfl ?_
  refine Run.as (h := ?_)
  refine Run.fin ?_
  refine At.seq ?_
  refine At.reg rfl ?_
  refine Run.mv (h := ?_)
  refine Run.neV (h0 := .ptrR Tb.I95) (h := ?_)
  refine Run.mv (h := ?_)
  refine Run.andB 4 2 (ht := fun hg10 => by
      refine Run.mv (h := ?_)
      refine Run.ncp (h := ?_)
      refine Run.fa Tb.F129_0 (h := ?_)
      refine Run.ldx Tb.A4 hc (h := ?_)
      exact Run.fin_sc ScEnd.here) (hrest := ?_)
  refine Run.as (h := ?_)
  refine Run.fin ?_
  refine At.ret ?_
  exact At.done (hΦ := by exact ⟨rfl, rfl⟩)
theorem newWriter {w0 : World} {L : List HP}  :
    CallOk Tb.P w0 L 38 [] fun u L' => ∃ g, u = .pointer (some ⟨g, 0, none⟩) ∧ L' = Wr g [] :: L := by
  refine enter Try.func38 rfl Try.ntmps38 (Nat.le_of_ble_eq_true rfl) ?_
  refine At.seq ?_
  refine At.reg rfl ?_
  refine Run.as (h := ?_)
  refine Run.fin ?_
  refine At.seq ?_
  refine At.reg rfl ?_
  refine Run.bd Tb.B122 (h := ?_)
  refine Run.bx (h := fun g2 => ?_)
  refine Run.as (h := ?_)
  refine Run.fin ?_
  refine At.ret ?_
  refine At.chunks (L' := Wr g2 [] :: L) (fun _ hf => Star.exi_intro (none, 0) (Star.cons_mono (fun _ h => Star.nilRow h) hf)) ?_
  exact At.done (hΦ := by exact ⟨g2, rfl, rfl⟩)
theorem wnumber {w0 : World} {L : List HP} {g : Nat} {bs : List Int} {F : List HP} {v : Int} {n : Nat} (hp : Pick L (Wr g bs) F) (hv : 0 ≤ v ∧ v < 18446744073709551616) (hn : n ≤ 8) (hle : bs.length ≤ 1099511627776) :
    CallOk Tb.P w0 L 61 [.pointer (some ⟨g, 0, none⟩), .int .u64 v, .int .i64 n] fun u L' => u = .tuple #[] ∧ L' = Wr g (bs ++ bigs v n) :: F := by
  refine enter Try.func61 rfl Try.ntmps61 (Nat.le_of_ble_eq_true rfl) ?_
  refine wrOpen hp fun ao cp => ?_
  refine At.seq ?_
  refine At.seq ?_
  refine At.reg rfl ?_
  refine Run.mv (h := ?_)
  refine Run.call Tb.N65 (hc := walive (Cel.own (k := 0) (by first | exact Pick.here | apply Pick.there; exact Pick.here) rfl)) (h := ?_)
  rintro _ _ ⟨rfl, rfl⟩
  refine Run.not (h := ?_)
  refine Run.fin ?_
  refine At.condF (hx := by rfl) ?_
  refine At.skip ?_
  refine At.seq ?_
  refine At.reg rfl ?_
  refine Run.mv (h := ?_)
  refine Run.sub (h := ?_)
  refine Run.eqi (b := (n : Int) - 1) (wi64 (by omega) (by omega)) ?_
  refine Run.as (h := ?_)
  refine Run.fin ?_
  refine At.block ?_
  refine wrClose (ao := ao) (cp := cp) (bs := bs) (F := F) ?_ (by repeat (first | exact SubL.refl | refine SubL.cons (by repeat (first | exact Pick.here | apply Pick.there)) ?_ | refine SubL.skip ?_ | exact SubL.nil))
  refine At.loop (α := Nat) (fun k => ⟨[(0, .pointer (some ⟨g, 0, none⟩)), (1, .int .u64 v), (6, .int .i64 ((k : Int) - 1))], Wr g (bs ++ (bigs v n).take (n - k)) :: F, []⟩) (fun k => k ≤ n) (fun k => k) (n) (Nat.le_refl _) (Ent.of (by repeat (first | exact SubE.nil | refine SubE.cons (by first | rfl | (show some _ = some _; simp; done)) ?_)) (by rw [Nat.sub_self, List.take_zero, List.append_nil]; exact SubL.refl)) (fun k hx => ?_)
  refine wrOpen Pick.here fun ao cp => ?_
  refine At.seq ?_
  refine At.seq ?_
  refine At.reg rfl ?_
  refine Run.mv (h := ?_)
  refine Run.ge (h := ?_)
  refine Run.fin ?_
  refine At.cnd' (ht := fun hc2 => ?_) (hf := fun hc2 => ?_)
  · skip
    refine At.skip ?_
    refine At.seq ?_
    refine At.block ?_
    refine At.draw [(0, 0), (1, 0), (2, 0), (3, 0), (5, 0), (6, 0), (7, 0), (8, 0), (9, 0), (4, 1), (10, 2), (11, 3), (12, 0), (13, 0), (14, 3)] Tb.mixed (by kernel_rfl) ?_
    refine Run.mv (h := ?_)
    refine Run.mv (h := ?_)
    refine Run.ncp (h := ?_)
    refine Run.fa Tb.F122_1 (h := ?_)
    refine Run.mv (h := ?_)
    refine Run.mv (h := ?_)
    refine Run.mul (h := ?_)
    refine Run.eqi (b := 8 * ((k - 1 : Nat) : Int)) (by rw [wi64 (by omega) (by omega)]; omega) ?_
    refine Run.shr (hb := by omega) (h := ?_)
    refine Run.eqi (b := v / 256 ^ (k - 1)) (shr8 v (k - 1) (by omega)) ?_
    refine Run.cv Tb.I22 Tb.I5 (h := ?_)
    refine Run.eqi (b := v / 256 ^ (k - 1) % 256) (IntKind.wrap_u8 _) ?_
    refine Run.ld Tb.A23 (h := ?_)
    refine Run.bs Tb.G23 (h := fun g26 => ?_)
    refine Run.ap (ht := Tb.G23) (hR := .one) (hm := by simp) (n2 := (bs ++ (bigs v n).take (n - (k - 1))).length) (l2 := ints .u8 (bs ++ (bigs v n).take (n - (k - 1)))) (hl2 := by rw [ints_snoc, List.append_assoc, bigs_snoc (by omega) hx]) (hn2 := by rw [← bigs_snoc (by omega) hx]; simp; omega) (hlen := by simp [maxLen, bigs_len]; omega) (hby := by simp [bigs_len]; omega) (hk := noun (by kernel_rfl)) (h := fun ao27 cp27 => ?_)
    refine Run.ncp (h := ?_)
    refine Run.fa Tb.F122_1 (h := ?_)
    refine Run.st Tb.S23 (hk := noun (by kernel_rfl)) (h := ?_)
    refine Run.fin ?_
    refine At.inb_norm ?_
    refine At.reg rfl ?_
    refine Run.mv (h := ?_)
    refine Run.sub (h := ?_)
    refine Run.eqi (b := ((k - 1 : Nat) : Int) - 1) (by rw [wi64 (by omega) (by omega)]; omega) ?_
    refine Run.as (h := ?_)
    refine Run.fin ?_
    refine wrClose (ao := ao27) (cp := cp27) (bs := bs ++ (bigs v n).take (n - (k - 1))) (F := F) ?_ (by repeat (first | exact SubL.refl | refine SubL.cons (by repeat (first | exact Pick.here | apply Pick.there)) ?_ | refine SubL.skip ?_ | exact SubL.nil))
    exact At.again (k - 1) (by omega) (by omega)
  · skip
    refine At.exit ?_
    refine At.then_exit ?_
    refine At.then_exit ?_
    refine At.inb_hit ?_
    obtain rfl : k = 0 := by omega
    refine wrClose (ao := ao) (cp := cp) (bs := bs ++ (bigs v n).take (n - 0)) (F := F) ?_ (by repeat (first | exact SubL.refl | refine SubL.cons (by repeat (first | exact Pick.here | apply Pick.there)) ?_ | refine SubL.skip ?_ | exact SubL.nil))
    exact At.doneN (hΦ := by exact ⟨rfl, by rw [List.take_of_length_le (by rw [bigs_len]; omega)]⟩) (L' := Wr g (bs ++ (bigs v n).take (n - 0)) :: F)
theorem wraw {w0 : World} {L : List HP} {g : Nat} {bs : List Int} {F : List HP} {ao2 : Option Addr} {c2 m : Nat} {xs : List Int} (hp : Pick L (Wr g bs) F) (hb : RdS w0 F 1 ao2 (ints .u8 xs)) (hm : m = xs.length) (hle : bs.length + xs.length ≤ 1099511627776) :
    CallOk Tb.P w0 L 62 [.pointer (some ⟨g, 0, none⟩), .slice ao2 m c2] fun u L' => u = .tuple #[] ∧ L' = Wr g (bs ++ xs) :: F := by
  refine enter Try.func62 rfl Try.ntmps62 (Nat.le_of_ble_eq_true rfl) ?_
  refine wrOpen hp fun ao cp => ?_
  refine At.seq ?_
  refine At.reg rfl ?_
  refine Run.mv (h := ?_)
  refine Run.call Tb.N65 (hc := walive (Cel.own (k := 0) (by first | exact Pick.here | apply Pick.there; exact Pick.here) rfl)) (h := ?_)
  rintro _ _ ⟨rfl, rfl⟩
  refine Run.fin ?_
  refine At.condT (hx := by rfl) ?_
  refine At.reg rfl ?_
  refine Run.mv (h := ?_)
  refine Run.mv (h := ?_)
  refine Run.ncp (h := ?_)
  refine Run.fa Tb.F122_1 (h := ?_)
  refine Run.ld Tb.A23 (h := ?_)
  refine Run.mv (h := ?_)
  refine Run.ap (ht := Tb.G23) (hR := hb.sub) (hm := by simp [hm]) (n2 := (bs ++ xs).length) (l2 := ints .u8 (bs ++ xs)) (hl2 := ints_app) (hn2 := by simp) (hlen := by simp [maxLen]; omega) (hby := by simp; omega) (h := fun ao12 cp12 => ?_)
  refine Run.ncp (h := ?_)
  refine Run.fa Tb.F122_1 (h := ?_)
  refine Run.st Tb.S23 (h := ?_)
  refine Run.fin ?_
  refine wrClose (ao := ao12) (cp := cp12) (bs := bs ++ xs) (F := F) ?_ (by repeat (first | exact SubL.refl | refine SubL.cons (by repeat (first | exact Pick.here | apply Pick.there)) ?_ | refine SubL.skip ?_ | exact SubL.nil))
  exact At.doneN (hΦ := by exact ⟨rfl, rfl⟩)
theorem wU64 {w0 : World} {L : List HP} {g : Nat} {bs : List Int} {F : List HP} {v : Int} (hp : Pick L (Wr g bs) F) (hv : 0 ≤ v ∧ v < 18446744073709551616) (hle : bs.length ≤ 1099511627776) :
    CallOk Tb.P w0 L 39 [.pointer (some ⟨g, 0, none⟩), .int .u64 v] fun u L' => u = .tuple #[] ∧ L' = Wr g (bs ++ bigs v 8) :: F := by
  refine enter Try.func39 rfl Try.ntmps39 (Nat.le_of_ble_eq_true rfl) ?_
  refine At.reg rfl ?_
  refine Run.mv (h := ?_)
  refine Run.mv (h := ?_)
  refine Run.call Tb.N61 (hc := wnumber (n := 8) hp hv (by omega) hle) (h := ?_)
  rintro _ _ ⟨rfl, rfl⟩
  refine Run.fin ?_
  exact At.doneN (hΦ := by exact ⟨rfl, rfl⟩)
theorem wU32 {w0 : World} {L : List HP} {g : Nat} {bs : List Int} {F : List HP} {v : Int} (hp : Pick L (Wr g bs) F) (hv : 0 ≤ v ∧ v < 4294967296) (hle : bs.length ≤ 1099511627776) :
    CallOk Tb.P w0 L 63 [.pointer (some ⟨g, 0, none⟩), .int .u32 v] fun u L' => u = .tuple #[] ∧ L' = Wr g (bs ++ bigs v 4) :: F := by
  refine enter Try.func63 rfl Try.ntmps63 (Nat.le_of_ble_eq_true rfl) ?_
  refine At.reg rfl ?_
  refine Run.mv (h := ?_)
  refine Run.mv (h := ?_)
  refine Run.cvf Tb.I90 Tb.I22 (hw := by rw [wu64 (by omega) (by omega)]) (h := ?_)
  refine Run.call Tb.N61 (hc := wnumber (n := 4) hp ⟨by omega, by omega⟩ (by omega) hle) (h := ?_)
  rintro _ _ ⟨rfl, rfl⟩
  refine Run.fin ?_
  exact At.doneN (hΦ := by exact ⟨rfl, rfl⟩)
theorem wU8 {w0 : World} {L : List HP} {g : Nat} {bs : List Int} {F : List HP} {v : Int} (hp : Pick L (Wr g bs) F) (hv : 0 ≤ v ∧ v < 256) (hle : bs.length ≤ 1099511627776) :
    CallOk Tb.P w0 L 42 [.pointer (some ⟨g, 0, none⟩), .int .u8 v] fun u L' => u = .tuple #[] ∧ L' = Wr g (bs ++ bigs v 1) :: F := by
  refine enter Try.func42 rfl Try.ntmps42 (Nat.le_of_ble_eq_true rfl) ?_
  refine At.reg rfl ?_
  refine Run.mv (h := ?_)
  refine Run.mv (h := ?_)
  refine Run.cvf Tb.I5 Tb.I22 (hw := by rw [wu64 (by omega) (by omega)]) (h := ?_)
  refine Run.call Tb.N61 (hc := wnumber (n := 1) hp ⟨by omega, by omega⟩ (by omega) hle) (h := ?_)
  rintro _ _ ⟨rfl, rfl⟩
  refine Run.fin ?_
  exact At.doneN (hΦ := by exact ⟨rfl, rfl⟩)
theorem wout {w0 : World} {L : List HP} {g : Nat} {bs : List Int} {F : List HP} (hp : Pick L (Wr g bs) F) (hle : bs.length ≤ 1099511627776) :
    CallOk Tb.P w0 L 41 [.pointer (some ⟨g, 0, none⟩)] fun u L' => ∃ q, u = .slice (some ⟨q, 0, none⟩) bs.length bs.length ∧ L' = row 5 1 (some ⟨q, 0, none⟩) bs.length (ints .u8 bs) :: Wr g bs :: F := by
  refine enter Try.func41 rfl Try.ntmps41 (Nat.le_of_ble_eq_true rfl) ?_
  refine wrOpen hp fun ao cp => ?_
  refine At.rowR (h := fun hR0 _ hcp _ => ?_)
  refine At.seq ?_
  refine At.reg rfl ?_
  refine Run.as (h := ?_)
  refine Run.fin ?_
  refine At.seq ?_
  refine At.seq ?_
  refine At.reg rfl ?_
  refine Run.mv (h := ?_)
  refine Run.call Tb.N65 (hc := walive (Cel.own (k := 0) (by first | exact Pick.here | apply Pick.there; exact Pick.here) rfl)) (h := ?_)
  rintro _ _ ⟨rfl, rfl⟩
  refine Run.not (h := ?_)
  refine Run.fin ?_
  refine At.condF (hx := by rfl) ?_
  refine At.skip ?_
  refine At.seq ?_
  refine At.reg rfl ?_
  refine Run.mv (h := ?_)
  refine Run.ncp (h := ?_)
  refine Run.fa Tb.F122_1 (h := ?_)
  refine Run.ld Tb.A23 (h := ?_)
  refine Run.call Tb.N66 (hc := copied (hR0 (by repeat (first | exact Pick.here | apply Pick.there))) rfl hle) (h := ?_)
  rintro _ _ ⟨q, rfl, rfl⟩
  refine Run.as (h := ?_)
  refine Run.fin ?_
  refine At.ret ?_
  refine At.chunks (L' := row 5 1 (some ⟨q, 0, none⟩) bs.length (ints .u8 bs) :: Wr g bs :: F) (fun _ hf => Star.cons_mono (fun _ h => Star.exi_intro (ao, cp) h) hf) ?_
  exact At.done (hΦ := by exact ⟨q, rfl, rfl⟩)
theorem newReader {w0 : World} {L : List HP} {ao : Option Addr} {n cp : Nat} {bs : List Int} (hb : RdS w0 L 1 ao (ints .u8 bs)) (hn : n = bs.length) (hle : n ≤ 1099511627776) :
    CallOk Tb.P w0 L 46 [.slice ao n cp] fun u L' => ∃ g, u = .pointer (some ⟨g, 0, none⟩) ∧ L' = Rdr g bs 0 :: L := by
  refine enter Try.func46 rfl Try.ntmps46 (Nat.le_of_ble_eq_true rfl) ?_
  refine At.seq ?_
  refine At.reg rfl ?_
  refine Run.as (h := ?_)
  refine Run.fin ?_
  refine At.seq ?_
  refine At.reg rfl ?_
  refine Run.mv (h := ?_)
  refine Run.call Tb.N66 (hc := copied hb hn hle) (h := ?_)
  rintro _ _ ⟨q, rfl, rfl⟩
  refine Run.bd Tb.B129 (h := ?_)
  refine Run.bx (h := fun g6 => ?_)
  refine Run.as (h := ?_)
  refine Run.fin ?_
  refine At.ret ?_
  refine At.chunks (L' := Rdr g6 bs 0 :: L) (fun _ hf => Star.exi_intro (some ⟨q, 0, none⟩, n) (by subst hn; exact hf)) ?_
  exact At.done (hΦ := by exact ⟨g6, rfl, rfl⟩)
theorem rnumber {w0 : World} {L : List HP} {g p : Nat} {bs : List Int} {F : List HP} {n : Nat} (hp : Pick L (Rdr g bs p) F) (hy : Byt bs) (hn : n ≤ 8) (hle : bs.length ≤ 1099511627776) (hat : p + n ≤ bs.length) :
    CallOk Tb.P w0 L 67 [.pointer (some ⟨g, 0, none⟩), .int .i64 n] fun u L' => u = .tuple #[.int .u64 (bval ((bs.take (p + n)).drop p)), .int .i64 0] ∧ L' = Rdr g bs (p + n) :: F := by
  refine enter Try.func67 rfl Try.ntmps67 (Nat.le_of_ble_eq_true rfl) ?_
  refine rdOpen hp fun ao cp => ?_
  refine At.rows (hp := by repeat (first | exact Pick.here | apply Pick.there)) (fun hE hB hsp hcp _ _ => ?_)
  have hR0 : ∀ {L' F' : List HP} {cp' : Nat}, Pick L' (row 5 1 ao cp' (ints .u8 bs)) F' → RdS w0 L' 1 ao (ints .u8 bs) := fun hp' => RdS.own hp' ⟨hE, hB, hsp⟩
  have hcp2 : bs.length ≤ cp := by simpa using hcp
  refine At.seq ?_
  refine At.reg rfl ?_
  refine Run.as (h := ?_)
  refine Run.as (h := ?_)
  refine Run.fin ?_
  refine At.seq ?_
  refine At.seq ?_
  refine At.reg rfl ?_
  refine Run.mv (h := ?_)
  refine Run.call Tb.N71 (hc := ralive (Cel.own (k := 0) (by first | exact Pick.here | apply Pick.there; exact Pick.here) rfl)) (h := ?_)
  rintro _ _ ⟨rfl, rfl⟩
  refine Run.not (h := ?_)
  refine Run.fin ?_
  refine At.condF (hx := by rfl) ?_
  refine At.skip ?_
  refine At.seq ?_
  refine At.seq ?_
  refine At.draw [(0, 0), (1, 0), (2, 0), (5, 0), (6, 0), (7, 0), (10, 0), (3, 1), (4, 0), (8, 1), (9, 0), (11, 0)] Tb.mixed (by kernel_rfl) ?_
  refine Run.mv (h := ?_)
  refine Run.ncp (h := ?_)
  refine Run.fa Tb.F129_1 (h := ?_)
  refine Run.mv (h := ?_)
  refine Run.ncp (h := ?_)
  refine Run.fa Tb.F129_2 (h := ?_)
  refine Run.mv (h := ?_)
  refine Run.ld Tb.A23 (h := ?_)
  refine Run.len Tb.L23 (h := ?_)
  refine Run.ld Tb.A3 (h := ?_)
  refine Run.sub (h := ?_)
  refine Run.eqi (b := ((bs.length - p : Nat) : Int)) (by rw [wi64 (by omega) (by omega)]; omega) ?_
  refine Run.lt (h := ?_)
  refine Run.fin ?_
  refine At.cnd' (ht := fun hc23 => ?_) (hf := fun hc23 => ?_)
  · skip
    exact absurd hc23 (by omega)
  · skip
    refine At.skip ?_
    refine At.seq ?_
    refine At.reg rfl ?_
    refine Run.as (h := ?_)
    refine Run.fin ?_
    refine At.seq ?_
    refine At.seq ?_
    refine At.draw [(0, 0), (1, 0), (2, 0), (4, 0), (5, 0), (6, 0), (8, 0), (9, 0), (10, 0), (12, 0), (16, 0), (3, 1), (7, 1), (11, 1), (13, 0), (14, 0), (15, 0)] Tb.mixed (by kernel_rfl) ?_
    refine Run.mv (h := ?_)
    refine Run.ncp (h := ?_)
    refine Run.fa Tb.F129_1 (h := ?_)
    refine Run.mv (h := ?_)
    refine Run.ncp (h := ?_)
    refine Run.fa Tb.F129_2 (h := ?_)
    refine Run.mv (h := ?_)
    refine Run.ncp (h := ?_)
    refine Run.fa Tb.F129_2 (h := ?_)
    refine Run.mv (h := ?_)
    refine Run.mv (h := ?_)
    refine Run.ld Tb.A23 (h := ?_)
    refine Run.ld Tb.A3 (h := ?_)
    refine Run.ld Tb.A3 (h := ?_)
    refine Run.add (h := ?_)
    refine Run.eqi (b := ((p + n : Nat) : Int)) (by rw [wi64 (by omega) (by omega)]; omega) ?_
    refine Run.sl Tb.L23 (h0 := by omega) (h1 := by omega) (h2 := by omega) (hs := hsp) (hr := ?_)
    refine Run.len Tb.L23 (h := ?_)
    refine Run.eqi (b := (n : Int)) (by omega) ?_
    refine Run.fin ?_
    refine At.block ?_
    refine At.loop (α := Nat) (fun k => ⟨[(0, .pointer (some ⟨g, 0, none⟩)), (1, .int .i64 n), (6, .int .u64 (bval (((bs.take (p + n)).drop p).take k))), (38, .slice (cutA ao p 1 cp) ((p + n) - p) (cp - p)), (39, .int .i64 n), (40, .int .i64 k)], cel g 129 [.bool true, .slice ao bs.length cp, .int .i64 p] :: row 5 1 ao cp (ints .u8 bs) :: F, []⟩) (fun k => k ≤ n) (fun k => n - k) (0) (Nat.zero_le _) (Ent.of (by repeat (first | exact SubE.nil | refine SubE.cons (by first | rfl | (show some _ = some _; simp; done)) ?_)) (by repeat (first | exact SubL.refl | refine SubL.cons (by repeat (first | exact Pick.here | apply Pick.there)) ?_ | refine SubL.skip ?_ | exact SubL.nil))) (fun k hx => ?_)
    have hlen : (((bs.take (p + n)).drop p).take k).length = k := by simp; omega
    have hlen2 : ((bs.take (p + n)).drop p).length = n := by simp; omega
    have hyc : Byt ((bs.take (p + n)).drop p) := hy.take.drop
    have hcut : RdS w0 (cel g 129 [.bool true, .slice ao bs.length cp, .int .i64 p] :: row 5 1 ao cp (ints .u8 bs) :: F) 1 (cutA ao p 1 cp) (ints .u8 ((bs.take (p + n)).drop p)) := by rw [← ints_drop, ← ints_take]; exact (hR0 (by repeat (first | exact Pick.here | apply Pick.there))).cut (by simpa using hcp) (by simp; omega)
    refine At.seq ?_
    
    refine At.reg rfl ?_
    refine Run.lt (h := ?_)
    refine Run.fin ?_
    refine At.seq ?_
    refine At.cnd' (ht := fun hc3 => ?_) (hf := fun hc3 => ?_)
    · skip
      refine At.skip ?_
      refine At.seq ?_
      refine At.block ?_
      refine At.seq ?_
      refine At.reg rfl ?_
      refine Run.iaR (ht := Tb.L23) (hR := hcut.sub) (hj := rfl) (h1 := by simp; omega) (hn := by omega) (h := ?_)
      refine Run.ldr0 (ht := Tb.A5) (hR := hcut.sub) (hj := ints_at (by omega)) (h := ?_)
      refine Run.as (h := ?_)
      refine Run.fin ?_
      refine At.reg rfl ?_
      refine Run.mv (h := ?_)
      refine Run.shl (hb := by omega) (h := ?_)
      refine Run.mv (h := ?_)
      refine Run.cv Tb.I5 Tb.I22 (h := ?_)
      refine Run.bit (op := .or) (hop := by simp) (h := ?_)
      have hv := bval_56 (hyc.take (n := k)) (by omega)
      have hbk := hyc.at k
      refine Run.eqi (b := bval (((bs.take (p + n)).drop p).take (k + 1))) (by rw [or8w hv.1 hv.2 hbk.1 hbk.2, ← bval_snoc, take_snoc (by omega)]) ?_
      refine Run.as (h := ?_)
      refine Run.fin ?_
      refine At.inb_norm ?_
      refine At.reg rfl ?_
      refine Run.add (h := ?_)
      refine Run.eqi (b := ((k + 1 : Nat) : Int)) (by rw [wi64 (by omega) (by omega)]; omega) ?_
      refine Run.mv (h := ?_)
      refine Run.fin ?_
      exact At.again (k + 1) (by omega) (by omega)
    · skip
      refine At.exit ?_
      refine At.then_exit ?_
      refine At.then_exit ?_
      refine At.inb_hit ?_
      refine At.seq ?_
      obtain rfl : n = k := by omega
      refine At.reg rfl ?_
      refine Run.mv (h := ?_)
      refine Run.ncp (h := ?_)
      refine Run.fa Tb.F129_2 (h := ?_)
      refine Run.ld Tb.A3 (h := ?_)
      refine Run.mv (h := ?_)
      refine Run.add (h := ?_)
      refine Run.eqi (b := ((p + n : Nat) : Int)) (by rw [wi64 (by omega) (by omega)]; omega) ?_
      refine Run.ncp (h := ?_)
      refine Run.fa Tb.F129_2 (h := ?_)
      refine Run.st Tb.S3 (h := ?_)
      refine Run.fin ?_
      refine At.seq ?_
      refine At.reg rfl ?_
      refine Run.mv (h := ?_)
      refine Run.as (h := ?_)
      refine Run.as (h := ?_)
      refine Run.fin ?_
      refine At.ret ?_
      refine rdClose (ao := ao) (cp := cp) (bs := bs) (at' := p + n) (F := F) ?_ (by repeat (first | exact SubL.refl | refine SubL.cons (by repeat (first | exact Pick.here | apply Pick.there)) ?_ | refine SubL.skip ?_ | exact SubL.nil))
      exact At.done (hΦ := by exact ⟨by rw [List.take_of_length_le (by simp; omega)]; rfl, rfl⟩)
theorem rU64 {w0 : World} {L : List HP} {g p : Nat} {bs : List Int} {F : List HP} (hp : Pick L (Rdr g bs p) F) (hy : Byt bs) (hle : bs.length ≤ 1099511627776) (hat : p + 8 ≤ bs.length) :
    CallOk Tb.P w0 L 48 [.pointer (some ⟨g, 0, none⟩)] fun u L' => u = .tuple #[.int .u64 (bval ((bs.take (p + 8)).drop p)), .int .i64 0] ∧ L' = Rdr g bs (p + 8) :: F := by
  refine enter Try.func48 rfl Try.ntmps48 (Nat.le_of_ble_eq_true rfl) ?_
  refine At.seq ?_
  refine At.reg rfl ?_
  refine Run.as (h := ?_)
  refine Run.as (h := ?_)
  refine Run.fin ?_
  refine At.seq ?_
  refine At.reg rfl ?_
  refine Run.mv (h := ?_)
  refine Run.call Tb.N67 (hc := rnumber (n := 8) hp hy (by omega) hle hat) (h := ?_)
  rintro _ _ ⟨rfl, rfl⟩
  refine Run.ex (h := ?_)
  refine Run.ex (h := ?_)
  refine Run.as (h := ?_)
  refine Run.as (h := ?_)
  refine Run.fin ?_
  refine At.ret ?_
  exact At.done (hΦ := by exact ⟨rfl, rfl⟩)
theorem rU32 {w0 : World} {L : List HP} {g p : Nat} {bs : List Int} {F : List HP} (hp : Pick L (Rdr g bs p) F) (hy : Byt bs) (hle : bs.length ≤ 1099511627776) (hat : p + 4 ≤ bs.length) :
    CallOk Tb.P w0 L 69 [.pointer (some ⟨g, 0, none⟩)] fun u L' => u = .tuple #[.int .u32 (bval ((bs.take (p + 4)).drop p)), .int .i64 0] ∧ L' = Rdr g bs (p + 4) :: F := by
  refine enter Try.func69 rfl Try.ntmps69 (Nat.le_of_ble_eq_true rfl) ?_
  refine At.seq ?_
  refine At.reg rfl ?_
  refine Run.as (h := ?_)
  refine Run.as (h := ?_)
  refine Run.fin ?_
  refine At.seq ?_
  refine At.reg rfl ?_
  refine Run.mv (h := ?_)
  refine Run.call Tb.N67 (hc := rnumber (n := 4) hp hy (by omega) hle hat) (h := ?_)
  rintro _ _ ⟨rfl, rfl⟩
  refine Run.mv (h := ?_)
  refine Run.ex (h := ?_)
  refine Run.ex (h := ?_)
  refine Run.as (h := ?_)
  refine Run.as (h := ?_)
  refine Run.fin ?_
  refine At.seq ?_
  refine At.reg rfl ?_
  refine Run.mv (h := ?_)
  refine Run.cvf Tb.I22 Tb.I90 (hw := by have h := bval_u32 hy.take.drop (part_len (l := bs) (p := p) (n := 4)); exact wu32 h.1 h.2) (h := ?_)
  refine Run.mv (h := ?_)
  refine Run.as (h := ?_)
  refine Run.as (h := ?_)
  refine Run.fin ?_
  refine At.ret ?_
  exact At.done (hΦ := by exact ⟨rfl, rfl⟩)
theorem rU8 {w0 : World} {L : List HP} {g p : Nat} {bs : List Int} {F : List HP} (hp : Pick L (Rdr g bs p) F) (hy : Byt bs) (hle : bs.length ≤ 1099511627776) (hat : p + 1 ≤ bs.length) :
    CallOk Tb.P w0 L 70 [.pointer (some ⟨g, 0, none⟩)] fun u L' => u = .tuple #[.int .u8 (bval ((bs.take (p + 1)).drop p)), .int .i64 0] ∧ L' = Rdr g bs (p + 1) :: F := by
  refine enter Try.func70 rfl Try.ntmps70 (Nat.le_of_ble_eq_true rfl) ?_
  refine At.seq ?_
  refine At.reg rfl ?_
  refine Run.as (h := ?_)
  refine Run.as (h := ?_)
  refine Run.fin ?_
  refine At.seq ?_
  refine At.reg rfl ?_
  refine Run.mv (h := ?_)
  refine Run.call Tb.N67 (hc := rnumber (n := 1) hp hy (by omega) hle hat) (h := ?_)
  rintro _ _ ⟨rfl, rfl⟩
  refine Run.mv (h := ?_)
  refine Run.ex (h := ?_)
  refine Run.ex (h := ?_)
  refine Run.as (h := ?_)
  refine Run.as (h := ?_)
  refine Run.fin ?_
  refine At.seq ?_
  refine At.reg rfl ?_
  refine Run.mv (h := ?_)
  refine Run.cvf Tb.I22 Tb.I5 (hw := by have h := bval_u8 hy.take.drop (part_len (l := bs) (p := p) (n := 1)); exact wu8 h.1 h.2) (h := ?_)
  refine Run.mv (h := ?_)
  refine Run.as (h := ?_)
  refine Run.as (h := ?_)
  refine Run.fin ?_
  refine At.ret ?_
  exact At.done (hΦ := by exact ⟨rfl, rfl⟩)
theorem rleft {w0 : World} {L : List HP} {g p : Nat} {bs : List Int} {F : List HP} (hp : Pick L (Rdr g bs p) F) (hle : bs.length ≤ 1099511627776) (hat : p ≤ bs.length) :
    CallOk Tb.P w0 L 51 [.pointer (some ⟨g, 0, none⟩)] fun u L' => u = .int .i64 ((bs.length - p : Nat) : Int) ∧ L' = Rdr g bs p :: F := by
  refine enter Try.func51 rfl Try.ntmps51 (Nat.le_of_ble_eq_true rfl) ?_
  refine rdOpen hp fun ao cp => ?_
  refine At.rows (hp := by repeat (first | exact Pick.here | apply Pick.there)) (fun hE hB hsp hcp _ _ => ?_)
  have hR0 : ∀ {L' F' : List HP} {cp' : Nat}, Pick L' (row 5 1 ao cp' (ints .u8 bs)) F' → RdS w0 L' 1 ao (ints .u8 bs) := fun hp' => RdS.own hp' ⟨hE, hB, hsp⟩
  have hcp2 : bs.length ≤ cp := by simpa using hcp
  refine At.seq ?_
  refine At.reg rfl ?_
  refine Run.as (h := ?_)
  refine Run.fin ?_
  refine At.seq ?_
  refine At.seq ?_
  refine At.reg rfl ?_
  refine Run.mv (h := ?_)
  refine Run.call Tb.N71 (hc := ralive (Cel.own (k := 0) (by first | exact Pick.here | apply Pick.there; exact Pick.here) rfl)) (h := ?_)
  rintro _ _ ⟨rfl, rfl⟩
  refine Run.not (h := ?_)
  refine Run.fin ?_
  refine At.condF (hx := by rfl) ?_
  refine At.skip ?_
  refine At.seq ?_
  refine At.draw [(0, 0), (1, 0), (2, 0), (5, 0), (6, 0), (7, 0), (3, 1), (4, 0), (8, 1), (9, 0), (10, 0)] Tb.mixed (by kernel_rfl) ?_
  refine Run.mv (h := ?_)
  refine Run.ncp (h := ?_)
  refine Run.fa Tb.F129_1 (h := ?_)
  refine Run.mv (h := ?_)
  refine Run.ncp (h := ?_)
  refine Run.fa Tb.F129_2 (h := ?_)
  refine Run.ld Tb.A23 (h := ?_)
  refine Run.len Tb.L23 (h := ?_)
  refine Run.ld Tb.A3 (h := ?_)
  refine Run.sub (h := ?_)
  refine Run.eqi (b := ((bs.length - p : Nat) : Int)) (by rw [wi64 (by omega) (by omega)]; omega) ?_
  refine Run.as (h := ?_)
  refine Run.fin ?_
  refine At.ret ?_
  refine rdClose (ao := ao) (cp := cp) (bs := bs) (at' := p) (F := F) ?_ (by repeat (first | exact SubL.refl | refine SubL.cons (by repeat (first | exact Pick.here | apply Pick.there)) ?_ | refine SubL.skip ?_ | exact SubL.nil))
  exact At.done (hΦ := by exact ⟨rfl, rfl⟩)
theorem rraw {w0 : World} {L : List HP} {g p : Nat} {bs : List Int} {F : List HP} {n : Nat} (hp : Pick L (Rdr g bs p) F) (hle : bs.length ≤ 1099511627776) (hat : p + n ≤ bs.length) :
    CallOk Tb.P w0 L 68 [.pointer (some ⟨g, 0, none⟩), .int .i64 n] fun u L' => ∃ q, u = .tuple #[.slice (some ⟨q, 0, none⟩) n n, .int .i64 0] ∧ L' = row 5 1 (some ⟨q, 0, none⟩) n (ints .u8 ((bs.take (p + n)).drop p)) :: Rdr g bs (p + n) :: F := by
  refine enter Try.func68 rfl Try.ntmps68 (Nat.le_of_ble_eq_true rfl) ?_
  refine rdOpen hp fun ao cp => ?_
  refine At.rows (hp := by repeat (first | exact Pick.here | apply Pick.there)) (fun hE hB hsp hcp _ _ => ?_)
  have hR0 : ∀ {L' F' : List HP} {cp' : Nat}, Pick L' (row 5 1 ao cp' (ints .u8 bs)) F' → RdS w0 L' 1 ao (ints .u8 bs) := fun hp' => RdS.own hp' ⟨hE, hB, hsp⟩
  have hcp2 : bs.length ≤ cp := by simpa using hcp
  refine At.seq ?_
  refine At.reg rfl ?_
  refine Run.as (h := ?_)
  refine Run.as (h := ?_)
  refine Run.fin ?_
  refine At.seq ?_
  refine At.block ?_
  refine At.seq ?_
  refine At.reg rfl ?_
  refine Run.mv (h := ?_)
  refine Run.call Tb.N71 (hc := ralive (Cel.own (k := 0) (by first | exact Pick.here | apply Pick.there; exact Pick.here) rfl)) (h := ?_)
  rintro _ _ ⟨rfl, rfl⟩
  refine Run.not (h := ?_)
  refine Run.as (h := ?_)
  refine Run.fin ?_
  refine At.condF (hx := by rfl) ?_
  refine At.seq ?_
  refine At.reg rfl ?_
  refine Run.mv (h := ?_)
  refine Run.lt (h := ?_)
  refine Run.as (h := ?_)
  refine Run.fin ?_
  refine At.cnd' (ht := fun hc10 => ?_) (hf := fun hc10 => ?_)
  · skip
    exact absurd hc10 (by omega)
  · skip
    refine At.seq ?_
    refine At.draw [(0, 0), (1, 0), (2, 0), (5, 0), (6, 0), (7, 0), (10, 0), (3, 1), (4, 0), (8, 1), (9, 0), (11, 0), (12, 0)] Tb.mixed (by kernel_rfl) ?_
    refine Run.mv (h := ?_)
    refine Run.ncp (h := ?_)
    refine Run.fa Tb.F129_1 (h := ?_)
    refine Run.mv (h := ?_)
    refine Run.ncp (h := ?_)
    refine Run.fa Tb.F129_2 (h := ?_)
    refine Run.mv (h := ?_)
    refine Run.ld Tb.A23 (h := ?_)
    refine Run.len Tb.L23 (h := ?_)
    refine Run.ld Tb.A3 (h := ?_)
    refine Run.sub (h := ?_)
    refine Run.eqi (b := ((bs.length - p : Nat) : Int)) (by rw [wi64 (by omega) (by omega)]; omega) ?_
    refine Run.lt (h := ?_)
    refine Run.as (h := ?_)
    refine Run.fin ?_
    refine At.cnd' (ht := fun hc13 => ?_) (hf := fun hc13 => ?_)
    · skip
      exact absurd hc13 (by omega)
    · skip
      refine At.skip ?_
      refine At.inb_norm ?_
      refine At.seq ?_
      refine At.reg rfl ?_
      refine Run.mv (h := ?_)
      refine Run.ncp (h := ?_)
      refine Run.fa Tb.F129_2 (h := ?_)
      refine Run.ld Tb.A3 (h := ?_)
      refine Run.mv (h := ?_)
      refine Run.add (h := ?_)
      refine Run.eqi (b := ((p + n : Nat) : Int)) (by rw [wi64 (by omega) (by omega)]; omega) ?_
      refine Run.ncp (h := ?_)
      refine Run.fa Tb.F129_2 (h := ?_)
      refine Run.st Tb.S3 (h := ?_)
      refine Run.fin ?_
      refine At.seq ?_
      refine At.draw [(0, 0), (1, 0), (2, 0), (4, 0), (5, 0), (6, 0), (8, 0), (10, 0), (11, 0), (12, 0), (3, 1), (7, 1), (9, 0), (13, 1), (14, 0), (15, 3), (16, 0), (17, 0)] Tb.mixed (by kernel_rfl) ?_
      refine Run.mv (h := ?_)
      refine Run.ncp (h := ?_)
      refine Run.fa Tb.F129_1 (h := ?_)
      refine Run.mv (h := ?_)
      refine Run.ncp (h := ?_)
      refine Run.fa Tb.F129_2 (h := ?_)
      refine Run.mv (h := ?_)
      refine Run.mv (h := ?_)
      refine Run.ncp (h := ?_)
      refine Run.fa Tb.F129_2 (h := ?_)
      refine Run.ld Tb.A23 (h := ?_)
      refine Run.ld Tb.A3 (h := ?_)
      refine Run.sub (h := ?_)
      refine Run.eqi (b := (p : Int)) (by rw [wi64 (by omega) (by omega)]; omega) ?_
      refine Run.ld Tb.A3 (h := ?_)
      refine Run.sl Tb.L23 (h0 := by omega) (h1 := by omega) (h2 := by omega) (hs := hsp) (hr := ?_)
      refine Run.call Tb.N66 (hc := copied (n := (p + n) - p) (bs := (bs.take (p + n)).drop p) (by rw [← ints_drop, ← ints_take]; exact (hR0 (by repeat (first | exact Pick.here | apply Pick.there))).cut (by simpa using hcp) (by simp; omega)) (by simp; omega) (by omega)) (hin := fun _ => ⟨_, _, 0, rfl, rfl⟩) (hk := noun (by kernel_rfl)) (h := ?_)
      rintro _ _ ⟨q, rfl, rfl⟩
      rw [show p + n - p = n by omega]
      refine Run.as (h := ?_)
      refine Run.as (h := ?_)
      refine Run.fin ?_
      refine At.ret ?_
      refine At.chunks (L' := row 5 1 (some ⟨q, 0, none⟩) n (ints .u8 ((bs.take (p + n)).drop p)) :: Rdr g bs (p + n) :: F) (fun _ hf => Star.cons_mono (fun _ h => Star.exi_intro (ao, cp) h) hf) ?_
      exact At.done (hΦ := by exact ⟨q, rfl, rfl⟩)
theorem rcrc {w0 : World} {L : List HP} {ao : Option Addr} {n cp : Nat} {bs : List Int} (hb : RdS w0 L 1 ao (ints .u8 bs)) (hn : n = bs.length) (hle : n ≤ 1099511627776) (hy : Byt bs) :
    CallOk Tb.P w0 L 44 [.slice ao n cp] fun u L' => u = .int .u32 (crcv bs) ∧ L' = L := by
  refine enter Try.func44 rfl Try.ntmps44 (Nat.le_of_ble_eq_true rfl) ?_
  refine At.seq ?_
  refine At.reg rfl ?_
  refine Run.as (h := ?_)
  refine Run.fin ?_
  refine At.seq ?_
  refine At.reg rfl ?_
  refine Run.as (h := ?_)
  refine Run.fin ?_
  refine At.seq ?_
  refine At.seq ?_
  refine At.reg rfl ?_
  refine Run.as (h := ?_)
  refine Run.fin ?_
  refine At.block ?_
  refine At.loop (α := Nat) (fun k => ⟨[(0, .slice ao n cp), (3, .int .u32 (crcF (bs.take k))), (4, .int .i64 k)], L, []⟩) (fun k => k ≤ n) (fun k => n - k) (0) (Nat.zero_le _) (Ent.of (by repeat (first | exact SubE.nil | refine SubE.cons (by first | rfl | (show some _ = some _; simp; done)) ?_)) (by repeat (first | exact SubL.refl | refine SubL.cons (by repeat (first | exact Pick.here | apply Pick.there)) ?_ | refine SubL.skip ?_ | exact SubL.nil))) (fun k hx => ?_)
  have hr := crcF_range (bs.take k)
  refine At.seq ?_
  refine At.seq ?_
  refine At.reg rfl ?_
  refine Run.mv (h := ?_)
  refine Run.mv (h := ?_)
  refine Run.len Tb.L23 (h := ?_)
  refine Run.lt (h := ?_)
  refine Run.fin ?_
  refine At.cnd' (ht := fun hc1 => ?_) (hf := fun hc1 => ?_)
  · skip
    refine At.skip ?_
    refine At.seq ?_
    refine At.block ?_
    refine At.seq ?_
    refine At.reg rfl ?_
    refine Run.mv (h := ?_)
    refine Run.mv (h := ?_)
    refine Run.mv (h := ?_)
    refine Run.iaR (ht := Tb.L23) (hR := hb) (hj := rfl) (h1 := by simp; omega) (hn := by omega) (h := ?_)
    refine Run.ldr0 (ht := Tb.A5) (hR := hb) (hj := ints_at (by omega)) (h := ?_)
    refine Run.cvf Tb.I5 Tb.I90 (hw := by have h := hy.at k; exact wu32 h.1 (by omega)) (h := ?_)
    refine Run.bit (op := .xor) (hop := by simp) (h := ?_)
    refine Run.as (h := ?_)
    refine Run.fin ?_
    refine At.seq ?_
    refine At.reg rfl ?_
    refine Run.as (h := ?_)
    refine Run.fin ?_
    refine At.block ?_
    refine At.loop (α := Nat) (fun m => ⟨[(0, .slice ao n cp), (3, .int .u32 (crc8 (bits .xor .u32 (crcF (bs.take k)) (bs.getD k 0)) m)), (4, .int .i64 k), (5, .int .i64 m)], L, []⟩) (fun m => m ≤ 8) (fun m => 8 - m) (0) (Nat.zero_le _) (Ent.of (by repeat (first | exact SubE.nil | refine SubE.cons (by first | rfl | (show some _ = some _; simp; done)) ?_)) (by repeat (first | exact SubL.refl | refine SubL.cons (by repeat (first | exact Pick.here | apply Pick.there)) ?_ | refine SubL.skip ?_ | exact SubL.nil))) (fun m hm => ?_)
    have hr8 := crc8_range (bits_range .xor (crcF (bs.take k)) (bs.getD k 0)) m
    refine At.seq ?_
    refine At.seq ?_
    refine At.reg rfl ?_
    refine Run.mv (h := ?_)
    refine Run.lt (h := ?_)
    refine Run.fin ?_
    refine At.cnd' (ht := fun hc2 => ?_) (hf := fun hc2 => ?_)
    · skip
      refine At.skip ?_
      refine At.seq ?_
      refine At.block ?_
      refine At.seq ?_
      refine At.reg rfl ?_
      refine Run.mv (h := ?_)
      refine Run.bit (op := .and) (hop := by simp) (h := ?_)
      refine Run.eqi (b := _) (and1 hr8) ?_
      refine Run.as (h := ?_)
      refine Run.fin ?_
      refine At.seq ?_
      refine At.reg rfl ?_
      refine Run.mv (h := ?_)
      refine Run.shr (hb := by omega) (h := ?_)
      refine Run.eqi (b := _) (shrC _) ?_
      refine Run.as (h := ?_)
      refine Run.fin ?_
      refine At.seq ?_
      refine At.reg rfl ?_
      refine Run.mv (h := ?_)
      refine Run.eq (h := ?_)
      refine Run.fin ?_
      refine At.cnd' (ht := fun hc3 => ?_) (hf := fun hc3 => ?_)
      · skip
        refine At.reg rfl ?_
        refine Run.mv (h := ?_)
        refine Run.bit (op := .xor) (hop := by simp) (h := ?_)
        refine Run.eqi (b := crc8 (bits .xor .u32 (crcF (bs.take k)) (bs.getD k 0)) (m + 1)) (crc1_odd hc3) ?_
        refine Run.as (h := ?_)
        refine Run.fin ?_
        refine At.inb_norm ?_
        refine At.reg rfl ?_
        refine Run.mv (h := ?_)
        refine Run.add (h := ?_)
        refine Run.eqi (b := ((m + 1 : Nat) : Int)) (by rw [wi64 (by omega) (by omega)]; omega) ?_
        refine Run.as (h := ?_)
        refine Run.fin ?_
        exact At.again (m + 1) (by omega) (by omega)
      · skip
        refine At.say 3 (.int .u32 (crc8 (bits .xor .u32 (crcF (bs.take k)) (bs.getD k 0)) (m + 1))) (e := congrArg _ (crc1_even hc3)) (h := ?_)
        refine At.skip ?_
        refine At.inb_norm ?_
        refine At.reg rfl ?_
        refine Run.mv (h := ?_)
        refine Run.add (h := ?_)
        refine Run.eqi (b := ((m + 1 : Nat) : Int)) (by rw [wi64 (by omega) (by omega)]; omega) ?_
        refine Run.as (h := ?_)
        refine Run.fin ?_
        exact At.again (m + 1) (by omega) (by omega)
    · skip
      refine At.exit ?_
      refine At.then_exit ?_
      refine At.then_exit ?_
      refine At.inb_hit ?_
      refine At.inb_norm ?_
      obtain rfl : m = 8 := by omega
      refine At.say 3 (.int .u32 (crcF (bs.take (k + 1)))) (e := congrArg _ (by rw [← take_snoc (by omega), crcF_snoc])) (h := ?_)
      refine At.reg rfl ?_
      refine Run.mv (h := ?_)
      refine Run.add (h := ?_)
      refine Run.eqi (b := ((k + 1 : Nat) : Int)) (by rw [wi64 (by omega) (by omega)]; omega) ?_
      refine Run.as (h := ?_)
      refine Run.fin ?_
      exact At.again (k + 1) (by omega) (by omega)
  · skip
    refine At.exit ?_
    refine At.then_exit ?_
    refine At.then_exit ?_
    refine At.inb_hit ?_
    refine At.seq ?_
    refine At.reg rfl ?_
    refine Run.mv (h := ?_)
    refine Run.com (h := ?_)
    refine Run.as (h := ?_)
    refine Run.fin ?_
    refine At.ret ?_
    
    exact At.done (hΦ := by exact ⟨congrArg (fun l => Value.int .u32 (crcv l)) (List.take_of_length_le (by omega)), rfl⟩)
theorem crc {w0 : World} {L : List HP} {ao : Option Addr} {n cp : Nat} {bs : List Int} {po : Option Addr} {pc : Nat} (hb : RdS w0 L 1 ao (ints .u8 bs)) (hp : RdS w0 L 1 po [[.slice ao n cp]]) (hn : n = bs.length) (hle : n ≤ 1099511627776) (hy : Byt bs) :
    CallOk Tb.P w0 L 64 [.slice po 1 pc] fun u L' => u = .int .u32 (crcv bs) ∧ L' = L := by
  refine enter Try.func64 rfl Try.ntmps64 (Nat.le_of_ble_eq_true rfl) ?_
  refine At.seq ?_
  refine At.reg rfl ?_
  refine Run.as (h := ?_)
  refine Run.fin ?_
  refine At.seq ?_
  refine At.reg rfl ?_
  refine Run.as (h := ?_)
  refine Run.fin ?_
  refine At.seq ?_
  refine At.seq ?_
  refine At.reg rfl ?_
  refine Run.mv (h := ?_)
  refine Run.len Tb.L39 (h := ?_)
  refine Run.mv (h := ?_)
  refine Run.fin ?_
  refine At.block ?_
  refine At.loop (α := Nat) (fun j => ⟨[(9, .slice po 1 pc), (10, .int .i64 1), (11, .int .i64 j), (3, .int .u32 (if j = 0 then 4294967295 else crcF bs))], L, []⟩) (fun j => j ≤ 1) (fun j => 1 - j) (0) (Nat.zero_le _) (Ent.of (by repeat (first | exact SubE.nil | refine SubE.cons (by first | rfl | (show some _ = some _; simp; done)) ?_)) (by repeat (first | exact SubL.refl | refine SubL.cons (by repeat (first | exact Pick.here | apply Pick.there)) ?_ | refine SubL.skip ?_ | exact SubL.nil))) (fun j hj => ?_)
  refine At.seq ?_
  refine At.reg rfl ?_
  refine Run.lt (h := ?_)
  refine Run.fin ?_
  refine At.seq ?_
  refine At.cnd' (ht := fun hcj => ?_) (hf := fun hcj => ?_)
  · skip
    obtain rfl : j = 0 := by omega
    refine At.skip ?_
    refine At.seq ?_
    refine At.block ?_
    refine At.seq ?_
    refine At.reg rfl ?_
    refine Run.iaR (ht := Tb.L39) (hR := hp) (hj := rfl) (h1 := by simp) (hn := by omega) (h := ?_)
    refine Run.ldr0 (ht := Tb.A23) (hR := hp) (hj := by rfl) (h := ?_)
    refine Run.as (h := ?_)
    refine Run.fin ?_
    refine At.seq ?_
    refine At.reg rfl ?_
    refine Run.mv (h := ?_)
    refine Run.len Tb.L23 (h := ?_)
    refine Run.mv (h := ?_)
    refine Run.fin ?_
    refine At.block ?_
    refine At.loop (α := Nat) (fun k => ⟨[(9, .slice po 1 pc), (10, .int .i64 1), (11, .int .i64 (0 : Nat)), (15, .slice ao n cp), (16, .int .i64 n), (17, .int .i64 k), (3, .int .u32 (crcF (bs.take k)))], L, []⟩) (fun k => k ≤ n) (fun k => n - k) (0) (Nat.zero_le _) (Ent.of (by repeat (first | exact SubE.nil | refine SubE.cons (by first | rfl | (show some _ = some _; simp; done)) ?_)) (by repeat (first | exact SubL.refl | refine SubL.cons (by repeat (first | exact Pick.here | apply Pick.there)) ?_ | refine SubL.skip ?_ | exact SubL.nil))) (fun k hx => ?_)
    have hr := crcF_range (bs.take k)
    refine At.seq ?_
    refine At.reg rfl ?_
    refine Run.lt (h := ?_)
    refine Run.fin ?_
    refine At.seq ?_
    refine At.cnd' (ht := fun hc2 => ?_) (hf := fun hc2 => ?_)
    · skip
      refine At.skip ?_
      refine At.seq ?_
      refine At.block ?_
      refine At.seq ?_
      refine At.reg rfl ?_
      refine Run.iaR (ht := Tb.L23) (hR := hb) (hj := rfl) (h1 := by simp; omega) (hn := by omega) (h := ?_)
      refine Run.ldr0 (ht := Tb.A5) (hR := hb) (hj := ints_at (by omega)) (h := ?_)
      refine Run.as (h := ?_)
      refine Run.fin ?_
      refine At.seq ?_
      refine At.reg rfl ?_
      refine Run.mv (h := ?_)
      refine Run.mv (h := ?_)
      refine Run.cvf Tb.I5 Tb.I90 (hw := by have h := hy.at k; exact wu32 h.1 (by omega)) (h := ?_)
      refine Run.bit (op := .xor) (hop := by simp) (h := ?_)
      refine Run.as (h := ?_)
      refine Run.fin ?_
      refine At.seq ?_
      refine At.reg rfl ?_
      refine Run.mv (h := ?_)
      refine Run.fin ?_
      refine At.block ?_
      refine At.loop (α := Nat) (fun m => ⟨[(9, .slice po 1 pc), (10, .int .i64 1), (11, .int .i64 (0 : Nat)), (15, .slice ao n cp), (16, .int .i64 n), (17, .int .i64 k), (3, .int .u32 (crc8 (bits .xor .u32 (crcF (bs.take k)) (bs.getD k 0)) m)), (25, .int .i64 m)], L, []⟩) (fun m => m ≤ 8) (fun m => 8 - m) (0) (Nat.zero_le _) (Ent.of (by repeat (first | exact SubE.nil | refine SubE.cons (by first | rfl | (show some _ = some _; simp; done)) ?_)) (by repeat (first | exact SubL.refl | refine SubL.cons (by repeat (first | exact Pick.here | apply Pick.there)) ?_ | refine SubL.skip ?_ | exact SubL.nil))) (fun m hm => ?_)
      have hr8 := crc8_range (bits_range .xor (crcF (bs.take k)) (bs.getD k 0)) m
      refine At.seq ?_
      refine At.reg rfl ?_
      refine Run.lt (h := ?_)
      refine Run.fin ?_
      refine At.seq ?_
      refine At.cnd' (ht := fun hc3 => ?_) (hf := fun hc3 => ?_)
      · skip
        refine At.skip ?_
        refine At.seq ?_
        refine At.block ?_
        refine At.seq ?_
        refine At.reg rfl ?_
        refine Run.mv (h := ?_)
        refine Run.bit (op := .and) (hop := by simp) (h := ?_)
        refine Run.eqi (b := _) (and1 hr8) ?_
        refine Run.as (h := ?_)
        refine Run.fin ?_
        refine At.reg rfl ?_
        refine Run.mv (h := ?_)
        refine Run.shr (hb := by omega) (h := ?_)
        refine Run.eqi (b := _) (shrC _) ?_
        refine Run.mv (h := ?_)
        refine Run.neg (h := ?_)
        refine Run.bit (op := .and) (hop := by simp) (h := ?_)
        refine Run.bit (op := .xor) (hop := by simp) (h := ?_)
        refine Run.eqi (b := crc8 (bits .xor .u32 (crcF (bs.take k)) (bs.getD k 0)) (m + 1)) (crc_alt hr8) ?_
        refine Run.as (h := ?_)
        refine Run.fin ?_
        refine At.inb_norm ?_
        refine At.reg rfl ?_
        refine Run.add (h := ?_)
        refine Run.eqi (b := ((m + 1 : Nat) : Int)) (by rw [wi64 (by omega) (by omega)]; omega) ?_
        refine Run.mv (h := ?_)
        refine Run.fin ?_
        exact At.again (m + 1) (by omega) (by omega)
      · skip
        refine At.exit ?_
        refine At.then_exit ?_
        refine At.then_exit ?_
        refine At.inb_hit ?_
        refine At.inb_norm ?_
        obtain rfl : m = 8 := by omega
        refine At.say 3 (.int .u32 (crcF (bs.take (k + 1)))) (e := congrArg _ (by rw [← take_snoc (by omega), crcF_snoc])) (h := ?_)
        refine At.reg rfl ?_
        refine Run.add (h := ?_)
        refine Run.eqi (b := ((k + 1 : Nat) : Int)) (by rw [wi64 (by omega) (by omega)]; omega) ?_
        refine Run.mv (h := ?_)
        refine Run.fin ?_
        exact At.again (k + 1) (by omega) (by omega)
    · skip
      refine At.exit ?_
      refine At.then_exit ?_
      refine At.then_exit ?_
      refine At.inb_hit ?_
      refine At.inb_norm ?_
      refine At.say 3 (.int .u32 (crcF bs)) (e := congrArg (fun l => Value.int .u32 (crcF l)) (List.take_of_length_le (by omega))) (h := ?_)
      refine At.reg rfl ?_
      refine Run.add (h := ?_)
      refine Run.eqi (b := ((1 : Nat) : Int)) (by rfl) ?_
      refine Run.mv (h := ?_)
      refine Run.fin ?_
      exact At.again (1) (Nat.le_refl _) (by omega)
  · skip
    obtain rfl : j = 1 := by omega
    refine At.exit ?_
    refine At.then_exit ?_
    refine At.then_exit ?_
    refine At.inb_hit ?_
    refine At.seq ?_
    refine At.reg rfl ?_
    refine Run.mv (h := ?_)
    refine Run.com (h := ?_)
    refine Run.as (h := ?_)
    refine Run.fin ?_
    refine At.ret ?_
    exact At.done (hΦ := by exact ⟨rfl, rfl⟩)
theorem clone {w0 : World} {L : List HP} {ao : Option Addr} {n cp : Nat} {bs : List Int} (hb : RdS w0 L 1 ao (ints .u8 bs)) (hn : n = bs.length) (hle : n ≤ 1099511627776) :
    CallOk Tb.P w0 L 60 [.slice ao n cp] fun u L' => ∃ ao' cp', u = .slice ao' n cp' ∧ L' = row 5 1 ao' cp' (ints .u8 bs) :: L := by
  refine enter Try.func60 rfl Try.ntmps60 (Nat.le_of_ble_eq_true rfl) ?_
  refine At.seq ?_
  refine At.reg rfl ?_
  refine Run.as (h := ?_)
  refine Run.fin ?_
  refine At.seq ?_
  refine At.seq ?_
  refine At.reg rfl ?_
  refine Run.mv (h := ?_)
  refine Run.eqV (h0 := .slcR Tb.I23) (h := ?_)
  refine Run.fin ?_
  refine At.cnd' (ht := fun hc4 => ?_) (hf := fun hc4 => ?_)
  · skip
    obtain rfl : ao = none := by cases ao <;> simp_all
    have hbs : bs = [] := by have := hb.base; simpa [ints] using this
    subst hbs
    subst hn
    refine At.seq ?_
    refine At.reg rfl ?_
    refine Run.as (h := ?_)
    refine Run.fin ?_
    refine At.ret ?_
    refine At.then_ret ?_
    refine At.chunks (L' := row 5 1 none 0 [] :: L) (fun _ h => Star.nilRow h) ?_
    exact At.done (hΦ := by exact ⟨none, 0, rfl, rfl⟩)
  · skip
    refine At.skip ?_
    refine At.seq ?_
    refine At.reg rfl ?_
    refine Run.bs Tb.G23 (h := fun g5 => ?_)
    refine Run.mv (h := ?_)
    refine Run.ap (ht := Tb.G23) (hR := hb.sub) (hm := by simp [hn]) (n2 := n) (l2 := ints .u8 bs) (hn2 := by simp [hn]) (hlen := by simp [maxLen]; omega) (hby := by simp; omega) (h := fun ao7 cp7 => ?_)
    refine Run.as (h := ?_)
    refine Run.fin ?_
    refine At.ret ?_
    exact At.done (hΦ := by exact ⟨ao7, cp7, rfl, rfl⟩)
theorem smax {w0 : World} {L : List HP} {ao : Option Addr} {n cp : Nat} {bs : List Int} (hb : RdS w0 L 1 ao (ints .u8 bs)) (hn : n = bs.length) (hle : n ≤ 1099511627776) (hne : 1 ≤ n) :
    CallOk Tb.P w0 L 59 [.slice ao n cp] fun u L' => u = .int .u8 (lmax bs) ∧ L' = L := by
  refine enter Try.func59 rfl Try.ntmps59 (Nat.le_of_ble_eq_true rfl) ?_
  refine At.seq ?_
  refine At.reg rfl ?_
  refine Run.as (h := ?_)
  refine Run.fin ?_
  refine At.seq ?_
  refine At.seq ?_
  refine At.reg rfl ?_
  refine Run.mv (h := ?_)
  refine Run.len Tb.L23 (h := ?_)
  refine Run.lt (h := ?_)
  refine Run.fin ?_
  refine At.cnd' (ht := fun hc7 => ?_) (hf := fun hc7 => ?_)
  · skip
    exact absurd hc7 (by omega)
  · skip
    refine At.skip ?_
    refine At.seq ?_
    refine At.reg rfl ?_
    refine Run.mv (h := ?_)
    refine Run.iaR (ht := Tb.L23) (hR := hb) (j := 0) (hj := rfl) (h1 := by simp; omega) (hn := by omega) (h := ?_)
    refine Run.ldr0 (ht := Tb.A5) (hR := hb) (hj := ints_at (by omega)) (h := ?_)
    refine Run.as (h := ?_)
    refine Run.fin ?_
    refine At.seq ?_
    refine At.seq ?_
    refine At.reg rfl ?_
    refine Run.as (h := ?_)
    refine Run.fin ?_
    refine At.block ?_
    refine At.loop (α := Nat) (fun k => ⟨[(0, .slice ao n cp), (3, .int .u8 (lmax (bs.take k))), (4, .int .i64 k)], L, []⟩) (fun k => 1 ≤ k ∧ k ≤ n) (fun k => n - k) (1) (⟨Nat.le_refl _, hne⟩) (Ent.of (by repeat (first | exact SubE.nil | refine SubE.cons (by first | rfl | (show some _ = some _; rw [lmax_one (by omega)]; done)) ?_)) (by repeat (first | exact SubL.refl | refine SubL.cons (by repeat (first | exact Pick.here | apply Pick.there)) ?_ | refine SubL.skip ?_ | exact SubL.nil))) (fun k hx => ?_)
    refine At.seq ?_
    refine At.seq ?_
    refine At.reg rfl ?_
    refine Run.mv (h := ?_)
    refine Run.mv (h := ?_)
    refine Run.len Tb.L23 (h := ?_)
    refine Run.lt (h := ?_)
    refine Run.fin ?_
    refine At.cnd' (ht := fun hc2 => ?_) (hf := fun hc2 => ?_)
    · skip
      refine At.skip ?_
      refine At.seq ?_
      refine At.block ?_
      refine At.reg rfl ?_
      refine Run.mv (h := ?_)
      refine Run.mv (h := ?_)
      refine Run.mv (h := ?_)
      refine Run.iaR (ht := Tb.L23) (hR := hb) (hj := rfl) (h1 := by simp; omega) (hn := by omega) (h := ?_)
      refine Run.ldr0 (ht := Tb.A5) (hR := hb) (hj := ints_at (by omega)) (h := ?_)
      refine Run.max2 (h := ?_)
      refine Run.eqi (b := lmax (bs.take (k + 1))) (by rw [← take_snoc (by omega), lmax_snoc (by intro e; have := congrArg List.length e; rw [List.length_take] at this; simp only [List.length_nil] at this; omega)]) ?_
      refine Run.as (h := ?_)
      refine Run.fin ?_
      refine At.inb_norm ?_
      refine At.reg rfl ?_
      refine Run.mv (h := ?_)
      refine Run.add (h := ?_)
      refine Run.eqi (b := ((k + 1 : Nat) : Int)) (by rw [wi64 (by omega) (by omega)]; omega) ?_
      refine Run.as (h := ?_)
      refine Run.fin ?_
      exact At.again (k + 1) (by omega) (by omega)
    · skip
      refine At.exit ?_
      refine At.then_exit ?_
      refine At.then_exit ?_
      refine At.inb_hit ?_
      refine At.seq ?_
      refine At.reg rfl ?_
      refine Run.mv (h := ?_)
      refine Run.as (h := ?_)
      refine Run.fin ?_
      refine At.ret ?_
      exact At.done (hΦ := by exact ⟨congrArg (fun l => Value.int .u8 (lmax l)) (List.take_of_length_le (by omega)), rfl⟩)
end Go.Proofs.Ytllpfpdanonhkaa
