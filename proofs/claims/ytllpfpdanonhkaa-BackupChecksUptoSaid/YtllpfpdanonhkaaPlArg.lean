/- What an archive that comes as an argument is to a walk, and how much it may be. No condition. -/
import Derived.Test.YtllpfpdanonhkaaFlip
import Derived.Test.YtllpfpdanonhkaaSxLift
import Derived.Test.YtllpfpdanonhkaaRows
namespace Go.Proofs.Ytllpfpdanonhkaa
open Go.Sx Go.RowKit Go.ChangeShapes

theorem fs76 : fsB Tb.P 76 = some [(22, 0, 1), (22, 1, 1), (4, 2, 1), (23, 3, 1)] := by kernel_rfl
theorem fs28 : fsB Tb.P 28 = some [(22, 0, 1), (22, 1, 1), (22, 2, 1), (26, 3, 1)] := by kernel_rfl

section
variable {H : Type}
theorem small_of {l : List (DataW H)} (hk : Rows.uptoSmall H l = true) : Rows.uptoBulkAll l ≤ 1048576 := of_decide_eq_true hk
theorem bulk_one (d : DataW H) : 1 ≤ Rows.uptoBulk d := by
  cases d with
  | lit l => cases l <;> simp [Rows.uptoBulk]
  | _ => simp [Rows.uptoBulk]
theorem bulk_len (l : List (DataW H)) : l.length ≤ Rows.uptoBulkAll l := by
  induction l with
  | nil => simp [Rows.uptoBulkAll]
  | cons x r ih => have := bulk_one x; simp only [Rows.uptoBulkAll, List.length_cons]; omega
theorem bulk_slice {d : DataW H} {ds sp : List (DataW H)} (h : d = .slice ds sp ∨ (d = .nil ∧ ds = [])) : Rows.uptoBulkAll ds + 1 ≤ Rows.uptoBulk d := by
  rcases h with rfl | ⟨rfl, rfl⟩
  · simp only [Rows.uptoBulk]; omega
  · simp [Rows.uptoBulk, Rows.uptoBulkAll]
/-- Element by element. -/
theorem bulk_sum {α : Type} (f : α → Nat) : ∀ {vs : List α} {ds : List (DataW H)}, ds.length = vs.length → (∀ (i : Nat) a d, vs[i]? = some a → ds[i]? = some d → f a ≤ Rows.uptoBulk d) → (vs.map f).sum ≤ Rows.uptoBulkAll ds
  | [], [], _, _ => by simp
  | a :: vs, d :: ds, h, k => by
    have h1 := k 0 a d rfl rfl
    have h2 := bulk_sum f (vs := vs) (ds := ds) (by simpa using h) fun i a d ha hd => k (i + 1) a d (by simpa using ha) (by simpa using hd)
    simp only [List.map_cons, List.sum_cons, Rows.uptoBulkAll]; omega

/-- Each element is of a kind, and has its part of the reading. -/
theorem map_of2 {α : Type} {F : α → List Value} {Q : α → DataW H → Prop} : ∀ {l : List (List Value)} {ds : List (DataW H)}, ds.length = l.length → (∀ (i : Nat) c, l[i]? = some c → ∃ d a, ds[i]? = some d ∧ c = F a ∧ Q a d) → ∃ vs : List α, l = vs.map F ∧ ∀ (i : Nat) a, vs[i]? = some a → ∃ d, ds[i]? = some d ∧ Q a d
  | [], _, _, _ => ⟨[], rfl, fun i a h => by simp at h⟩
  | c :: l, ds, h, k => by
    obtain ⟨d, a, h1, rfl, h2⟩ := k 0 c rfl
    obtain ⟨d0, ds, rfl⟩ : ∃ d0 ds', ds = d0 :: ds' := by
      cases ds with
      | nil => simp at h
      | cons d0 ds => exact ⟨d0, ds, rfl⟩
    simp at h1; subst h1
    obtain ⟨vs, h3, h4⟩ := map_of2 (F := F) (Q := Q) (l := l) (ds := ds) (by simpa using h) fun i c hc => by
      obtain ⟨d, a, q1, q2⟩ := k (i + 1) c (by simpa using hc)
      exact ⟨d, a, by simpa using q1, q2⟩
    refine ⟨a :: vs, by rw [h3]; rfl, fun i b hb => ?_⟩
    cases i with
    | zero => simp at hb; subst hb; exact ⟨d0, rfl, h2⟩
    | succ i => obtain ⟨d, q1, q2⟩ := h4 i b (by simpa using hb); exact ⟨d, by simpa using q1, q2⟩
end

section
variable {H : Type} {enc : TypeId × Value → H} {w : World} {base : Nat} {spare : Nat → Bool} {held : Bool} {fuel : Nat}
theorem u64_of {n : Int} (h : (Lit.int .u64 n).wf = true) : 0 ≤ n ∧ n < 18446744073709551616 := by
  have h1 := wf_int h
  simp [IntKind.min, IntKind.max, IntKind.signed, IntKind.bits] at h1
  omega
theorem byt_of {bs : List Int} (h : ∀ b ∈ bs, IntKind.u8.min ≤ b ∧ b ≤ IntKind.u8.max) : Byt bs := fun b hb => by
  have h1 := h b hb
  simp [IntKind.min, IntKind.max, IntKind.signed, IntKind.bits] at h1
  omega

theorem read_run {cs : List Value} {x : DataW H × List MemPlace} (h : DataW.trod enc Tb.P w base spare held fuel 76 cs = some x) :
    ∃ r : RV, cs = cellsV r ∧ RdS w [] 1 r.2.1 (ints .u8 r.1.data) ∧ (0 ≤ r.1.off ∧ r.1.off < 18446744073709551616 ∧ 0 ≤ r.1.len ∧ r.1.len < 18446744073709551616 ∧ Byt r.1.data) ∧ r.1.data.length + 5 ≤ Rows.uptoBulk x.1 := by
  obtain ⟨xs, n, hx, hl, hxl, hf⟩ := trod_fields fs76 h
  rw [cells_of Tb.S76] at hl
  obtain ⟨c0, c1, c2, c3, rfl⟩ := list4 hl
  obtain ⟨y0, y1, y2, y3, rfl⟩ := list4 hxl
  obtain ⟨o, h0, e0, w0⟩ := DataW.trod_int Tb.I22 (show DataW.trod enc Tb.P w base spare held n 22 [c0] = some y0 from hf 0 _ _ _ rfl)
  obtain ⟨l, h1, e1, w1⟩ := DataW.trod_int Tb.I22 (show DataW.trod enc Tb.P w base spare held n 22 [c1] = some y1 from hf 1 _ _ _ rfl)
  obtain ⟨b, h2, e2⟩ := DataW.trod_bool Tb.I4 (show DataW.trod enc Tb.P w base spare held n 4 [c2] = some y2 from hf 2 _ _ _ rfl)
  obtain ⟨ao, m, cp, bs, ds, sp, h3, k1, k2, k3, k4, k5, k6, k7⟩ := trod_nums Tb.I23 Tb.I5 (cells_of Tb.S5) (show DataW.trod enc Tb.P w base spare held n 23 [c3] = some y3 from hf 3 _ _ _ rfl)
  cases h0; cases h1; cases h2; cases h3
  subst e0 e1 e2 k1
  obtain ⟨a1, a2⟩ := u64_of w0
  obtain ⟨a3, a4⟩ := u64_of w1
  refine ⟨(⟨o, l, b, bs⟩, (ao, cp)), rfl, k4, ⟨a1, a2, a3, a4, byt_of k5⟩, ?_⟩
  rw [hx]
  have := bulk_slice k7
  have := bulk_len ds
  simp only [List.map_cons, List.map_nil, Rows.uptoBulk, Rows.uptoBulkAll]
  omega

/-- An archive, read. -/
structure ArgA (w : World) (id par size : Int) (ao : Option Addr) (n cp : Nat) (rs : List RV) (B : Nat) : Prop where
  hr : RdS w [] 4 ao (rs.map cellsV)
  hn : n = rs.length
  hid : 0 ≤ id ∧ id < 18446744073709551616
  hpar : 0 ≤ par ∧ par < 18446744073709551616
  hsz : 0 ≤ size ∧ size < 18446744073709551616
  hrn : ∀ r ∈ rs, 0 ≤ r.1.off ∧ r.1.off < 18446744073709551616 ∧ 0 ≤ r.1.len ∧ r.1.len < 18446744073709551616 ∧ Byt r.1.data
  hdt : ∀ r ∈ rs, RdS w [] 1 r.2.1 (ints .u8 r.1.data)
  bulk : (rs.map fun r => r.1.data.length + 5).sum + 5 ≤ B

theorem read_arch {cs : List Value} {x : DataW H × List MemPlace} (h : DataW.trod enc Tb.P w base spare held fuel 28 cs = some x) :
    ∃ id par size ao n cp rs, cs = [.int .u64 id, .int .u64 par, .int .u64 size, .slice ao n cp] ∧ ArgA w id par size ao n cp rs (Rows.uptoBulk x.1) := by
  obtain ⟨xs, n, hx, hl, hxl, hf⟩ := trod_fields fs28 h
  rw [cells_of Tb.S28] at hl
  obtain ⟨c0, c1, c2, c3, rfl⟩ := list4 hl
  obtain ⟨y0, y1, y2, y3, rfl⟩ := list4 hxl
  obtain ⟨o, h0, e0, w0⟩ := DataW.trod_int Tb.I22 (show DataW.trod enc Tb.P w base spare held n 22 [c0] = some y0 from hf 0 _ _ _ rfl)
  obtain ⟨l, h1, e1, w1⟩ := DataW.trod_int Tb.I22 (show DataW.trod enc Tb.P w base spare held n 22 [c1] = some y1 from hf 1 _ _ _ rfl)
  obtain ⟨s, h2, e2, w2⟩ := DataW.trod_int Tb.I22 (show DataW.trod enc Tb.P w base spare held n 22 [c2] = some y2 from hf 2 _ _ _ rfl)
  obtain ⟨ao, m, cp, ls, ds, sp, h3, k1, k2, k3, k4, k5, k6, k7⟩ := trod_elems Tb.I26 (cells_of Tb.S76) (by omega) (show DataW.trod enc Tb.P w base spare held n 26 [c3] = some y3 from hf 3 _ _ _ rfl)
  obtain ⟨rs, hrs, hq⟩ := map_of2 (F := cellsV) (Q := fun (r : RV) (d : DataW H) => RdS w [] 1 r.2.1 (ints .u8 r.1.data) ∧ (0 ≤ r.1.off ∧ r.1.off < 18446744073709551616 ∧ 0 ≤ r.1.len ∧ r.1.len < 18446744073709551616 ∧ Byt r.1.data) ∧ r.1.data.length + 5 ≤ Rows.uptoBulk d) (l := ls) (ds := ds) (by omega) fun i c hc => by
    obtain ⟨_, _, m, d, ps, q1, q2⟩ := k6 i c hc
    obtain ⟨r, q3, q4⟩ := read_run q1
    exact ⟨d, r, q2, q3, q4⟩
  cases h0; cases h1; cases h2; cases h3
  subst e0 e1 e2 hrs
  have hm : m = rs.length := by simpa using k1
  refine ⟨o, l, s, ao, m, cp, rs, rfl, RdS.of_read (fun w' => sat_cell) (fun i c hi => ⟨⟨(k6 i c hi).1, ?_⟩, (k6 i c hi).2.1⟩) k7, hm, u64_of w0, u64_of w1, u64_of w2, fun r hr => ?_, fun r hr => ?_, ?_⟩
  · simp only [List.getElem?_map] at hi
    obtain ⟨b, _, rfl⟩ := Option.map_eq_some_iff.1 hi
    simp [cellsV, Value.oneCell']
  · obtain ⟨i, hi⟩ := List.getElem?_of_mem hr
    obtain ⟨d, _, q⟩ := hq i r hi
    exact q.2.1
  · obtain ⟨i, hi⟩ := List.getElem?_of_mem hr
    obtain ⟨d, _, q⟩ := hq i r hi
    exact q.1
  · rw [hx]
    have h1 := bulk_slice k5
    have h2 := bulk_sum (fun r : RV => r.1.data.length + 5) (vs := rs) (ds := ds) (by omega) fun i a d ha hd => by
      obtain ⟨d', q1, q2⟩ := hq i a ha
      rw [hd] at q1; cases q1
      exact q2.2.2
    simp only [List.map_cons, List.map_nil, Rows.uptoBulk, Rows.uptoBulkAll]
    omega

theorem sum_mem {α : Type} {f : α → Nat} : ∀ {l : List α} {a : α}, a ∈ l → f a ≤ (l.map f).sum
  | b :: l, a, h => by
    rcases List.mem_cons.1 h with rfl | h
    · simp
    · have := sum_mem (f := f) h; simp; omega
theorem sum_len {α : Type} {f : α → Nat} {c : Nat} : ∀ {l : List α}, (∀ a ∈ l, c ≤ f a) → c * l.length ≤ (l.map f).sum
  | [], _ => by simp
  | a :: l, h => by
    have h1 := h a List.mem_cons_self
    have h2 := sum_len (f := f) (c := c) (l := l) fun b hb => h b (List.mem_cons_of_mem _ hb)
    simp only [List.length_cons, List.map_cons, List.sum_cons, Nat.mul_succ]; omega
theorem enc_le : ∀ {rs : List RV}, (encs (pures rs)).length ≤ 5 * (rs.map fun r => r.1.data.length + 5).sum
  | [] => by simp [encs, pures]
  | r :: rs => by
    have ih := enc_le (rs := rs)
    have e : encs (pures (r :: rs)) = encR r.1 ++ encs (pures rs) := rfl
    have h2 : (encR r.1).length ≤ 21 + (r.1.data.length + 4) := by
      unfold encR
      rw [List.length_append, sealB_len, encH_len]
      split <;> simp [sealB_len]
    rw [e, List.length_append]
    simp only [List.map_cons, List.sum_cons]
    omega
variable {id par size : Int} {ao : Option Addr} {n cp B : Nat} {rs : List RV}
theorem ArgA.ok (h : ArgA w id par size ao n cp rs B) (hB : B ≤ 1048576) : ∀ r ∈ rs, RnOk r.1 := fun r hr => by
  obtain ⟨h1, h2, h3, h4, h5⟩ := h.hrn r hr
  have := sum_mem (f := fun r : RV => r.1.data.length + 5) hr
  have := h.bulk
  exact ⟨h1, h2, h3, h4, by omega, h5⟩
theorem ArgA.le (h : ArgA w id par size ao n cp rs B) (hB : B ≤ 1048576) : n ≤ 1099511627776 := by
  have := sum_len (f := fun r : RV => r.1.data.length + 5) (c := 1) (l := rs) (fun r _ => by omega)
  have := h.bulk
  have := h.hn
  omega
theorem ArgA.big (h : ArgA w id par size ao n cp rs B) (hB : B ≤ 1048576) : (Go.Proofs.Ytllpfpdanonhkaa.enc ⟨id, par, size, pures rs⟩).length ≤ 5300000 := by
  have h1 := enc_le (rs := rs)
  have h2 := h.bulk
  rw [enc_eq, List.length_append, sealB_len, hdB_len]
  dsimp only
  omega
theorem ArgA.rd (h : ArgA w id par size ao n cp rs B) {L : List HP} : RdS w L 4 ao (rs.map cellsV) := h.hr.all
theorem ArgA.dt (h : ArgA w id par size ao n cp rs B) {L : List HP} : ∀ r ∈ rs, RdS w L 1 r.2.1 (ints .u8 r.1.data) := fun r hr => (h.hdt r hr).all
end
end Go.Proofs.Ytllpfpdanonhkaa
