/- What extents that come as an argument are to a walk; chains of archives. No condition. -/
import Derived.Test.YtllpfpdanonhkaaPlArg
import Derived.Test.YtllpfpdanonhkaaRests
namespace Go.Proofs.Ytllpfpdanonhkaa
open Go.Sx Go.RowKit Go.ChangeShapes

theorem fs37 : fsB Tb.P 37 = some [(22, 0, 1), (22, 1, 1), (4, 2, 1), (4, 3, 1), (4, 4, 1)] := by kernel_rfl
section
variable {H : Type} {enc : TypeId × Value → H} {w : World} {base : Nat} {spare : Nat → Bool} {held : Bool} {fuel : Nat}
theorem read_ext1 {cs : List Value} {x : DataW H × List MemPlace} (h : DataW.trod enc Tb.P w base spare held fuel 37 cs = some x) : ∃ e : Ex, cs = cellsE e ∧ ExOk e := by
  obtain ⟨xs, n, hx, hl, hxl, hf⟩ := trod_fields fs37 h
  rw [cells_of Tb.S37] at hl
  obtain ⟨c0, c1, c2, c3, c4, rfl⟩ := list5 hl
  obtain ⟨y0, y1, y2, y3, y4, rfl⟩ := list5 hxl
  obtain ⟨o, h0, e0, w0⟩ := DataW.trod_int Tb.I22 (show DataW.trod enc Tb.P w base spare held n 22 [c0] = some y0 from hf 0 _ _ _ rfl)
  obtain ⟨l, h1, e1, w1⟩ := DataW.trod_int Tb.I22 (show DataW.trod enc Tb.P w base spare held n 22 [c1] = some y1 from hf 1 _ _ _ rfl)
  obtain ⟨b, h2, e2⟩ := DataW.trod_bool Tb.I4 (show DataW.trod enc Tb.P w base spare held n 4 [c2] = some y2 from hf 2 _ _ _ rfl)
  obtain ⟨b', h3, e3⟩ := DataW.trod_bool Tb.I4 (show DataW.trod enc Tb.P w base spare held n 4 [c3] = some y3 from hf 3 _ _ _ rfl)
  obtain ⟨b'', h4, e4⟩ := DataW.trod_bool Tb.I4 (show DataW.trod enc Tb.P w base spare held n 4 [c4] = some y4 from hf 4 _ _ _ rfl)
  cases h0; cases h1; cases h2; cases h3; cases h4
  obtain ⟨a1, a2⟩ := u64_of w0
  obtain ⟨a3, a4⟩ := u64_of w1
  exact ⟨⟨o, l, b, b', b''⟩, rfl, a1, a2, a3, a4⟩
theorem read_ext {cs : List Value} {x : DataW H × List MemPlace} (h : DataW.trod enc Tb.P w base spare held fuel 24 cs = some x) :
    ∃ ao n cp, ∃ l : List Ex, cs = [.slice ao n cp] ∧ n = l.length ∧ n ≤ cp ∧ RdS w [] 5 ao (l.map cellsE) ∧ (∀ e ∈ l, ExOk e) ∧ l.length + 1 ≤ Rows.uptoBulk x.1 := by
  obtain ⟨ao, n, cp, l, ds, sp, h1, h2, h3, h4, h5, h6, h7, h8⟩ := trod_elems Tb.I24 (cells_of Tb.S37) (by omega) h
  obtain ⟨es, hes, hq⟩ := map_of (F := cellsE) (Q := ExOk) (l := l) fun c hc => by
    obtain ⟨i, hi⟩ := List.getElem?_of_mem hc
    obtain ⟨_, _, m, d, ps, q1, _⟩ := h7 i c hi
    exact read_ext1 q1
  subst hes
  refine ⟨ao, n, cp, es, h1, by simpa using h2, h3, RdS.of_read (fun w' => sat_cell) (fun i c hi => ⟨⟨(h7 i c hi).1, ?_⟩, (h7 i c hi).2.1⟩) h8, hq, ?_⟩
  · simp only [List.getElem?_map] at hi
    obtain ⟨b, _, rfl⟩ := Option.map_eq_some_iff.1 hi
    simp [cellsE, Value.oneCell']
  · have k1 := bulk_slice h6
    have k2 := bulk_len ds
    simp at h2; omega
theorem bulk_mem {d : DataW H} {l : List (DataW H)} (h : d ∈ l) : Rows.uptoBulk d ≤ Rows.uptoBulkAll l := by
  induction l with
  | nil => cases h
  | cons x r ih =>
    simp only [Rows.uptoBulkAll]
    rcases List.mem_cons.1 h with rfl | h
    · omega
    · have := ih h; omega
theorem read_chain {cs : List Value} {x : DataW H × List MemPlace} (h : DataW.trod enc Tb.P w base spare held fuel 53 cs = some x) :
    ∃ ao n cp, ∃ l : List AV, cs = [.slice ao n cp] ∧ n = l.length ∧ RdS w [] 4 ao (l.map cellsA) ∧ (∀ v ∈ l, ∃ B, B ≤ Rows.uptoBulk x.1 ∧ ArgA w v.id v.par v.size v.ao v.rs.length v.cp v.rs B) ∧ l.length + 1 ≤ Rows.uptoBulk x.1 := by
  obtain ⟨ao, n, cp, l, ds, sp, h1, h2, h3, h4, h5, h6, h7, h8⟩ := trod_elems Tb.I53 (cells_of Tb.S28) (by omega) h
  have k1 := bulk_slice h6
  obtain ⟨es, hes, hq⟩ := map_of (F := cellsA) (Q := fun v : AV => ∃ B, B ≤ Rows.uptoBulk x.1 ∧ ArgA w v.id v.par v.size v.ao v.rs.length v.cp v.rs B) (l := l) fun c hc => by
    obtain ⟨i, hi⟩ := List.getElem?_of_mem hc
    obtain ⟨_, _, m, d, ps, q1, q2⟩ := h7 i c hi
    obtain ⟨id, par, size, ao', n', cp', rs, q3, q4⟩ := read_arch q1
    have hn := q4.hn
    subst hn
    exact ⟨⟨id, par, size, ao', cp', rs⟩, q3, _, by have := bulk_mem (List.mem_of_getElem? q2); dsimp only; omega, q4⟩
  subst hes
  refine ⟨ao, n, cp, es, h1, by simpa using h2, RdS.of_read (fun w' => sat_cell) (fun i c hi => ⟨⟨(h7 i c hi).1, ?_⟩, (h7 i c hi).2.1⟩) h8, hq, ?_⟩
  · simp only [List.getElem?_map] at hi
    obtain ⟨b, _, rfl⟩ := Option.map_eq_some_iff.1 hi
    simp [cellsA, Value.oneCell']
  · have k2 := bulk_len ds
    simp at h2; omega
theorem avOk_arg {v : AV} {B : Nat} (hB : B ≤ 1048576) (h : ArgA w v.id v.par v.size v.ao v.rs.length v.cp v.rs B) : AvOk v := ⟨h.hid, h.hpar, h.hsz, h.le hB, h.ok hB⟩
end
end Go.Proofs.Ytllpfpdanonhkaa
