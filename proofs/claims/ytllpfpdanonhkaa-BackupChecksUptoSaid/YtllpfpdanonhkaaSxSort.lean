/- sort.Slice at a slice of pairs of numbers, by the first, as a contract over one's own row: the row then holds the same pairs, ascending. (Numbers of functions and types: this seat's.) No condition. -/
import Derived.Shelf.SlSortFuncK.WholeK
import Derived.Shelf.GgSortFunc.Tiny
import Derived.Test.YtllpfpdanonhkaaTab
import Derived.Test.YtllpfpdanonhkaaSxAid
namespace Go.Proofs.Ytllpfpdanonhkaa
open Go.Shelf Go.RowKit Go.Lib Go.Sort Go.Sx
set_option linter.unusedVariables false
set_option linter.unusedSimpArgs false

def srt6_ren : Ren := {
  f := fun x =>
    match x with
    | 6 => 76
    | 10 => 78
    | 11 => 79
    | 12 => 80
    | 13 => 81
    | 14 => 82
    | 24 => 92
    | 25 => 93
    | 26 => 94
    | 27 => 95
    | 28 => 96
    | 29 => 97
    | 30 => 98
    | 31 => 99
    | 32 => 100
    | 33 => 101
    | 34 => 102
    | 35 => 103
    | 36 => 104
    | 37 => 105
    | 38 => 106
    | 39 => 107
    | n => n,
  t := fun x =>
    match x with
    | 20 => 20
    | 26 => 144
    | 35 => 148
    | 0 => 0
    | 37 => 150
    | 3 => 3
    | 41 => 127
    | 44 => 155
    | 49 => 90
    | 51 => 22
    | 4 => 4
    | 54 => 163
    | 53 => 162
    | 58 => 167
    | 5 => 5
    | 9 => 9
    | 60 => 169
    | 64 => 173
    | 66 => 175
    | 67 => 176
    | 17 => 17
    | 32 => 145
    | 33 => 146
    | 82 => 191
    | 12 => 12
    | 75 => 184
    | 76 => 185
    | 77 => 186
    | 78 => 187
    | 79 => 188
    | 80 => 189
    | n => n,
  g := fun n => n }

theorem srt6 : LaysGg.n6 Try.prog srt6_ren where
  mixed := by kernel_rfl
  f6 := by kernel_rfl
  f10 := by kernel_rfl
  f11 := by kernel_rfl
  f12 := by kernel_rfl
  f13 := by kernel_rfl
  f14 := by kernel_rfl
  f24 := by kernel_rfl
  f25 := by kernel_rfl
  f26 := by kernel_rfl
  f27 := by kernel_rfl
  f28 := by kernel_rfl
  f29 := by kernel_rfl
  f30 := by kernel_rfl
  f31 := by kernel_rfl
  f32 := by kernel_rfl
  f33 := by kernel_rfl
  f34 := by kernel_rfl
  f35 := by kernel_rfl
  f36 := by kernel_rfl
  f37 := by kernel_rfl
  f38 := by kernel_rfl
  f39 := by kernel_rfl
  t0 := by kernel_rfl
  a0 := fun _ => by kernel_rfl
  z0 := fun _ => by kernel_rfl
  v0 := fun _ => by kernel_rfl
  i0 := by kernel_rfl
  t3 := by kernel_rfl
  a3 := fun _ => by kernel_rfl
  z3 := fun _ => by kernel_rfl
  v3 := fun _ => by kernel_rfl
  i3 := by kernel_rfl
  t4 := by kernel_rfl
  a4 := fun _ => by kernel_rfl
  z4 := fun _ => by kernel_rfl
  v4 := fun _ => by kernel_rfl
  i4 := by kernel_rfl
  t5 := by kernel_rfl
  a5 := fun _ => by kernel_rfl
  z5 := fun _ => by kernel_rfl
  v5 := fun _ => by kernel_rfl
  i5 := by kernel_rfl
  t9 := by kernel_rfl
  a9 := fun _ => by kernel_rfl
  z9 := fun _ => by kernel_rfl
  v9 := fun _ => by kernel_rfl
  i9 := by kernel_rfl
  t12 := by kernel_rfl
  a12 := fun _ => by kernel_rfl
  z12 := fun _ => by kernel_rfl
  v12 := fun _ => by kernel_rfl
  i12 := by kernel_rfl
  t17 := by kernel_rfl
  a17 := fun _ => by kernel_rfl
  z17 := fun _ => by kernel_rfl
  v17 := fun _ => by kernel_rfl
  i17 := by kernel_rfl
  t20 := by kernel_rfl
  a20 := fun _ => by kernel_rfl
  z20 := fun _ => by kernel_rfl
  v20 := fun _ => by kernel_rfl
  i20 := by kernel_rfl
  t26 := by kernel_rfl
  a26 := fun _ => by kernel_rfl
  z26 := fun _ => by kernel_rfl
  v26 := fun _ => by kernel_rfl
  i26 := by kernel_rfl
  t32 := by kernel_rfl
  a32 := fun _ => by kernel_rfl
  z32 := fun _ => by kernel_rfl
  v32 := fun _ => by kernel_rfl
  i32 := by kernel_rfl
  t33 := by kernel_rfl
  a33 := fun _ => by kernel_rfl
  z33 := fun _ => by kernel_rfl
  v33 := fun _ => by kernel_rfl
  i33 := by kernel_rfl
  t35 := by kernel_rfl
  a35 := fun _ => by kernel_rfl
  z35 := fun _ => by kernel_rfl
  v35 := fun _ => by kernel_rfl
  i35 := by kernel_rfl
  t37 := by kernel_rfl
  a37 := fun _ => by kernel_rfl
  z37 := fun _ => by kernel_rfl
  v37 := fun _ => by kernel_rfl
  i37 := by kernel_rfl
  t41 := by kernel_rfl
  a41 := fun _ => by kernel_rfl
  z41 := fun _ => by kernel_rfl
  v41 := fun _ => by kernel_rfl
  i41 := by kernel_rfl
  t44 := by kernel_rfl
  a44 := fun _ => by kernel_rfl
  z44 := fun _ => by kernel_rfl
  v44 := fun _ => by kernel_rfl
  i44 := by kernel_rfl
  t49 := by kernel_rfl
  a49 := fun _ => by kernel_rfl
  z49 := fun _ => by kernel_rfl
  v49 := fun _ => by kernel_rfl
  i49 := by kernel_rfl
  t51 := by kernel_rfl
  a51 := fun _ => by kernel_rfl
  z51 := fun _ => by kernel_rfl
  v51 := fun _ => by kernel_rfl
  i51 := by kernel_rfl
  t53 := by kernel_rfl
  a53 := fun _ => by kernel_rfl
  z53 := fun _ => by kernel_rfl
  v53 := fun _ => by kernel_rfl
  i53 := by kernel_rfl
  t54 := by kernel_rfl
  a54 := fun _ => by kernel_rfl
  z54 := fun _ => by kernel_rfl
  v54 := fun _ => by kernel_rfl
  i54 := by kernel_rfl
  t58 := by kernel_rfl
  a58 := fun _ => by kernel_rfl
  z58 := fun _ => by kernel_rfl
  v58 := fun _ => by kernel_rfl
  i58 := by kernel_rfl
  t60 := by kernel_rfl
  a60 := fun _ => by kernel_rfl
  z60 := fun _ => by kernel_rfl
  v60 := fun _ => by kernel_rfl
  i60 := by kernel_rfl
  t64 := by kernel_rfl
  a64 := fun _ => by kernel_rfl
  z64 := fun _ => by kernel_rfl
  v64 := fun _ => by kernel_rfl
  i64 := by kernel_rfl
  t66 := by kernel_rfl
  a66 := fun _ => by kernel_rfl
  z66 := fun _ => by kernel_rfl
  v66 := fun _ => by kernel_rfl
  i66 := by kernel_rfl
  t67 := by kernel_rfl
  a67 := fun _ => by kernel_rfl
  z67 := fun _ => by kernel_rfl
  v67 := fun _ => by kernel_rfl
  i67 := by kernel_rfl
  t75 := by kernel_rfl
  a75 := fun _ => by kernel_rfl
  z75 := fun _ => by kernel_rfl
  v75 := fun _ => by kernel_rfl
  i75 := by kernel_rfl
  t76 := by kernel_rfl
  a76 := fun _ => by kernel_rfl
  z76 := fun _ => by kernel_rfl
  v76 := fun _ => by kernel_rfl
  i76 := by kernel_rfl
  t77 := by kernel_rfl
  a77 := fun _ => by kernel_rfl
  z77 := fun _ => by kernel_rfl
  v77 := fun _ => by kernel_rfl
  i77 := by kernel_rfl
  t78 := by kernel_rfl
  a78 := fun _ => by kernel_rfl
  z78 := fun _ => by kernel_rfl
  v78 := fun _ => by kernel_rfl
  i78 := by kernel_rfl
  t79 := by kernel_rfl
  a79 := fun _ => by kernel_rfl
  z79 := fun _ => by kernel_rfl
  v79 := fun _ => by kernel_rfl
  i79 := by kernel_rfl
  t80 := by kernel_rfl
  a80 := fun _ => by kernel_rfl
  z80 := fun _ => by kernel_rfl
  v80 := fun _ => by kernel_rfl
  i80 := by kernel_rfl
  t82 := by kernel_rfl
  a82 := fun _ => by kernel_rfl
  z82 := fun _ => by kernel_rfl
  v82 := fun _ => by kernel_rfl
  i82 := by kernel_rfl

noncomputable def srtT : TypeInfo := (Try.prog.info? 69).get (by kernel_rfl)
noncomputable def srtE : TypeInfo := (Try.prog.info? 73).get (by kernel_rfl)
theorem srtK (n : Nat) (h2 : 2 ≤ n) : Go.Lib.swapperK n srtE 25 = 9 := by
  have a : srtE.hasPointers = false := by kernel_rfl
  have b : srtE.bytes = 16 := by kernel_rfl
  have c : (n == 0) = false := by simp; omega
  have d : (n == 1) = false := by simp; omega
  simp [Go.Lib.swapperK, a, b, c, d]
def cellsG (p : Int × Int) : List Value := [.int .i64 p.1, .int .i64 p.2]
def ltG (a b : Int × Int) : Bool := decide (a.1 < b.1)
theorem swoG : SWO ltG where
  irrefl := fun x => by simp [ltG]
  trans := fun x y z h1 h2 => by simp [ltG] at *; omega
  ntrans := fun x y z h1 h2 => by simp [ltG] at *; omega
set_option maxHeartbeats 2000000 in
theorem srt_less (blk off c Bs size : Nat) (W : World) (G : Nat → Int) (hs : W.cell? ⟨Bs, 0, none⟩ = some (.slice (some ⟨blk, off, none⟩) size c))
    (hc : ∀ t, t < size → W.cell? ⟨blk, off + t * 2, none⟩ = some (.int .i64 (G t))) (i j : Nat) (hi : i < size) (hj : j < size) (_hsz : size < 4611686018427387904) :
    Calls Try.prog 77 #[.int .i64 i, .int .i64 j, .pointer (some ⟨Bs, 0, none⟩)] W fun e w' => e = .returned (.bool (decide (G i < G j))) ∧ ∃ q, w' = W.drewN q := by
  have ci := hc i hi
  have cj := hc j hj
  go_enter Try.func77, Try.ntmps77
  go_wp2
  go_quiet (fail)
  go_wp2
  go_ret
  exact ⟨rfl, nq, rfl⟩
theorem srt_big (blk off c Bs : Nat) (d : Array (Int × Int)) (h2 : 2 ≤ d.size) (hsz : d.size < 4611686018427387904) (w : World) (hH : HoldsK cellsG 2 w blk off d) (hblk : blk < w.heap.size)
    (hBs : w.cell? ⟨Bs, 0, none⟩ = some (.slice (some ⟨blk, off, none⟩) d.size c)) (hB1 : Bs < w.heap.size) (hB2 : Bs ≠ blk) :
    Calls Try.prog 76 #[.iface 69 (.slice (some ⟨blk, off, none⟩) d.size c), .func (.func 77) #[] #[.pointer (some ⟨Bs, 0, none⟩)]] w fun e w' =>
      e = .returned (.tuple #[]) ∧ ∃ d' n os, PermIn 0 d.size d d' ∧ SortedIn ltG 0 d.size d' ∧ w' = grow (putRowK cellsG 2 (Sort.ahead w n) blk off d') os := by
  have hless : LessReadsK Try.prog 77 #[.pointer (some ⟨Bs, 0, none⟩)] cellsG 2 ltG blk off d.size w := by
    intro m os dk hs i j hi hj
    have e : sortWorldK cellsG 2 w blk off m dk os = putRowK cellsG 2 (grow (Sort.ahead w m) os) blk off dk := by
      unfold sortWorldK; rw [putRowK_grow _ _ (Sort.ahead w m) _ blk off _ hblk]
    have hHg : HoldsK cellsG 2 (grow (Sort.ahead w m) os) blk off d := holdsK_grow _ _ _ _ blk off d hblk (holdsK_ahead _ _ _ _ _ _ _ hH)
    refine srt_less blk off c Bs d.size _ (fun t => dk[t]!.1) ?_ (fun t ht => ?_) i j hi hj (by omega)
    · rw [e, cell?_putRowK_other _ _ _ blk off dk _ (by exact hB2), cell?_grow _ _ _ (by exact hB1)]; exact hBs
    · rw [e]; exact ((holdsK_putRowK _ _ _ blk off d dk hHg hs).cell (i := t) (c := 0) (by omega) (by omega)).1
  exact Any.sort_Slice_cells_sorted srt6 69 73 srtT srtE (by kernel_rfl) (by kernel_rfl) (by kernel_rfl) (by kernel_rfl) 25 (fun _ => by kernel_rfl) cellsG 2 (fun _ => rfl) (by kernel_rfl) (fun _ => by kernel_rfl)
    (fun x v hv => by simp [cellsG] at hv; rcases hv with rfl | rfl <;> rfl) ltG swoG 77 _
    (enters_of Try.func77 (by kernel_rfl) rfl) blk off c d h2 hsz 91 (by rw [srtK _ h2]; kernel_rfl) false
    (fun args W => run_callFunc_extern Try.func91 (by kernel_rfl) (by kernel_rfl) (by kernel_rfl) (e := Extern.ReflectliteSwapper.swap false) (by kernel_rfl) args W) w hless hH hblk
theorem srt_tiny (p : Option Addr) (n c : Nat) (h1 : n ≤ 1) (lf : Fn) (la lb : Array Value) (w : World) :
    Calls Try.prog 76 #[.iface 69 (.slice p n c), .func lf la lb] w fun e w' => e = .returned (.tuple #[]) ∧ ∃ os, w' = grow w os := by
  rcases (show n = 0 ∨ n = 1 by omega) with rfl | rfl
  · exact Any.sort_Slice_tiny srt6 69 73 srtT srtE (by kernel_rfl) (by kernel_rfl) (by kernel_rfl) (by kernel_rfl) 25 (fun _ => by kernel_rfl) p 0 c h1 83 (by kernel_rfl) lf la lb w
  · exact Any.sort_Slice_tiny srt6 69 73 srtT srtE (by kernel_rfl) (by kernel_rfl) (by kernel_rfl) (by kernel_rfl) 25 (fun _ => by kernel_rfl) p 1 c h1 84 (by kernel_rfl) lf la lb w

/-! ### As a contract -/
theorem Sat.grown {w0 w : World} {L : List HP} (hs : Sat w0 w L) (os : Array Obj) : Sat w0 (Sort.grow w os) L := by
  have hsz := hs.bel.size
  refine ⟨⟨hs.bel.os, hs.bel.tape, hs.bel.output, ?_, fun k hk => ?_⟩, Star.mono (fun k o hk => ?_) hs.star⟩
  · show w0.heap.size ≤ (w.heap ++ os).size
    rw [Array.size_append]; omega
  · show (w.heap ++ os)[k]? = _
    rw [Array.getElem?_append_left (by omega)]; exact hs.bel.block k hk
  · unfold ownf at hk ⊢
    split at hk
    · cases hk
    · rename_i hn
      rw [if_neg hn]
      show (w.heap ++ os)[k]? = _
      have := (Array.getElem?_eq_some_iff.1 hk).1
      rw [Array.getElem?_append_left this]; exact hk
theorem flatG_at {d : Array (Int × Int)} {j : Nat} (h : j < d.size * 2) : (d.toList.map cellsG).flatten[j]? = some (flatK cellsG 2 d)[j]! := by
  rw [get_flatK _ _ _ _ h]
  have hi : j / 2 < d.size := by omega
  have e1 : (d.toList.map cellsG)[j / 2]? = some (cellsG d[j / 2]!) := by
    rw [List.getElem?_map, Array.getElem?_toList, Array.getElem?_eq_getElem hi, getElem!_pos d (j / 2) hi]; rfl
  have e2 : (cellsG d[j / 2]!)[j % 2]? = some (cellsG d[j / 2]!)[j % 2]! := by
    have h3 : j % 2 < (cellsG d[j / 2]!).length := by show j % 2 < 2; omega
    rw [getElem!_pos (cellsG d[j / 2]!) (j % 2) h3]
    exact List.getElem?_eq_getElem _
  have he : Els 2 (d.toList.map cellsG) := fun x hx => by
    obtain ⟨p, _, rfl⟩ := List.mem_map.1 hx
    exact ⟨rfl, fun v hv => by simp [cellsG] at hv; rcases hv with rfl | rfl <;> rfl⟩
  have := flat_at he e1 e2
  rwa [show j / 2 * 2 + j % 2 = j by omega] at this
theorem elsG {l : List (Int × Int)} : Els 2 (l.map cellsG) := fun x hx => by
  obtain ⟨p, _, rfl⟩ := List.mem_map.1 hx
  exact ⟨rfl, fun v hv => by simp [cellsG] at hv; rcases hv with rfl | rfl <;> rfl⟩
theorem Sat.sorted {w0 w : World} {F : List HP} {e : TypeId} {g cp m : Nat} {d d' : Array (Int × Int)} (os : Array Obj) (hs : Sat w0 w (Sx.row e 2 (some ⟨g, 0, none⟩) cp (d.toList.map cellsG) :: F)) (hd : d'.size = d.size) :
    Sat w0 (Sort.grow (putRowK cellsG 2 (Sort.ahead w m) g 0 d') os) (Sx.row e 2 (some ⟨g, 0, none⟩) cp (d'.toList.map cellsG) :: F) := by
  refine Sat.grown ?_ os
  obtain ⟨he, h⟩ := hs.row
  rcases h with ⟨h, _⟩ | ⟨g', cur, h1, h2, h3, h4, h5, h6⟩
  · cases h
  · cases h1
    have hb := h6.blk_at
    have hg := hb.1
    have hlt := (Array.getElem?_eq_some_iff.1 hg).1
    have ht := Sat.turn (w' := putRowK cellsG 2 (Sort.ahead w m) g 0 d') (o' := .cells (putCells id 0 (flatK cellsG 2 d') cur) e (0, 0)) h6 rfl rfl rfl (by
        show (w.heap.modify g _).size = _
        simp) (by
        show (w.heap.modify g _)[g]? = _
        rw [Array.getElem?_modify, if_pos rfl, hg]; rfl) (fun k hk => by
        show (w.heap.modify g _)[k]? = _
        rw [Array.getElem?_modify, if_neg (fun h => hk h.symm)])
    refine ht.mono fun f hf => ?_
    obtain ⟨f1, a1, a2, a3⟩ := hf
    have hlen : d.size ≤ cp := by simpa using h2
    refine ⟨f1, a1, ⟨elsG, .inr ⟨g, _, rfl, a2, by simp; omega, h3, by simp [putCells, h4], ?_⟩⟩, a3⟩
    apply List.ext_getElem?
    intro j
    by_cases hj : j < d'.size * 2
    · rw [flatG_at hj, List.getElem?_take, if_pos (by simpa using hj), Array.getElem?_toList]
      unfold putCells
      rw [Array.getElem?_mapIdx, Array.getElem?_eq_getElem (by omega)]
      simp [hj]
    · rw [List.getElem?_eq_none (by simp; omega), List.getElem?_eq_none (by rw [Els.len elsG]; simp; omega)]
theorem holds_row {w0 w : World} {F : List HP} {e : TypeId} {g cp : Nat} {d : Array (Int × Int)} (hs : Sat w0 w (Sx.row e 2 (some ⟨g, 0, none⟩) cp (d.toList.map cellsG) :: F)) : HoldsK cellsG 2 w g 0 d ∧ g < w.heap.size := by
  obtain ⟨he, h⟩ := hs.row
  rcases h with ⟨h, _⟩ | ⟨g', cur, h1, h2, h3, h4, h5, h6⟩
  · cases h
  · cases h1
    have hg := h6.blk_at.1
    refine ⟨fun j hj => ?_, (Array.getElem?_eq_some_iff.1 hg).1⟩
    rw [size_flatK] at hj
    have h7 := flatG_at hj
    rw [← h5, List.getElem?_take, if_pos (by simpa using hj), Array.getElem?_toList] at h7
    refine ⟨?_, ?_⟩
    · simp [World.cell?, hg, h7]
    · simp [World.frozen?, hg]
/-- The same pairs, ascending by the first. -/
def SortOf (l l' : List (Int × Int)) : Prop := l'.Perm l ∧ l'.Pairwise fun a b => ¬ b.1 < a.1
theorem srt_call {w0 : World} {F : List HP} {ao : Option Addr} {cp g : Nat} {l : List (Int × Int)} (hl : l.length < 4611686018427387904) :
    CallOk Tb.P w0 (Sx.row 73 2 ao cp (l.map cellsG) :: cel g 69 [.slice ao l.length cp] :: F) 76 [.iface 69 (.slice ao l.length cp), .func (.func 77) #[] #[.pointer (some ⟨g, 0, none⟩)]]
      fun u L' => u = .tuple #[] ∧ ∃ l', SortOf l l' ∧ L' = Sx.row 73 2 ao cp (l'.map cellsG) :: cel g 69 [.slice ao l'.length cp] :: F := fun w hs => by
  by_cases h2 : 2 ≤ l.length
  · have hrow := hs.row.2
    have hao : ∃ b, ao = some ⟨b, 0, none⟩ := by
      rcases hrow with ⟨_, _, h, _⟩ | ⟨b, _, h, _⟩
      · simp at h; subst h; simp at h2
      · exact ⟨b, h⟩
    obtain ⟨b, rfl⟩ := hao
    have hs1 : Sat w0 w (Sx.row 73 2 (some ⟨b, 0, none⟩) cp (l.toArray.toList.map cellsG) :: cel g 69 [.slice (some ⟨b, 0, none⟩) l.length cp] :: F) := hs
    obtain ⟨hH, hb⟩ := holds_row hs1
    have hc := hs.cells (Pick.there Pick.here)
    have hne : g ≠ b := by
      rcases hrow with ⟨h, _⟩ | ⟨b', cur, h, _, _, _, _, h6⟩
      · cases h
      · cases h
        exact (Sat.blk_ne h6).symm
    have hcell : w.cell? ⟨g, 0, none⟩ = some (.slice (some ⟨b, 0, none⟩) l.length cp) := by simp [World.cell?, hc]
    refine (srt_big b 0 cp g l.toArray (by simpa using h2) (by simpa using hl) w hH hb (by simpa using hcell) (Array.getElem?_eq_some_iff.1 hc).1 hne).mono ?_
    rintro e w' ⟨rfl, d', n, os, hp, hso, rfl⟩
    obtain ⟨p1, p2, p3⟩ := hp
    have hlen : d'.toList.length = l.length := by simpa using p1
    refine ⟨_, _, rfl, ⟨rfl, d'.toList, ⟨?_, ?_⟩, rfl⟩, ?_⟩
    · rw [show (l.toArray.extract 0 l.toArray.size) = l.toArray by simp] at p3
      rw [show d'.extract 0 l.toArray.size = d' by rw [← p1]; simp] at p3
      simpa using p3
    · rw [List.pairwise_iff_getElem]
      intro i j hi hj hij
      have hj2 : j < d'.size := by simpa using hj
      have hi2 : i < d'.size := by simpa using hi
      have := hso i j (Nat.zero_le _) hij (by rw [← p1]; exact hj2)
      simp only [ltG, decide_eq_false_iff_not] at this
      rw [getElem!_pos d' i hi2, getElem!_pos d' j hj2] at this
      simpa using this
    · rw [hlen]
      exact Sat.sorted os hs1 p1
  · refine (srt_tiny ao l.length cp (by omega) (.func 77) #[] _ w).mono ?_
    rintro e w' ⟨rfl, os, rfl⟩
    refine ⟨_, _, rfl, ⟨rfl, l, ⟨List.Perm.refl _, ?_⟩, rfl⟩, Sat.grown hs os⟩
    rw [List.pairwise_iff_getElem]
    intro i j hi hj hij
    omega
end Go.Proofs.Ytllpfpdanonhkaa
