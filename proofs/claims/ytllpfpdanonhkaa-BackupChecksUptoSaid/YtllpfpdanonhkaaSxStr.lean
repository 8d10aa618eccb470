/- The rules: bytes and strings. No condition. -/
import Derived.Test.YtllpfpdanonhkaaSxDefer
import Derived.Laws.BytesString
namespace Go.Sx
open Go.RowKit

/-- A block that is only read: what is frozen of it is left open. -/
def fro (e : TypeId) (q : Nat) (l : List (List Value)) : HP := fun h => Els 1 l ∧ ∃ cur fz, h q = some (.cells cur e fz) ∧ cur.toList.take l.length = l.flatten
theorem RdS.fro {w0 : World} {L F : List HP} {e : TypeId} {q : Nat} {l : List (List Value)} (hp : Pick L (Sx.fro e q l) F := by repeat (first | exact Pick.here | apply Pick.there)) (he : Els 1 l := by repeat (first | exact Els.nil | exact Els.ints | refine Els.cons ⟨rfl, by simp [Value.oneCell']⟩ ?_)) : RdS w0 L 1 (some ⟨q, 0, none⟩) l := by
  refine ⟨he, .inr ⟨_, rfl⟩, .inr fun a h => by cases h; rfl, fun i cs hi j v hv w hs => ?_⟩
  obtain ⟨f1, hl, ⟨_, cur, fz, hc, ht⟩, _⟩ := (hs.pick hp).star
  have h1 := flat_at he hi hv
  rw [← ht, List.getElem?_take] at h1
  split at h1
  · have h2 := hl q _ hc
    unfold ownf at h2
    split at h2
    · cases h2
    · simp only [Array.getElem?_toList] at h1
      simp only [adr, Option.getD_some, World.cell?, h2, Nat.zero_add]
      simpa using h1
  · cases h1

theorem ints_flat {k : IntKind} : ∀ {l : List Int}, (ints k l).flatten = l.map (Value.int k)
  | [] => rfl
  | a :: l => by
    show [Value.int k a] ++ (ints k l).flatten = _
    rw [ints_flat (l := l)]; rfl
/-- The string of bytes. -/
def strOf (l : List Int) : ByteArray := l.foldl (fun r n => r.push (UInt8.ofNat n.toNat)) ByteArray.empty

section
variable {c : Cx} {ops : Array Oper} {un : Nat → Nat → Bool} {K : St → Prop} {i : Nat} {rest : List (Nat × Nat × Oper)} {fs : Fs} {env : Env} {L : List HP} {ds : List Deferred}
variable {d : Tmp} {x y z : Operand} {ty t t2 : TypeId} {pos : String} {af : Array Edge} {g : Option (Nat × Bool)}

/-- Bytes as a string. -/
theorem Run.b2s {ao : Option Addr} {n cp : Nat} {e : TypeId} {bs : List Int} (ht : slcB c.P t = some (e, 1)) (he : c.P.underlying e = some (.int .u8)) (hd : c.P.underlying t2 = some .string) (hx : opd env x = some (.slice ao n cp) := by rfl) (hg : gok ops env g = true := by rfl) (hR : RdS c.w0 L 1 ao (ints .u8 bs)) (hn : n = bs.length)
    (h : Run c ops un K rest ((i, fun w => (execOp (rho env) ⟨some d, .convert t t2 x, ty, pos, af, g⟩).run c.P w = .ok (.value (.string (strOf bs))) w) :: fs) ⟨(d, .string (strOf bs)) :: env, L, ds⟩) : Run c ops un K ((i, 1, ⟨some d, .convert t t2 x, ty, pos, af, g⟩) :: rest) fs ⟨env, L, ds⟩ := by
  subst hn
  refine Run.reads (by simp [Op.operands, hx]) (by simp) (by simp) hg (fun w hs => ?_) h
  have hu : c.P.underlying t = some (.slice e) := by
    unfold slcB at ht
    split at ht <;> try cases ht
    rename_i e' hu
    cases hz : szB c.P e' with
    | none => rw [hz] at ht; cases ht
    | some k => rw [hz] at ht; simp at ht; rw [hu, ht.1]
  have hb : (Conv.bytesToString (.slice ao bs.length cp)).run c.P w = .ok (.string (strOf bs)) w := by
    cases ao with
    | none =>
      rcases hR.base with h0 | ⟨_, h0⟩
      · have : bs = [] := by simpa [ints] using h0
        subst this
        simp [Conv.bytesToString, strOf, ByteArray.empty, ByteArray.emptyWithCapacity]
      · cases h0
    | some a =>
      refine run_bytesToString (P := c.P) w a bs.length cp bs ?_
      have h1 := run_loadCells_list (P := c.P) w a (ints .u8 bs).flatten (hR.news hs)
      have h2 : (ints .u8 bs).flatten = bs.map (Value.int .u8) := ints_flat
      rw [h2, List.length_map] at h1
      exact h1
  simp [execOp, rho_of hx, convert, underlying, hu, hd, he, hb]

/-- Strings beside one another. -/
theorem Run.seq {a b : ByteArray} (hx : opd env x = some (.string a) := by rfl) (hy : opd env y = some (.string b) := by rfl) (hg : gok ops env g = true := by rfl) (h : Run c ops un K rest fs ⟨(d, .bool (a.toList == b.toList)) :: env, L, ds⟩) :
    Run c ops un K ((i, 0, ⟨some d, .binOp .eql t x y t2, ty, pos, af, g⟩) :: rest) fs ⟨env, L, ds⟩ :=
  Run.calm (by simp [Op.operands, hx, hy]) (by simp) (by simp) hg (fun w => by simp [execOp, rho_of hx, rho_of hy, eqGuard, binOp, Op.stringOp]) h
theorem Run.sne {a b : ByteArray} (hx : opd env x = some (.string a) := by rfl) (hy : opd env y = some (.string b) := by rfl) (hg : gok ops env g = true := by rfl) (h : Run c ops un K rest fs ⟨(d, .bool !(a.toList == b.toList)) :: env, L, ds⟩) :
    Run c ops un K ((i, 0, ⟨some d, .binOp .neq t x y t2, ty, pos, af, g⟩) :: rest) fs ⟨env, L, ds⟩ :=
  Run.calm (by simp [Op.operands, hx, hy]) (by simp) (by simp) hg (fun w => by simp [execOp, rho_of hx, rho_of hy, eqGuard, binOp, Op.stringOp]) h

/-- A literal of bytes as what it is: it is marked, and only read from here on. -/
theorem Run.cvz {n cp q : Nat} {e : TypeId} {l : List (List Value)} {F : List HP} (ht : slcB c.P t = some (e, 1)) (he : c.P.underlying e = some (.int .u8)) (hx : opd env x = some (.slice (some ⟨q, 0, none⟩) n cp) := by rfl) (hp : Pick L (row e 1 (some ⟨q, 0, none⟩) cp l) F := by repeat (first | exact Pick.here | apply Pick.there)) (hg : gok ops env g = true := by rfl)
    (hk : ∀ e' ∈ fs, un e'.1 i = true → ∀ w, Sat c.w0 w (fro e q l :: F) → e'.2 w := by (intro _ _ hq; cases hq))
    (h : Run c ops un K rest fs ⟨(d, .slice (some ⟨q, 0, none⟩) n cp) :: env, fro e q l :: F, ds⟩) : Run c ops un K ((i, 3, ⟨some d, .convert t t x, ty, pos, af, g⟩) :: rest) fs ⟨env, L, ds⟩ := by
  have hu : c.P.underlying t = some (.slice e) := by
    unfold slcB at ht
    split at ht <;> try cases ht
    rename_i e' hu
    cases hz : szB c.P e' with
    | none => rw [hz] at ht; cases ht
    | some k => rw [hz] at ht; simp at ht; rw [hu, ht.1]
  refine .inl ⟨defd_of (by simp [Op.operands, hx]) (.inl hg), by simp, gok_wanted hg, by simp, fun u L' => u = .slice (some ⟨q, 0, none⟩) n cp ∧ L' = fro e q l :: F, fun a w ha _ hs => ?_, fun _ => ⟨_, _, rfl, rfl⟩, fun e' he' hu' u L' ⟨_, hL⟩ w hw => by subst hL; exact hk e' he' hu' w hw, fun u L' ⟨h1, hL⟩ => by subst h1 hL; exact h⟩
  obtain ⟨hE, ⟨hn, _⟩ | ⟨q', cur, hq, hlc, hcm, hcs, htk, hB⟩⟩ := (hs.pick hp).row
  · cases hn
  · cases hq
    have hb := hB.blk_at.1
    have hsh : w.shape? q = some (e, cur.size) := by simp [World.shape?, hb]
    have hlt : q < w.heap.size := (Array.getElem?_eq_some_iff.1 hb).1
    have hrun : (execOp a.eval ⟨some d, .convert t t x, ty, pos, af, g⟩).run c.P w = .ok (.value (.slice (some ⟨q, 0, none⟩) n cp)) (w.freeze ⟨q, cur.size, none⟩ 1) := by
      rw [ha.exec (by simp)]
      simp [execOp, rho_of hx, convert, underlying, hu, he, markStringish, hsh]
    have hturn := hB.turn (w' := w.freeze ⟨q, cur.size, none⟩ 1) (o' := .cells cur e (cur.size, cur.size + 1)) (by simp [World.freeze]) (by simp [World.freeze]) (by simp [World.freeze]) (by simp [World.freeze]) (by simp [World.freeze, Array.getElem?_modify, hb]) (fun k hk => by simp [World.freeze, Array.getElem?_modify, Ne.symm hk])
    refine ⟨by simp [Oper.about], ?_⟩
    rw [Oper.semAt_eq _ _ _ (by simp), hrun]
    refine ⟨_, _, rfl, ⟨rfl, rfl⟩, hturn.bel, ?_⟩
    obtain ⟨f1, h1, h2, h3⟩ := hturn.star
    exact ⟨f1, h1, ⟨hE, cur, _, h2, by simpa using htk⟩, h3⟩
end
end Go.Sx
