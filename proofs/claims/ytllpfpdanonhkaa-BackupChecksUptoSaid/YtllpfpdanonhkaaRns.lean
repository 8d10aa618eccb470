/- Runs of one's own; reading, plainly; what Decode defers. No condition. -/
import Derived.Test.YtllpfpdanonhkaaDec
set_option maxRecDepth 8000
set_option maxHeartbeats 4000000
set_option linter.unusedVariables false
set_option linter.unusedSimpArgs false
namespace Go.Proofs.Ytllpfpdanonhkaa
open Go.Sx Go.RowKit

/-! ### Runs of one's own, as a chunk -/
theorem pick_mid {l F : List HP} {a : HP} : Pick (l ++ a :: F) a (l ++ F) := by
  induction l with
  | nil => exact .here
  | cons _ _ ih => exact .there ih
theorem pack_cons {a : HP} {l F : List HP} {f : Frag} : Star (pack (a :: l) :: F) f ↔ Star (a :: pack l :: F) f :=
  ⟨fun h => Star.cons_mono (fun _ => Star.repack (L1 := l)) (Star.unpack (L1 := a :: l) h), fun h => Star.repack (L1 := a :: l) (Star.cons_mono (fun _ => Star.unpack (L1 := l)) h)⟩
theorem pack_snoc {a : HP} {l F : List HP} {f : Frag} : Star (pack (l ++ [a]) :: F) f ↔ Star (a :: pack l :: F) f := by
  constructor
  · intro h
    have h1 := Star.unpack (L1 := l ++ [a]) h
    rw [List.append_assoc] at h1
    exact Star.cons_mono (fun _ => Star.repack (L1 := l)) (pick_mid.star h1)
  · intro h
    refine Star.repack (L1 := l ++ [a]) ?_
    rw [List.append_assoc]
    exact pick_mid.unstar (Star.cons_mono (fun _ => Star.unpack (L1 := l)) h)
def dat (r : RV) : HP := row 5 1 r.2.1 r.2.2 (ints .u8 r.1.data)
def Rns (ao : Option Addr) (cp : Nat) (rs : List RV) : HP := pack (row 76 4 ao cp (rs.map cellsV) :: rs.map dat)
theorem Rns_nil {F : List HP} {f : Frag} (h : Star F f) : Star (Rns none 0 [] :: F) f := pack_cons.2 (Star.nilRow (Star.repack (L1 := []) h))
theorem Rns_open {ao : Option Addr} {cp : Nat} {rs : List RV} {F : List HP} {f : Frag} : Star (Rns ao cp rs :: F) f ↔ Star (row 76 4 ao cp (rs.map cellsV) :: pack (rs.map dat) :: F) f := pack_cons
/-- A run more, its data ahead. -/
theorem Rns_snoc {ao : Option Addr} {cp : Nat} {rs : List RV} {r : RV} {F : List HP} {f : Frag} (h : Star (row 76 4 ao cp (rs.map cellsV ++ [cellsV r]) :: dat r :: pack (rs.map dat) :: F) f) : Star (Rns ao cp (rs ++ [r]) :: F) f := by
  refine Rns_open.2 ?_
  rw [List.map_append, List.map_append]
  exact Star.cons_mono (fun _ h => pack_snoc.2 h) h

section
variable {c : Cx} {n : Nat} {S : St} {X : Act → World → Prop}
/-- How runs of one's own are read. -/
theorem At.rns {F : List HP} {ao : Option Addr} {cp : Nat} {rs : List RV} (hp : Pick S.L (Rns ao cp rs) F := by repeat (first | exact Pick.here | apply Pick.there))
    (h : (∀ {L' F' : List HP}, Pick L' (Rns ao cp rs) F' → RdS c.w0 L' 4 ao (rs.map cellsV) ∧ ∀ r ∈ rs, RdS c.w0 L' 1 r.2.1 (ints .u8 r.1.data)) → rs.length ≤ cp → cp ≤ maxLen → At c n S X) : At c n S X := fun a w hr hs => by
  have h0 := Rns_open.1 (hs.pick hp).star
  obtain ⟨f1, _, hrow, hst⟩ := h0
  obtain ⟨e1, e2, e3, e4, e5, _⟩ := row_shape hrow
  have hdat : ∀ r ∈ rs, Els 1 (ints .u8 r.1.data) ∧ (ints .u8 r.1.data = [] ∨ ∃ a, r.2.1 = some a) ∧ ∀ a, r.2.1 = some a → a.spot = none := fun r hrm => by
    obtain ⟨l1, l2, rfl⟩ := List.append_of_mem hrm
    obtain ⟨f2, _, hpk, _⟩ := hst
    rw [List.map_append, List.map_cons] at hpk
    obtain ⟨f4, _, b4, _⟩ := (pick_mid (l := l1.map dat) (a := dat r) (F := l2.map dat)).star hpk
    have hd := row_shape b4
    exact ⟨hd.1, hd.2.1, hd.2.2.1⟩
  refine h (fun {L' F'} hp' => ⟨?_, fun r hrm => ?_⟩) (by simpa using e4) e5 a w hr hs
  · exact (RdS.own (L := row 76 4 ao cp (rs.map cellsV) :: pack (rs.map dat) :: F') .here ⟨e1, e2, e3⟩).ent fun _ hf => Rns_open.1 (hp'.star hf)
  · obtain ⟨l1, l2, rfl⟩ := List.append_of_mem hrm
    refine (RdS.own (w0 := c.w0) (L := dat r :: (l1.map dat ++ (l2.map dat ++ F'))) .here (hdat r hrm)).ent fun f hf => ?_
    have h1 := (Rns_open.1 (hp'.star hf)).tail
    rw [List.map_append, List.map_cons] at h1
    have h2 := Star.unpack (L1 := l1.map dat ++ dat r :: l2.map dat) h1
    rw [List.append_assoc] at h2
    exact pick_mid.star h2
end

end Go.Proofs.Ytllpfpdanonhkaa
