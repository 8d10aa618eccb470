/- Helps for the walks: what rows give, elements of lists of numbers. No condition. -/
import Derived.Test.YtllpfpdanonhkaaSxEq
namespace Go.Sx
open Go.RowKit

theorem RdS.sub {w0 : World} {L L2 : List HP} {sz : Nat} {ao : Option Addr} {l : List (List Value)} (h : RdS w0 L sz ao l) (hl : SubL L2 L := by repeat (first | exact SubL.refl | refine SubL.cons (by repeat (first | exact Pick.here | apply Pick.there)) ?_ | refine SubL.skip ?_ | exact SubL.nil)) : RdS w0 L2 sz ao l := h.ent fun _ => hl.star
/-- A row that has a block. -/
theorem RdS.one {w0 : World} {L F : List HP} {e : TypeId} {sz q cp : Nat} {l : List (List Value)} (hp : Pick L (row e sz (some ⟨q, 0, none⟩) cp l) F := by repeat (first | exact Pick.here | apply Pick.there)) (he : Els sz l := by repeat (first | exact Els.nil | exact Els.ints | refine Els.cons ⟨rfl, by simp [Value.oneCell']⟩ ?_)) : RdS w0 L sz (some ⟨q, 0, none⟩) l :=
  RdS.own hp ⟨he, .inr ⟨_, rfl⟩, fun a h => by cases h; rfl⟩

section
variable {c : Cx} {n : Nat} {S : St} {X : Act → World → Prop}
/-- Of a row: how it is read, and its bounds. -/
theorem At.rowR {F : List HP} {e : TypeId} {sz : Nat} {ao : Option Addr} {cp : Nat} {l : List (List Value)} (hp : Pick S.L (row e sz ao cp l) F := by repeat (first | exact Pick.here | apply Pick.there))
    (h : (∀ {L' F' : List HP} {cp' : Nat}, Pick L' (row e sz ao cp' l) F' → RdS c.w0 L' sz ao l) → Els sz l → l.length ≤ cp → cp ≤ maxLen → At c n S X) : At c n S X :=
  At.rows hp fun h1 h2 h3 h4 h5 _ => h (fun hp' => RdS.own hp' ⟨h1, h2, h3⟩) h1 h4 h5
end
section
variable {c : Cx} {n : Nat} {X : Act → World → Prop}
/-- What a variable holds, said otherwise. -/
theorem At.say {env : Env} {L : List HP} {ds : List Deferred} {v : Value} (t : Nat) (v' : Value) (hx : look env t = some v := by rfl) (e : v = v') (h : At c n ⟨(t, v') :: env, L, ds⟩ X) : At c n ⟨env, L, ds⟩ X := by
  subst e
  refine At.ent (S := ⟨(t, v) :: env, L, ds⟩) (S2 := ⟨env, L, ds⟩) ⟨fun k u hk => ?_, fun _ h => h, rfl⟩ h
  by_cases e : t = k
  · subst e; simp only [look_cons_same] at hk; rw [← hk]; exact hx
  · simp only [look_cons_ne e] at hk; exact hk
end
section
variable {c : Cx} {ops : Array Oper} {un : Nat → Nat → Bool} {K : St → Prop} {fs : Fs} {env : Env} {L : List HP} {ds : List Deferred}
theorem Run.fact {p : Prop} {l : List (Nat × Nat × Oper)} (hp : p) (h : p → Run c ops un K l fs ⟨env, L, ds⟩) : Run c ops un K l fs ⟨env, L, ds⟩ := h hp
end

theorem ints_at {k : IntKind} {l : List Int} {i : Nat} (h : i < l.length) : (ints k l)[i]? = some [.int k (l.getD i 0)] := by
  simp [ints, List.getD, h]
@[simp] theorem ints_length {k : IntKind} {l : List Int} : (ints k l).length = l.length := by simp [ints]
theorem ints_app {k : IntKind} {l m : List Int} : ints k l ++ ints k m = ints k (l ++ m) := by simp [ints]
theorem ints_one {k : IntKind} {a : Int} : [[Value.int k a]] = ints k [a] := rfl
theorem ints_snoc {k : IntKind} {l : List Int} {a : Int} : ints k l ++ [[Value.int k a]] = ints k (l ++ [a]) := by simp [ints]
theorem ints_set {k : IntKind} {l : List Int} {i : Nat} {a : Int} : (ints k l).set i [.int k a] = ints k (l.set i a) := by simp [ints, List.map_set]
theorem ints_rep {k : IntKind} {n : Nat} {a : Int} : List.replicate n [Value.int k a] = ints k (List.replicate n a) := by simp [ints]
theorem ints_take {k : IntKind} {l : List Int} {n : Nat} : (ints k l).take n = ints k (l.take n) := by simp [ints, List.map_take]
theorem ints_drop {k : IntKind} {l : List Int} {n : Nat} : (ints k l).drop n = ints k (l.drop n) := by simp [ints, List.map_drop]

theorem Sat.sub {w0 w : World} {L F : List HP} (hs : Sat w0 w L) (hl : SubL L F := by repeat (first | exact SubL.refl | refine SubL.cons (by repeat (first | exact Pick.here | apply Pick.there)) ?_ | refine SubL.skip ?_ | exact SubL.nil)) : Sat w0 w F := hs.ent fun _ => hl.star
/-- A result that lies in a block of its own. -/
theorem ResR.block {P : Program} {w0 : World} {S : St} {t : Tmp} {u t' : TypeId} {g n0 : Nat} {l : List Value} {F : List HP} {r : List ResultVar} {vs : List Value} (h : look S.env t = some (.pointer (some ⟨g, 0, none⟩)) := by rfl) (hp : Pick S.L (cel g t' l) F := by repeat (first | exact Pick.here | apply Pick.there)) (ht : aggB P u = some true) (hn : szB P u = some n0) (hl : l.length = n0 := by rfl) (k : ResR P w0 S r vs) : ResR P w0 S (.cell t u :: r) (.agg l.toArray :: vs) :=
  ResR.agg h rfl ht (by rw [hn, hl]) (fun j v hj => by
    have := Cel.own (w0 := w0) (k := 0 + j) hp (by rw [Nat.zero_add]; exact hj)
    exact this) k
theorem ResR.block1 {P : Program} {w0 : World} {S : St} {t : Tmp} {u t' : TypeId} {g : Nat} {v : Value} {F : List HP} {r : List ResultVar} {vs : List Value} (h : look S.env t = some (.pointer (some ⟨g, 0, none⟩)) := by rfl) (hp : Pick S.L (cel g t' [v]) F := by repeat (first | exact Pick.here | apply Pick.there)) (ht : aggB P u = some false) (k : ResR P w0 S r vs) : ResR P w0 S (.cell t u :: r) (v :: vs) :=
  ResR.cell h ht (Cel.own (k := 0) hp rfl) k

theorem noun {fs : Fs} {un : Nat → Nat → Bool} {i : Nat} {R : Nat × (World → Prop) → Prop} (h : (fs.map (·.1)).all (fun j => !un j i) = true) : ∀ e ∈ fs, un e.1 i = true → R e := fun e he hu => by
  have := List.all_eq_true.1 h e.1 (List.mem_map.2 ⟨e, he, rfl⟩)
  rw [hu] at this; cases this

/-- A part of what is read. -/
theorem RdS.cut {w0 : World} {L : List HP} {sz : Nat} {ao : Option Addr} {l : List (List Value)} (h : RdS w0 L sz ao l) {a b cp : Nat} (hc : l.length ≤ cp) (hb : b ≤ l.length) : RdS w0 L sz (cutA ao a sz cp) ((l.take b).drop a) := by
  unfold cutA
  split
  · rename_i e
    have : (l.take b).drop a = [] := by apply List.drop_eq_nil_of_le; rw [List.length_take]; omega
    rw [this]
    exact ⟨Els.nil, .inl rfl, .inl rfl, fun i cs hi => by simp at hi⟩
  · refine ⟨h.els.take.drop, ?_, .inr fun x hx => ?_, fun i cs hi j v hv => ?_⟩
    · rcases h.base with rfl | ⟨x, rfl⟩
      · exact .inl (by simp)
      · exact .inr ⟨_, rfl⟩
    · cases ao with
      | none => cases hx
      | some y => cases hx; rfl
    · rw [List.getElem?_drop, List.getElem?_take] at hi
      split at hi
      · have := h.cel (a + i) cs hi j v hv
        rcases h.base with rfl | ⟨x, rfl⟩
        · simp at hi
        · simp only [adr, Option.map_some, Option.getD_some, plus] at this ⊢
          rw [show x.off + a * sz + (i * sz + j) = x.off + ((a + i) * sz + j) by rw [Nat.add_mul]; omega]
          exact this
      · cases hi
end Go.Sx
