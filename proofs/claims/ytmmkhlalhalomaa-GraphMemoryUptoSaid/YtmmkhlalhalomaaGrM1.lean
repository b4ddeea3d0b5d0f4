import Derived.Test.YtmmkhlalhalomaaGrC8
set_option linter.unusedVariables false
set_option linter.unusedSimpArgs false
namespace Go.Proofs.Ytmmkhlalhalomaa
open Go Go.Low
/-! ### chains of Ids -/
def itI (q : Int → Option Int) : Nat → Int → Option Int
  | 0, i => some i
  | k + 1, i => (q i).bind (itI q k)
theorem itI_add (p : Int → Option Int) (a b : Nat) (i : Int) : itI p (a + b) i = (itI p a i).bind (itI p b) := by
  induction a generalizing i with
  | zero => simp [itI]
  | succ a ih =>
    rw [show a + 1 + b = (a + b) + 1 by omega]
    simp only [itI]
    cases p i with
    | none => rfl
    | some j => exact ih j
theorem itI_succ (p : Int → Option Int) (k : Nat) (i : Int) : itI p (k + 1) i = (itI p k i).bind p := by
  rw [itI_add]
  cases itI p k i with
  | none => rfl
  | some j => show itI p 1 j = p j; simp only [itI]; cases p j <;> rfl
/-- the chain of Ids is the chain of places -/
theorem itI_it {ms : List Nd} {p : Par} {ps : List (Int × Int)} (h : PsOk ms p ps) (hlp : ∀ k j, p k = some j → j < ms.length) : ∀ (t k : Nat) (m : Nd), ms[k]? = some m → itI (aget ps) t m.id = (it p t k).bind fun j => (ms[j]?).map Nd.id
  | 0, k, m, hm => by simp [itI, it, hm]
  | t + 1, k, m, hm => by
    simp only [itI, it, h.get k m hm]
    cases hp : p k with
    | none => rfl
    | some j =>
      have hj := hlp k j hp
      obtain ⟨mj, hmj⟩ : ∃ mj, ms[j]? = some mj := ⟨_, List.getElem?_eq_getElem hj⟩
      simp only [Option.bind_some, hmj, Option.map_some]
      exact itI_it h hlp t j mj hmj
theorem it_lt {p : Par} {n : Nat} (hlp : ∀ k j, p k = some j → j < n) {t k j : Nat} (hk : k < n) (h : it p t k = some j) : j < n := by
  cases t with
  | zero => cases h; exact hk
  | succ t =>
    rw [it_succ] at h
    cases hq : it p t k with
    | none => rw [hq] at h; cases h
    | some z => rw [hq] at h; exact hlp z j h
theorem itI_none {ms : List Nd} {p : Par} {ps : List (Int × Int)} (h : PsOk ms p ps) (hlp : ∀ k j, p k = some j → j < ms.length) {t k : Nat} {m : Nd} (hm : ms[k]? = some m) : itI (aget ps) t m.id = none ↔ it p t k = none := by
  rw [itI_it h hlp t k m hm]
  cases hq : it p t k with
  | none => simp
  | some j =>
    have := it_lt hlp (some_lt hm) hq
    rw [Option.bind_some, List.getElem?_eq_getElem this]
    simp
theorem aget_mem {κ α : Type} [DecidableEq κ] {es : List (κ × α)} {x : κ} (h : (aget es x).isSome = true) : x ∈ es.map (·.1) := by
  induction es with
  | nil => simp [aget] at h
  | cons e r ih =>
    obtain ⟨k, v⟩ := e
    simp only [aget] at h
    by_cases e : k = x
    · subst e; simp
    · rw [if_neg e] at h
      exact List.mem_cons_of_mem _ (ih h)
theorem cycleI {q : Int → Option Int} {x : Int} {d : Nat} (hd : 0 < d) (h : itI q d x = some x) (k : Nat) : itI q k x ≠ none := by
  have : ∀ t, itI q (t * d) x = some x := by
    intro t
    induction t with
    | zero => simp [itI]
    | succ t ih => rw [Nat.add_mul, Nat.one_mul, itI_add, ih]; exact h
  intro hk
  have h2 : itI q (k * d) x = none := by
    have hle := Nat.le_mul_of_pos_right k hd
    rw [show k * d = k + (k * d - k) by omega, itI_add, hk]; rfl
  rw [this] at h2
  cases h2
/-- a chain that meets more keys than there are never ends -/
theorem long_not {ps : List (Int × Int)} {id : Int} (h : ∀ t, t ≤ ps.length → ∃ x, itI (aget ps) t id = some x ∧ (aget ps x).isSome = true) (k : Nat) : itI (aget ps) k id ≠ none := by
  obtain ⟨a, b, hab, hb, e⟩ := php ps.length (fun t => (ps.map (·.1)).idxOf ((itI (aget ps) t id).getD 0)) fun t ht => by
    obtain ⟨x, hx, hs⟩ := h t ht
    rw [hx]
    have := List.idxOf_lt_length_iff.2 (aget_mem hs)
    simpa using this
  obtain ⟨xa, ha, hsa⟩ := h a (by omega)
  obtain ⟨xb, hb', hsb⟩ := h b hb
  rw [ha, hb'] at e
  simp only [Option.getD_some] at e
  have hma := aget_mem hsa
  have hmb := aget_mem hsb
  have g1 := List.getElem_idxOf (List.idxOf_lt_length_iff.2 hma)
  have g2 := List.getElem_idxOf (List.idxOf_lt_length_iff.2 hmb)
  have hxx : xa = xb := by rw [← g1, ← g2]; congr 1
  subst hxx
  have hcyc : itI (aget ps) (b - a) xa = some xa := by
    have := hb'
    rw [show b = a + (b - a) by omega, itI_add, ha] at this
    exact this
  intro hk
  have : itI (aget ps) (a + k) id = none := by
    rw [show a + k = k + a by omega, itI_add, hk]; rfl
  rw [itI_add, ha] at this
  exact cycleI (by omega) hcyc k this
end Go.Proofs.Ytmmkhlalhalomaa
