import Derived.Test.YtmmkhlalhalomaaGrC5
set_option linter.unusedVariables false
set_option linter.unusedSimpArgs false
namespace Go.Proofs.Ytmmkhlalhalomaa
open Go Go.Low
/-! ### parents, and chains that end -/
abbrev Par := Nat → Option Nat
def it (p : Par) : Nat → Nat → Option Nat
  | 0, i => some i
  | k + 1, i => (p i).bind (it p k)
def Ends (p : Par) (i : Nat) : Prop := ∃ k, it p k i = none
theorem it_add (p : Par) (a b i : Nat) : it p (a + b) i = (it p a i).bind (it p b) := by
  induction a generalizing i with
  | zero => simp [it]
  | succ a ih =>
    rw [show a + 1 + b = (a + b) + 1 by omega]
    simp only [it]
    cases p i with
    | none => rfl
    | some j => exact ih j
theorem it_none {p : Par} {a b i : Nat} (h : it p a i = none) (hab : a ≤ b) : it p b i = none := by
  rw [show b = a + (b - a) by omega, it_add, h]; rfl
theorem it_succ (p : Par) (k i : Nat) : it p (k + 1) i = (it p k i).bind p := by
  rw [it_add]
  cases it p k i with
  | none => rfl
  | some j => show it p 1 j = p j; simp only [it]; cases p j <;> rfl
/-- a chain that comes back never ends -/
theorem cycle_not {p : Par} {i d : Nat} (hd : 0 < d) (h : it p d i = some i) : ¬ Ends p i := by
  rintro ⟨k, hk⟩
  have : ∀ t, it p (t * d) i = some i := by
    intro t
    induction t with
    | zero => simp [it]
    | succ t ih => rw [Nat.add_mul, Nat.one_mul, it_add, ih]; exact h
  have h2 := it_none hk (show k ≤ k * d from Nat.le_mul_of_pos_right k hd)
  rw [this] at h2
  cases h2
theorem Ends.up {p : Par} {i j k : Nat} (h : Ends p i) (hj : it p k i = some j) : Ends p j := by
  obtain ⟨m, hm⟩ := h
  refine ⟨m, ?_⟩
  have := it_none hm (show m ≤ k + m by omega)
  rw [it_add, hj] at this
  exact this
theorem Ends.down {p : Par} {i j k : Nat} (h : Ends p j) (hj : it p k i = some j) : Ends p i := by
  obtain ⟨m, hm⟩ := h
  exact ⟨k + m, by rw [it_add, hj]; exact hm⟩
theorem php : ∀ (n : Nat) (f : Nat → Nat), (∀ k, k ≤ n → f k < n) → ∃ a b, a < b ∧ b ≤ n ∧ f a = f b
  | 0, f, h => absurd (h 0 (Nat.le_refl _)) (by omega)
  | n + 1, f, h => by
    by_cases hx : ∃ a, a ≤ n ∧ f a = f (n + 1)
    · obtain ⟨a, ha, e⟩ := hx
      exact ⟨a, n + 1, by omega, Nat.le_refl _, e⟩
    · have hx' : ∀ a, a ≤ n → f a ≠ f (n + 1) := fun a ha e => hx ⟨a, ha, e⟩
      obtain ⟨a, b, hab, hb, e⟩ := php n (fun k => if f k = n then f (n + 1) else f k) fun k hk => by
        split
        · rename_i hn
          have h1 := h (n + 1) (by omega)
          have h2 := hx' k hk
          omega
        · have := h k (by omega); omega
      have ha := hx' a (by omega)
      have hb' := hx' b hb
      refine ⟨a, b, hab, by omega, ?_⟩
      by_cases h1 : f a = n
      · by_cases h2 : f b = n
        · rw [h1, h2]
        · rw [if_pos h1, if_neg h2] at e; exact absurd e.symm hb'
      · by_cases h2 : f b = n
        · rw [if_neg h1, if_pos h2] at e; exact absurd e ha
        · rwa [if_neg h1, if_neg h2] at e
/-- a chain that ends among n places ends within n steps -/
theorem Ends.within {p : Par} {n i : Nat} (hp : ∀ k j, p k = some j → j < n) (hi : i < n) (h : Ends p i) : it p n i = none := by
  cases hn : it p n i with
  | none => rfl
  | some z =>
    exfalso
    have hsome : ∀ k, k ≤ n → ∃ c, it p k i = some c := fun k hk => by
      cases hc : it p k i with
      | none => have := it_none hc hk; rw [hn] at this; cases this
      | some c => exact ⟨c, rfl⟩
    obtain ⟨a, b, hab, hb, e⟩ := php n (fun k => (it p k i).getD 0) fun k hk => by
      obtain ⟨c, hc⟩ := hsome k hk
      rw [hc]
      cases k with
      | zero => simp [it] at hc; simp [← hc, hi]
      | succ k =>
        rw [it_succ] at hc
        cases hk' : it p k i with
        | none => rw [hk'] at hc; cases hc
        | some c' => rw [hk'] at hc; exact hp c' c hc
    obtain ⟨ca, hca⟩ := hsome a (by omega)
    obtain ⟨cb, hcb⟩ := hsome b hb
    simp only [hca, hcb, Option.getD_some] at e
    subst e
    have hcyc : it p (b - a) ca = some ca := by
      have := hcb
      rw [show b = a + (b - a) by omega, it_add, hca] at this
      exact this
    exact cycle_not (by omega) hcyc (h.up hca)
/-! ### the graph's test -/
def okNd (m : Nd) : Bool := okNode (m.hd ⟨none, m.data.length, 0⟩ ⟨none, m.ents.length, 0⟩)
theorem ok_congr {m : Nd} {d d' e e' : Sl} (hd : d.n = d'.n) (he : e.n = e'.n) : okNode (m.hd d e) = okNode (m.hd d' e') := by
  obtain ⟨dp, dn, dc⟩ := d
  obtain ⟨dp', dn', dc'⟩ := d'
  obtain ⟨ep, en, ec⟩ := e
  obtain ⟨ep', en', ec'⟩ := e'
  simp only at hd he
  subst hd
  subst he
  rfl
theorem NodeAt.ok {w : World} {x : S_api_Node} {m : Nd} (h : NodeAt w x m) : okNode x = okNd m := by
  rw [h.hd]
  exact ok_congr h.data.n h.ents.n
def entsGo (ms : List Nd) (i : Nat) : List S_api_Ent → ByteArray → Par → Option Par
  | [], _, p => some p
  | e :: r, nm, p => match pos ms e.Id with
    | none => none
    | some k => if (good e.Name && !(slt e.Name nm || decide (e.Name = nm))) = true then
        if (ms[k]?).map Nd.kind = some 2 then
          if (p k).isSome = true then none else entsGo ms i r e.Name fun x => if x = k then some i else p x
        else entsGo ms i r e.Name p
      else none
def nodesGo (ms : List Nd) : List Nd → Nat → Par → Option Par
  | [], _, p => some p
  | m :: r, i, p => (entsGo ms i m.ents ⟨#[]⟩ p).bind (nodesGo ms r (i + 1))
structure OkNodes (ms : List Nd) : Prop where
  ok : ∀ (i : Nat) m, ms[i]? = some m → okNd m = true ∧ 1 ≤ m.id ∧ m.id ≤ 1099511627776
  step : ∀ (i : Nat) m m', ms[i]? = some m → ms[i + 1]? = some m' → m.id < m'.id
theorem OkNodes.rising {ms : List Nd} (h : OkNodes ms) : Rising ms := by
  intro i j m m' hij hm hm'
  induction j generalizing m' with
  | zero => omega
  | succ j ih =>
    by_cases e : i = j
    · subst e; exact h.step _ _ _ hm hm'
    · have hj : j < ms.length := by have := some_lt hm'; omega
      have := ih ms[j] (by omega) (List.getElem?_eq_getElem hj)
      have := h.step j _ _ (List.getElem?_eq_getElem hj) hm'
      omega
def entSum (ms : List Nd) : Nat := (ms.map fun m => m.ents.length).sum
structure OkGraph (ms : List Nd) : Prop where
  len : ms.length ≤ 4096
  nodes : OkNodes ms
  sum : entSum ms ≤ 8192
  par : ∃ p, nodesGo ms ms 0 (fun _ => none) = some p ∧ ∀ i, i < ms.length → Ends p i
theorem entSum_snoc (ms : List Nd) (m : Nd) : entSum (ms ++ [m]) = entSum ms + m.ents.length := by simp [entSum]
theorem entSum_take {ms : List Nd} (j : Nat) : entSum (ms.take j) ≤ entSum ms := by
  have : entSum ms = entSum (ms.take j) + entSum (ms.drop j) := by
    rw [entSum, entSum, entSum, ← List.sum_append, ← List.map_append, List.take_append_drop]
  omega
/-- parents are places -/
theorem entsGo_lt {ms : List Nd} {i n : Nat} (hi : i < n) : ∀ {es : List S_api_Ent} {nm : ByteArray} {p q : Par}, entsGo ms i es nm p = some q → (∀ k j, p k = some j → j < n) → ∀ k j, q k = some j → j < n
  | [], nm, p, q, h, hp => by cases h; exact hp
  | e :: r, nm, p, q, h, hp => by
    rw [entsGo] at h
    split at h
    · cases h
    · split at h
      · split at h
        · split at h
          · cases h
          · refine entsGo_lt hi h fun k j hk => ?_
            split at hk
            · cases hk; exact hi
            · exact hp k j hk
        · exact entsGo_lt hi h hp
      · cases h
theorem nodesGo_lt {ms : List Nd} {n : Nat} : ∀ {r : List Nd} {i : Nat} {p q : Par}, i + r.length ≤ n → nodesGo ms r i p = some q → (∀ k j, p k = some j → j < n) → ∀ k j, q k = some j → j < n
  | [], i, p, q, _, h, hp => by cases h; exact hp
  | m :: r, i, p, q, hn, h, hp => by
    rw [nodesGo] at h
    simp only [List.length_cons] at hn
    cases he : entsGo ms i m.ents ⟨#[]⟩ p with
    | none => rw [he] at h; cases h
    | some p' =>
      rw [he] at h
      exact nodesGo_lt (i := i + 1) (by omega) h (entsGo_lt (by omega) he hp)
end Go.Proofs.Ytmmkhlalhalomaa
