import Derived.Test.YtmmkhlalhalomaaGrC25
set_option linter.unusedVariables false
set_option linter.unusedSimpArgs false
namespace Go.Proofs.Ytmmkhlalhalomaa
open Go Go.Low
/-! ### the order of names -/
theorem bl_irrefl : ∀ a : List UInt8, Op.bytesLess a a = false
  | [] => rfl
  | x :: r => by
    have := bl_irrefl r
    simp [Op.bytesLess, this]
theorem bl_trans : ∀ {a b c : List UInt8}, Op.bytesLess a b = true → Op.bytesLess b c = true → Op.bytesLess a c = true
  | _, [], _, h, _ => by simp [Op.bytesLess] at h
  | _, _ :: _, [], _, h => by simp [Op.bytesLess] at h
  | [], _ :: _, _ :: _, _, _ => rfl
  | x :: a, y :: b, z :: c, h, h' => by
    simp only [Op.bytesLess, Bool.or_eq_true, decide_eq_true_eq, Bool.and_eq_true, beq_iff_eq] at h h' ⊢
    rcases h with h | ⟨rfl, h⟩
    · rcases h' with h' | ⟨rfl, h'⟩
      · exact .inl (UInt8.lt_trans h h')
      · exact .inl h
    · rcases h' with h' | ⟨rfl, h'⟩
      · exact .inl h'
      · exact .inr ⟨rfl, bl_trans h h'⟩
theorem bl_total : ∀ {a b : List UInt8}, Op.bytesLess a b = false → a ≠ b → Op.bytesLess b a = true
  | [], [], _, h => absurd rfl h
  | [], _ :: _, h, _ => by simp [Op.bytesLess] at h
  | _ :: _, [], _, _ => rfl
  | x :: a, y :: b, h, hne => by
    simp only [Op.bytesLess, Bool.or_eq_false_iff, decide_eq_false_iff_not, Bool.and_eq_false_iff, Bool.or_eq_true, decide_eq_true_eq, Bool.and_eq_true, beq_iff_eq] at h ⊢
    obtain ⟨h1, h2⟩ := h
    by_cases e : x = y
    · subst e
      right
      refine ⟨rfl, bl_total ?_ fun e2 => hne (by rw [e2])⟩
      rcases h2 with h2 | h2
      · simp at h2
      · exact h2
    · left
      rcases UInt8.lt_or_lt_of_ne e with h | h
      · exact absurd h h1
      · exact h
theorem slt_trans {a b c : ByteArray} (h : slt a b = true) (h' : slt b c = true) : slt a c = true := bl_trans h h'
theorem slt_irrefl (a : ByteArray) : slt a a = false := bl_irrefl _
theorem slt_total {a b : ByteArray} (h : slt a b = false) (hne : a ≠ b) : slt b a = true :=
  bl_total h fun e => hne (ByteArray.ext (Array.toList_inj.1 e))
/-- the names of a node rise -/
theorem entsGo_rise {ms : List Nd} {i : Nat} : ∀ {es : List S_api_Ent} {nm : ByteArray} {p q : Par}, entsGo ms i es nm p = some q → (∀ e ∈ es, slt nm e.Name = true) ∧ es.Pairwise (fun a b => slt a.Name b.Name = true)
  | [], nm, p, q, h => ⟨fun e he => (by cases he), List.Pairwise.nil⟩
  | e :: r, nm, p, q, h => by
    have key : slt nm e.Name = true ∧ ∃ p', entsGo ms i r e.Name p' = some q := by
      rw [entsGo] at h
      split at h
      · cases h
      · split at h
        · rename_i hg
          simp only [Bool.and_eq_true, Bool.not_eq_true', Bool.or_eq_false_iff, decide_eq_false_iff_not] at hg
          refine ⟨slt_total hg.2.1 hg.2.2, ?_⟩
          split at h
          · split at h
            · cases h
            · exact ⟨_, h⟩
          · exact ⟨_, h⟩
        · cases h
    obtain ⟨h1, p', h2⟩ := key
    obtain ⟨h3, h4⟩ := entsGo_rise h2
    refine ⟨fun e' he' => ?_, List.Pairwise.cons h3 h4⟩
    rcases List.mem_cons.1 he' with rfl | he'
    · exact h1
    · exact slt_trans h1 (h3 e' he')
theorem OkGraph.rise {ms : List Nd} (h : OkGraph ms) {m : Nd} (hm : m ∈ ms) : m.ents.Pairwise (fun a b => slt a.Name b.Name = true) := by
  obtain ⟨p, hp, _⟩ := h.par
  obtain ⟨j, p', q', h1⟩ := nodesGo_mem hp m hm
  exact (entsGo_rise h1).2
theorem slt_ne {a b : ByteArray} (h : slt a b = true) : a ≠ b := fun e => by rw [e, slt_irrefl] at h; cases h
/-! ### paths -/
abbrev bs (s : ByteArray) : List UInt8 := s.data.toList
theorem bs_app (a b : ByteArray) : bs (a ++ b) = bs a ++ bs b := by simp [bs]
theorem bs_inj {a b : ByteArray} (h : bs a = bs b) : a = b := ByteArray.ext (Array.toList_inj.1 h)
theorem bs_len (a : ByteArray) : (bs a).length = a.size := by simp [bs]
/-- q lies at p or below it -/
def Un (p q : List UInt8) : Prop := q = p ∨ (p ++ [47]) <+: q
theorem Un.refl (p : List UInt8) : Un p p := .inl rfl
theorem Un.up {p n q : List UInt8} (h : Un (p ++ [47] ++ n) q) : Un p q := by
  rcases h with rfl | h
  · exact .inr (List.prefix_append _ _)
  · exact .inr (List.IsPrefix.trans ⟨n ++ [47], by simp⟩ h)
theorem Un.len {p q : List UInt8} (h : Un p q) : p.length ≤ q.length := by
  rcases h with rfl | h
  · exact Nat.le_refl _
  · have := h.length_le; simp at this; omega
theorem not_un_short {p n : List UInt8} : ¬ Un (p ++ [47] ++ n) p := fun h => by
  have := h.len; simp at this; omega
theorem Un_names {n m : List UInt8} (hne : n ≠ m) (hm : (47 : UInt8) ∉ m) : ¬ Un n m := by
  rintro (rfl | ⟨r, rfl⟩)
  · exact hne rfl
  · exact hm (by simp)
theorem Un_kids {p n m : List UInt8} (hne : n ≠ m) (hm : (47 : UInt8) ∉ m) : ¬ Un (p ++ [47] ++ n) (p ++ [47] ++ m) := by
  rintro (h | h)
  · exact hne (List.append_cancel_left h).symm
  · rw [List.append_assoc (p ++ [47]) n] at h
    obtain ⟨r, hr⟩ := (List.prefix_append_right_inj _).1 h
    exact hm (by rw [← hr]; simp)
theorem Un_kid {r p n : List UInt8} (h : Un r (p ++ [47] ++ n)) (hn : (47 : UInt8) ∉ n) : Un r p ∨ Un p r := by
  rcases h with h | h
  · exact .inr (.inr (by rw [← h]; exact List.prefix_append _ _))
  · have hp : (p ++ [47]) <+: (p ++ [47] ++ n) := List.prefix_append _ _
    rcases Nat.lt_trichotomy r.length p.length with hl | hl | hl
    · left
      refine .inr (List.prefix_of_prefix_length_le h ((List.prefix_append p [47]).trans hp) (by simp; omega))
    · left
      have h1 : r <+: (p ++ [47] ++ n) := (List.prefix_append _ _).trans h
      have h2 : p <+: (p ++ [47] ++ n) := (List.prefix_append _ _).trans hp
      have := List.prefix_of_prefix_length_le h1 h2 (by omega)
      exact .inl (this.eq_of_length hl).symm
    · right
      refine .inr (List.prefix_of_prefix_length_le hp ((List.prefix_append _ _).trans h) (by simp; omega))
theorem good_no {s : ByteArray} (h : good s = true) : (47 : UInt8) ∉ bs s ∧ s ≠ Dot := by
  simp only [good, Bool.and_eq_true, decide_eq_true_eq, Bool.not_eq_true', List.contains_eq_mem, decide_eq_false_iff_not] at h
  exact ⟨h.1.2, h.2.2.1⟩
end Go.Proofs.Ytmmkhlalhalomaa
