import Derived.Test.YtmmkhlalhalomaaGrM5
set_option linter.unusedVariables false
set_option linter.unusedSimpArgs false
namespace Go.Proofs.Ytmmkhlalhalomaa
open Go Go.Low
structure Sep (ls : List Ln) (its : List (Nat × ByteArray)) : Prop where
  A : ls.Pairwise fun a b => a.path ≠ b.path
  B : ∀ l ∈ ls, ∀ it ∈ its, ¬ Un (bs it.2) (bs l.path)
  C : its.Pairwise fun a b => ¬ Un (bs a.2) (bs b.2) ∧ ¬ Un (bs b.2) (bs a.2)
  D : ∀ it ∈ its, ¬ Un [46] (bs it.2)
  E : ∃ l r, ls = l :: r ∧ l.path = Dot ∧ ∀ l' ∈ r, ¬ Un [46] (bs l'.path)
  F : ∀ it ∈ its, 1 ≤ it.2.size
theorem emit_path (m : Nd) (path peer : ByteArray) : (emitLn m path peer).path = path := by unfold emitLn; split <;> rfl
theorem kid_bs {ms : List Nd} {path : ByteArray} {e : S_api_Ent} : bs (kid ms false path e).2 = bs path ++ [47] ++ bs e.Name := by
  simp only [kid, kidPath, Bool.false_eq_true, if_false, bs_app]
theorem kid_top {ms : List Nd} {path : ByteArray} {e : S_api_Ent} : (kid ms true path e).2 = e.Name := rfl
theorem Sep.step {ms : List Nd} {ls : List Ln} {k : Nat} {path peer : ByteArray} {rest : List (Nat × ByteArray)} {m : Nd} (ho : OkGraph ms) (hm : m ∈ ms) (h : Sep ls ((k, path) :: rest)) : Sep (ls ++ [emitLn m path peer]) (kids ms false path m.ents ++ rest) := by
  obtain ⟨hA, hB, hC, hD, ⟨l0, r0, hE1, hE2, hE3⟩, hF⟩ := h
  rw [List.pairwise_cons] at hC
  have hp := hF (k, path) (by simp)
  simp only at hp
  have hgood : ∀ e ∈ m.ents, (47 : UInt8) ∉ bs e.Name ∧ e.Name ≠ Dot := fun e he => good_no (ho.ent hm he).2
  refine ⟨?_, fun l hl it hit => ?_, ?_, fun it hit => ?_, ⟨l0, r0 ++ [emitLn m path peer], by rw [hE1]; rfl, hE2, fun l' hl' => ?_⟩, fun it hit => ?_⟩
  · rw [List.pairwise_append]
    refine ⟨hA, List.pairwise_singleton _ _, fun a ha b hb => ?_⟩
    rw [List.mem_singleton.1 hb, emit_path]
    intro e
    exact hB a ha (k, path) (by simp) (by rw [e]; exact Un.refl _)
  · rcases List.mem_append.1 hl with hl | hl
    · rcases List.mem_append.1 hit with hit | hit
      · obtain ⟨e, he, rfl⟩ := List.mem_map.1 hit
        rw [kid_bs]
        exact fun hu => hB l hl (k, path) (by simp) hu.up
      · exact hB l hl it (List.mem_cons_of_mem _ hit)
    · rw [List.mem_singleton.1 hl, emit_path]
      rcases List.mem_append.1 hit with hit | hit
      · obtain ⟨e, he, rfl⟩ := List.mem_map.1 hit
        rw [kid_bs]
        exact not_un_short
      · exact (hC.1 it hit).2
  · rw [List.pairwise_append]
    refine ⟨?_, hC.2, fun a ha b hb => ?_⟩
    · rw [kids, List.pairwise_map]
      refine (ho.rise hm).imp_of_mem fun {a b} ha hb hab => ?_
      rw [kid_bs, kid_bs]
      have hne : bs a.Name ≠ bs b.Name := fun e => slt_ne hab (bs_inj e)
      exact ⟨Un_kids hne (hgood b hb).1, Un_kids (Ne.symm hne) (hgood a ha).1⟩
    · obtain ⟨e, he, rfl⟩ := List.mem_map.1 ha
      rw [kid_bs]
      refine ⟨fun hu => (hC.1 b hb).1 hu.up, fun hu => ?_⟩
      rcases Un_kid hu (hgood e he).1 with h | h
      · exact (hC.1 b hb).2 h
      · exact (hC.1 b hb).1 h
  · rcases List.mem_append.1 hit with hit | hit
    · obtain ⟨e, he, rfl⟩ := List.mem_map.1 hit
      rw [kid_bs]
      intro hu
      rcases Un_kid hu (hgood e he).1 with h | h
      · exact hD (k, path) (by simp) h
      · have h1 := h.len
        rw [bs_len] at h1
        simp only [List.length_singleton] at h1
        rcases h with h | h
        · exact hD (k, path) (by simp) (.inl h.symm)
        · have := h.length_le
          simp only [List.length_append, bs_len, List.length_singleton] at this
          omega
    · exact hD it (List.mem_cons_of_mem _ hit)
  · rcases List.mem_append.1 hl' with hl' | hl'
    · exact hE3 l' hl'
    · rw [List.mem_singleton.1 hl', emit_path]
      exact hD (k, path) (by simp)
  · rcases List.mem_append.1 hit with hit | hit
    · obtain ⟨e, he, rfl⟩ := List.mem_map.1 hit
      have := congrArg List.length (kid_bs (ms := ms) (path := path) (e := e))
      simp only [bs_len, List.length_append] at this
      omega
    · exact hF it (List.mem_cons_of_mem _ hit)
theorem Sep.init {ms : List Nd} {peer : ByteArray} {m : Nd} (ho : OkGraph ms) (hm : m ∈ ms) : Sep [emitLn m Dot peer] (kids ms true Dot m.ents) := by
  have hgood : ∀ e ∈ m.ents, (47 : UInt8) ∉ bs e.Name ∧ e.Name ≠ Dot := fun e he => good_no (ho.ent hm he).2
  have hdot : bs Dot = [46] := rfl
  refine ⟨List.pairwise_singleton _ _, fun l hl it hit => ?_, ?_, fun it hit => ?_, ⟨_, [], rfl, emit_path _ _ _, fun l' hl' => by cases hl'⟩, fun it hit => ?_⟩
  · rw [List.mem_singleton.1 hl, emit_path]
    obtain ⟨e, he, rfl⟩ := List.mem_map.1 hit
    rw [kid_top]
    refine Un_names (fun e2 => (hgood e he).2 (bs_inj e2)) (by rw [hdot]; decide)
  · rw [kids, List.pairwise_map]
    refine (ho.rise hm).imp_of_mem fun {a b} ha hb hab => ?_
    rw [kid_top, kid_top]
    have hne : bs a.Name ≠ bs b.Name := fun e => slt_ne hab (bs_inj e)
    exact ⟨Un_names hne (hgood b hb).1, Un_names (Ne.symm hne) (hgood a ha).1⟩
  · obtain ⟨e, he, rfl⟩ := List.mem_map.1 hit
    rw [kid_top]
    exact Un_names (fun e2 => (hgood e he).2 (bs_inj (by rw [hdot]; exact e2.symm))) (hgood e he).1
  · obtain ⟨e, he, rfl⟩ := List.mem_map.1 hit
    rw [kid_top]
    exact (good_size (ho.ent hm he).2).1
theorem Run.sep {ms : List Nd} (ho : OkGraph ms) {its : List (Nat × ByteArray)} {σ σ' : TS} (h : Run ms its σ (some σ')) (hs : Sep σ.lines its) : Sep σ'.lines [] := by
  generalize hq : some σ' = o at h
  induction h with
  | nil => cases hq; exact hs
  | big h => cases hq
  | @go k path rest σ m r hm h hr ih =>
    refine ih ?_ hq
    obtain ⟨l, r', hE, _⟩ := hs.E
    have : σ.lines.isEmpty = false := by rw [hE]; rfl
    rw [this]
    exact hs.step ho (List.mem_of_getElem? hm)
theorem Run.sizes {ms : List Nd} (hsm : Small ms) (hf : Fair ms) {its : List (Nat × ByteArray)} {σ σ' : TS} (h : Run ms its σ (some σ')) (hs : ∀ l ∈ σ.lines, l.data.length ≤ 16777216 ∧ l.target.size < 4611686018427387904 ∧ l.path.size < 4611686018427387904) :
    ∀ l ∈ σ'.lines, l.data.length ≤ 16777216 ∧ l.target.size < 4611686018427387904 ∧ l.path.size < 4611686018427387904 := by
  generalize hq : some σ' = o at h
  induction h with
  | nil => cases hq; exact hs
  | big h => cases hq
  | @go k path rest σ m r hm h hr ih =>
    refine ih (fun l hl => ?_) hq
    rcases List.mem_append.1 hl with hl | hl
    · exact hs l hl
    · rw [List.mem_singleton.1 hl]
      have hmm := List.mem_of_getElem? hm
      refine ⟨?_, ?_, by rw [emit_path]; omega⟩
      · unfold emitLn; split
        · exact hsm.data m hmm
        · simp
      · unfold emitLn; split
        · exact hf.target m hmm
        · exact (by decide : (0 : Nat) < 4611686018427387904)
theorem lastBelow_at {s : ByteArray} {n c : Nat} (h : lastBelow s n = some c) : s.data[c]? = some 47 := by
  induction n with
  | zero => cases h
  | succ n ih =>
    rw [lastBelow] at h
    split at h
    · rename_i hc; cases h; exact hc
    · exact ih h
theorem TreeR.ok {ms : List Nd} {root : Int} {ls : List Ln} (hsm : Small ms) (hf : Fair ms) (h : TreeR ms root (some ls) 0) (hl : ls.length ≤ 4194304) : LnsOk ls := by
  cases h with
  | @fine k σ hb hr =>
  cases hb with
  | @fine ho _ m hp hm hd =>
  have hsz := hr.sizes hsm hf (fun l hl => by cases hl)
  have hsep : Sep σ.lines [] := by
    cases hr with
    | @go _ _ _ _ m' _ hm' h hr2 =>
      rw [List.append_nil] at hr2
      exact hr2.sep ho (Sep.init ho (List.mem_of_getElem? hm'))
  obtain ⟨l0, r0, hE1, hE2, hE3⟩ := hsep.E
  refine ⟨hl, fun l hl => (hsz l hl).1, fun l hl => (hsz l hl).2.1, fun l hl => (hsz l hl).2.2, fun i j l l' hi hj he => ?_, fun l h0 => ?_, fun i l c hi hli hc he => ?_⟩
  · have key : ∀ (i j : Nat) l l', i < j → σ.lines[i]? = some l → σ.lines[j]? = some l' → l.path ≠ l'.path := fun i j l l' hij hi hj => by
      have hi' := some_lt hi; have hj' := some_lt hj
      have := List.pairwise_iff_getElem.1 hsep.A i j hi' hj' hij
      rw [List.getElem?_eq_getElem hi'] at hi
      rw [List.getElem?_eq_getElem hj'] at hj
      cases hi; cases hj
      exact this
    rcases Nat.lt_trichotomy i j with h | h | h
    · exact absurd he (key i j l l' h hi hj)
    · exact h
    · exact absurd he.symm (key j i l' l h hj hi)
  · rw [hE1] at h0; cases h0; exact hE2
  · rw [hE1] at hli
    obtain ⟨q, rfl⟩ : ∃ q, i = q + 1 := ⟨i - 1, by omega⟩
    simp only [List.getElem?_cons_succ] at hli
    refine hE3 l (List.mem_of_getElem? hli) ?_
    have h47 := lastBelow_at hc
    have hcl : c < l.path.size := lastBelow_lt hc
    have htk : (bs l.path).take c = [46] := by
      have := congrArg bs he
      simpa [bs] using this
    right
    have h2 : (bs l.path).take (c + 1) = [46] ++ [47] := by
      rw [List.take_add_one, htk]
      have : (bs l.path)[c]? = some 47 := by rw [← h47]; simp [bs]
      rw [this]; rfl
    rw [← h2]
    exact List.take_prefix _ _
end Go.Proofs.Ytmmkhlalhalomaa
