import Derived.Test.YtmmkhlalhalomaaGrM1
set_option linter.unusedVariables false
set_option linter.unusedSimpArgs false
set_option maxRecDepth 100000
namespace Go.Proofs.Ytmmkhlalhalomaa
open Go Go.Low
def EndsI (ps : List (Int × Int)) (id : Int) : Prop := ∃ t, itI (aget ps) t id = none
theorem mem_aget {es : List (Int × Int)} {x v : Int} (h : (x, v) ∈ es) : (aget es x).isSome = true := by
  induction es with
  | nil => cases h
  | cons e r ih =>
    obtain ⟨k, u⟩ := e
    simp only [aget]
    by_cases e : k = x
    · rw [if_pos e]; rfl
    · rw [if_neg e]
      rcases List.mem_cons.1 h with h | h
      · exact absurd (Prod.mk.inj h).1.symm e
      · exact ih h
def leftAt (w : World) (r b : Nat) : Nat := match w.heap[r]?, w.heap[b]? with
  | some (.mapIter _ _ seen _), some (.map arr _) => (leftOf arr seen).size
  | _, _ => 0
theorem left_eq {κ α : Type} [DecidableEq κ] {w : World} {r b left : Nat} {kk : KeyKind κ} {mv : α → Value} {es : List (κ × α)} {dn : List κ} (h : IterAt w r b kk mv es dn left) : leftAt w r b = left := by
  obtain ⟨arr, c, seen, since, c0, _, h1, h2, _, _, _, _, h7, _⟩ := h
  simp only [leftAt, h1, h2, h7]
theorem C_rooted {w : World} {kp : Nat} {ps : List (Int × Int)} {K : Bool → World → Prop} (hP : MapAt w kp kInt (Value.int .i64) ps) (hlen : ps.length ≤ 16777216)
    (k1 : ∀ w', Ext w w' → (∀ id, (aget ps id).isSome = true → EndsI ps id) → K true w') (k0 : ∀ w', Ext w w' → (∃ id, (aget ps id).isSome = true ∧ ¬ EndsI ps id) → K false w') : cl1 Try.prog 38 [.map (some kp)] w Value.bool K := by
  have hkp := hP.lt
  refine T_graph_rooted (some kp) (mk_i kInt (Value.int .i64) fun hF hE => rgm_i (hP.ext hE) fun w2 hI hE2 hz2 => ?_)
  have hs1 : (w.alloc (.map #[] 0)).heap.size = w.heap.size + 1 := by simp
  rw [hs1] at hI hz2 ⊢
  have hF2 := hF.ext hE2
  have hP2 := (hP.ext hE).ext hE2
  replace hE := hE.trans hE2
  refine ⟨fun _ v => ∃ dn left fs, Ext w v ∧ w.heap.size + 2 ≤ v.heap.size ∧ MapAt v w.heap.size kInt (Value.int .i64) fs ∧ IterAt v (w.heap.size + 1) kp kInt (Value.int .i64) ps dn left ∧ (∀ id, (aget fs id).getD 0 ≠ 0 → EndsI ps id) ∧ ∀ id ∈ dn, EndsI ps id,
    fun _ v => leftAt v (w.heap.size + 1) kp, ⟨[], _, [], hE, by omega, hF2, hI, fun id h => absurd rfl h, fun id h => by cases h⟩, ?_⟩
  rintro _ v ⟨dn, left, fs, hE, hvs, hF, hI, hfs, hdn⟩
  have hml := left_eq hI
  refine nxm_i (kk := kInt) hI (by omega) (fun hall => k1 v hE fun id hid => ?_) fun x u v1 left1 hxu hX hz hI1 hlt1 hEnt => enm_i (kk := kInt) hEnt ?_
  · have := aget_mem hid
    obtain ⟨e, he, rfl⟩ := List.mem_map.1 this
    exact hdn _ (hall e.1 e.2 he)
  have hE1 : Ext w v1 := hE.xtb hX (by omega)
  have hF1 := hF.xtb hX (by omega)
  have hxs := mem_aget hxu
  refine ⟨fun _ sl v => ∃ fs kk way, Ext w v ∧ w.heap.size + 2 ≤ v.heap.size ∧ MapAt v w.heap.size kInt (Value.int .i64) fs ∧ IterAt v (w.heap.size + 1) kp kInt (Value.int .i64) ps (x :: dn) left1 ∧ (∀ id, (aget fs id).getD 0 ≠ 0 → EndsI ps id) ∧ OwnN v sl kk 3 1 (List.flatMap i64c way) ∧ w.heap.size + 2 ≤ kk ∧ (∀ y ∈ way, EndsI ps y) ∧ EndsI ps x, ?_, ?_⟩
  · rintro b sl v2 ⟨fs2, kk, way, hE2, hvs2, hF2, hI2, hfs2, hO, hkk, hway, hx⟩
    have hsn : sl.n = way.length := by
      rcases hO with ⟨rfl, h⟩ | h
      · have := congrArg List.length h; rw [len_i64] at this; simpa using this.symm
      · have := h.n; rw [len_i64] at this; omega
    have hwl : (way.length : Int) < 9223372036854775808 := by
      rcases hO with ⟨rfl, h⟩ | h
      · simp only at hsn; omega
      · have := h.nc; have := h.c63; omega
    refine ⟨fun i v => ∃ j : Nat, i = j ∧ j ≤ way.length ∧ ∃ fs, Ext w v ∧ w.heap.size + 2 ≤ v.heap.size ∧ MapAt v w.heap.size kInt (Value.int .i64) fs ∧ IterAt v (w.heap.size + 1) kp kInt (Value.int .i64) ps (x :: dn) left1 ∧ (∀ id, (aget fs id).getD 0 ≠ 0 → EndsI ps id) ∧ OwnN v sl kk 3 1 (List.flatMap i64c way), fun i _ => (way.length - i).toNat,
      ⟨0, rfl, by omega, fs2, hE2, hvs2, hF2, hI2, hfs2, hO⟩, ?_⟩
    rintro i v3 ⟨j, rfl, hj, fs3, hE3, hvs3, hF3, hI3, hfs3, hO3⟩
    refine ⟨fun hlt => ?_, fun hge => ?_⟩
    · obtain ⟨y, hy⟩ : ∃ y, way[j]? = some y := ⟨_, List.getElem?_eq_getElem (by omega)⟩
      rcases hO3 with ⟨rfl, h⟩ | hO3
      · have h0 : (⟨none, 0, 0⟩ : Sl).n = 0 := rfl
        rw [h0] at hlt; omega
      refine hO3.ixS (by rw [len_i64]; omega) ⟨y, hO3.cellS (get_i64 hy), mu_i (kk := kInt) hF3 fun v4 hF4 hX4 hz4 => ⟨⟨j + 1, by rw [w64_id (by omega) (by omega)]; rfl, by omega, _, hE3.xtb hX4 (Nat.le_refl _), by omega, hF4, hI3.xtb hX4 (by omega) (by omega), fun id hid => ?_, .inr (hO3.xtb hX4 (by omega))⟩, by dsimp only; rw [w64_id (by omega) (by omega)]; omega⟩⟩
      rw [aget_put] at hid
      by_cases e : id = y
      · subst e; exact hway _ (List.mem_of_getElem? hy)
      · rw [if_neg e] at hid; exact hfs3 id hid
    · refine ⟨⟨x :: dn, left1, fs3, hE3, hvs3, hF3, hI3, hfs3, fun id hid => ?_⟩, by show leftAt v3 _ _ < leftAt v _ _; rw [left_eq hI3, hml]; exact hlt1⟩
      rcases List.mem_cons.1 hid with e | hid
      · rw [e]; exact hx
      · exact hdn id hid
  · refine ⟨fun _ sl at_ v => ∃ t way kk, itI (aget ps) t x = some at_ ∧ way.length = t ∧ sl.n = t ∧ t ≤ ps.length ∧ (∀ i y, way[i]? = some y → itI (aget ps) i x = some y ∧ (aget ps y).isSome = true) ∧ Ext w v ∧ w.heap.size + 2 ≤ v.heap.size ∧ MapAt v w.heap.size kInt (Value.int .i64) fs ∧ IterAt v (w.heap.size + 1) kp kInt (Value.int .i64) ps (x :: dn) left1 ∧ OwnN v sl kk 3 1 (List.flatMap i64c way) ∧ w.heap.size + 2 ≤ kk ∧ kk ≤ v.heap.size,
      fun _ sl _ _ => ps.length + 1 - sl.n, ⟨0, [], w.heap.size + 2, rfl, rfl, rfl, by omega, fun i y h => by simp at h, hE1, by omega, hF1, hI1, .inl ⟨rfl, rfl⟩, Nat.le_refl _, by omega⟩, ?_⟩
    rintro _ sl at_ v2 ⟨t, way, kk, hat, hwl, hsn, ht, hway, hE2, hvs2, hF2, hI2, hO2, hkk, hkv⟩
    have hends : EndsI ps at_ → (∀ y ∈ way, EndsI ps y) ∧ EndsI ps x := fun ⟨k, hk⟩ => by
      have hx0 : itI (aget ps) (t + k) x = none := by rw [itI_add, hat]; exact hk
      refine ⟨fun y hy => ?_, ⟨_, hx0⟩⟩
      obtain ⟨i, hi⟩ := List.getElem?_of_mem hy
      have := (hway i y hi).1
      have hit := some_lt hi
      refine ⟨t + k - i, ?_⟩
      rw [show t + k = i + (t + k - i) by omega, itI_add, this] at hx0
      exact hx0
    have hPv := hP.ext hE2
    refine lk_i (kk := kInt) (z := 0) hF2 ⟨fun hz0 => al_i fun hB5 hE5 => ?_, fun hnz => ?_⟩
    · have hO5 : OwnN (v2.alloc (.cells [Value.int .i64 at_].toArray 3)) sl kk 3 1 (List.flatMap i64c way) := hO2.imp id fun h => h.ext hE5
      refine hO5.app (m := 1) (src_lit rfl (by decide)) rfl (by simp [Value.oneCell']) rfl (by decide) (by omega) (by omega) fun s' v6 k' hk' hX6 ho' hn' => ?_
      have hk'' : w.heap.size + 2 ≤ k' := by
        rcases hk' with ⟨e, _⟩ | ⟨e, _⟩
        · omega
        · rw [← e]; simp; omega
      have hE6 : Ext w v6 := (hE2.trans hE5).xtb hX6 (by omega)
      have hF6 := (hF2.ext hE5).xtb hX6 (by omega)
      have hI6 := (hI2.ext hE5).xtb hX6 (by omega) (by omega)
      have hvs6 : w.heap.size + 2 ≤ v6.heap.size := by have := hX6.1; have := hE5.1; omega
      have ho6 : OwnN v6 s' k' 3 1 (List.flatMap i64c (way ++ [at_])) := .inr (by rw [List.flatMap_append, List.flatMap_singleton]; exact ho')
      refine lkk_i (kk := kInt) (z := 0) (hP.ext hE6) ⟨fun hok => ?_, fun hok => lm_i (kk := kInt) (hP.ext hE6) ⟨fun hbig => k0 v6 hE6 ⟨x, hxs, ?_⟩, fun hsm => ?_⟩⟩
      · have hnone : aget ps at_ = none := by cases hq : aget ps at_ with
          | none => rfl
          | some z => rw [hq] at hok; cases hok
        have he : EndsI ps at_ := ⟨1, by simp [itI, hnone]⟩
        refine ⟨fs, k', way ++ [at_], hE6, hvs6, hF6, hI6, hfs, ho6, hk'', fun y hy => ?_, (hends he).2⟩
        rcases List.mem_append.1 hy with hy | hy
        · exact (hends he).1 y hy
        · rw [List.mem_singleton.1 hy]; exact he
      · rintro ⟨k, hk⟩
        refine long_not (fun t' ht' => ?_) k hk
        have hok2 : (aget ps at_).isSome = true := by simpa using hok
        by_cases e : t' = t
        · subst e; exact ⟨at_, hat, hok2⟩
        · obtain ⟨y, hy⟩ : ∃ y, way[t']? = some y := ⟨_, List.getElem?_eq_getElem (by omega)⟩
          exact ⟨y, hway t' y hy⟩
      · have hok2 : (aget ps at_).isSome = true := by simpa using hok
        obtain ⟨z, hz1⟩ := Option.isSome_iff_exists.1 hok2
        refine ⟨⟨t + 1, way ++ [at_], k', ?_, by simp [hwl], by omega, by omega, fun i y hi => ?_, hE6, hvs6, hF6, hI6, ho6, hk'', by have := ho'.lt; omega⟩, by show ps.length + 1 - s'.n < ps.length + 1 - sl.n; omega⟩
        · rw [itI_succ, hat, Option.bind_some, hz1]; rfl
        · rcases get_snoc hi with hi | ⟨hj, hy⟩
          · exact hway i y hi
          · rw [hj, hwl, hy]; exact ⟨hat, hok2⟩
    · have he := hfs at_ hnz
      exact ⟨fs, kk, way, hE2, hvs2, hF2, hI2, hfs, hO2, hkk, (hends he).1, (hends he).2⟩
end Go.Proofs.Ytmmkhlalhalomaa
