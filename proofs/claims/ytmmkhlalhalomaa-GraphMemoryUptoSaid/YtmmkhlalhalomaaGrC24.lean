import Derived.Test.YtmmkhlalhalomaaGrC23
set_option linter.unusedVariables false
set_option linter.unusedSimpArgs false
set_option maxRecDepth 100000
namespace Go.Proofs.Ytmmkhlalhalomaa
open Go Go.Low
theorem mks_i {w : World} {b T : Nat} {cs : List Value} {K : World → Prop} (h : Blk w b T cs) (hK : ∀ w', XtB b w w' → w'.heap.size = w.heap.size → CellsAt w' ⟨b, 0, none⟩ 0 cs → K w') : mks w (some ⟨b, 0, none⟩) K := by
  have hlt := h.lt
  unfold Blk at h
  refine ⟨⟨b, 0, none⟩, T, cs.toArray.size, rfl, by simp only [World.shape?, h], hK _ ?_ ?_ ?_⟩
  · refine ⟨by simp [World.freeze], fun k hk hkb => ?_, by simp [World.freeze], by simp [World.freeze]⟩
    simp only [World.freeze, Nat.one_ne_zero, if_false]
    rw [Array.getElem?_modify, if_neg (Ne.symm hkb)]
  · simp [World.freeze]
  · suffices ∀ (ds : List Value) (i : Nat), (∀ j v, ds[j]? = some v → cs[i + j]? = some v) → CellsAt (World.freeze w ⟨b, cs.toArray.size, none⟩ 1) ⟨b, 0, none⟩ i ds from this cs 0 (by simp)
    intro ds
    induction ds with
    | nil => intro i _; trivial
    | cons c r ih =>
      intro i hd
      refine ⟨?_, ih (i + 1) fun j v hj => by have := hd (j + 1) v (by simpa using hj); rw [show i + 1 + j = i + (j + 1) by omega]; exact this⟩
      have h0 := hd 0 c rfl
      simp only [World.cell?, World.freeze, Nat.one_ne_zero, if_false, add_loc, Array.getElem?_modify, if_pos, h, Option.map_some]
      simpa using h0
/-- the small graph -/
def littleMs : List Nd := [⟨1, 2, 0, 0, 0, ⟨0, 0⟩, ⟨#[]⟩, [], [⟨⟨#[97]⟩, 5⟩, ⟨⟨#[98]⟩, 7⟩]⟩, ⟨5, 2, 0, 0, 0, ⟨0, 0⟩, ⟨#[]⟩, [], [⟨⟨#[99]⟩, 7⟩]⟩, ⟨7, 1, 0, 0, 0, ⟨0, 0⟩, ⟨#[]⟩, [120], []⟩]
def littlePar : Par := fun x => if x = 1 then some 0 else none
theorem lit3 {i : Nat} {m : Nd} (h : littleMs[i]? = some m) : i = 0 ∨ i = 1 ∨ i = 2 := by
  have := some_lt h
  simp [littleMs] at this
  omega
theorem littleOk : OkGraph littleMs := by
  refine ⟨by decide, ⟨fun i m hm => ?_, fun i m m' hm hm' => ?_⟩, by decide, littlePar, ?_, fun i hi => ?_⟩
  · rcases lit3 hm with rfl | rfl | rfl <;> (cases hm; exact ⟨by decide, by decide, by decide⟩)
  · rcases lit3 hm with rfl | rfl | rfl
    · cases hm; cases hm'; decide
    · cases hm; cases hm'; decide
    · cases hm'
  · rfl
  · have : i = 0 ∨ i = 1 ∨ i = 2 := by simp [littleMs] at hi; omega
    rcases this with rfl | rfl | rfl
    · exact ⟨1, rfl⟩
    · exact ⟨2, rfl⟩
    · exact ⟨1, rfl⟩
theorem Row_lit {α : Type} {w : World} {b sz n : Nat} {f : α → List Value} {xs : List α} (hn : n = xs.length) (h63 : n < 9223372036854775808) (hl : ∀ x ∈ xs, (f x).length = sz) (hc : CellsAt w ⟨b, 0, none⟩ 0 (xs.flatMap f)) : Row w ⟨some ⟨b, 0, none⟩, n, n⟩ sz f xs :=
  ⟨hn, Nat.le_refl _, h63, fun h => (by cases h), hl, fun b' hb => by cases hb; exact hc⟩
theorem Row_nil {α : Type} {w : World} {sz : Nat} {f : α → List Value} : Row w ⟨none, 0, 0⟩ sz f ([] : List α) := ⟨rfl, Nat.le_refl _, by decide, fun _ => rfl, fun x hx => (by cases hx), fun b hb => by cases hb⟩
theorem C_little {w : World} {K : S_api_Graph → World → Prop} (k : ∀ g w' xs, Ext w w' → GraphX w' g.Nodes xs littleMs → K g w') : cl1 Try.prog 14 [] w S_api_Graph.v K := by
  refine T_valiselaw14_little (al_i fun hB1 hE1 => al_i fun hB2 hE2 => al_i fun hB3 hE3 => al_i fun hB4 hE4 => ?_)
  replace hB3 := hB3.ext hE4
  replace hB2 := (hB2.ext hE3).ext hE4
  replace hB1 := ((hB1.ext hE2).ext hE3).ext hE4
  have hE := ((hE1.trans hE2).trans hE3).trans hE4
  simp only [size_al] at hB1 hB2 hB3 hB4 ⊢
  refine mks_i hB4 fun w5 hX5 hz5 hC5 => ?_
  have hE5 : Ext w w5 := hE.xtb hX5 (by omega)
  replace hB1 := hB1.xtb hX5 (by omega)
  replace hB2 := hB2.xtb hX5 (by omega)
  replace hB3 := hB3.xtb hX5 (by omega)
  clear hX5 hE hE1 hE2 hE3 hE4 hB4
  simp only [size_al] at hz5
  refine al_i fun hB6 hE6 => ?_
  rw [hz5] at hB6 ⊢
  have hC6 := hE6.cells hC5
  refine st_i0 (cs' := S_api_Graph.cells ⟨⟨some ⟨w.heap.size + 1 + 1 + 1 + 1, 0, none⟩, 3, 3⟩⟩) (hB1.ext hE6) rfl rfl fun w7 hB7 hX7 hz7 => ?_
  have hE7 : Ext w w7 := (hE5.trans hE6).xtb hX7 (Nat.le_refl _)
  have hB2' := (hB2.ext hE6).xtb hX7 (by omega)
  have hB3' := (hB3.ext hE6).xtb hX7 (by omega)
  have hB6' := hB6.xtb hX7 (by omega)
  have hC7 := hX7.cells (by show w.heap.size + 1 + 1 + 1 ≠ _; omega) hC6
  refine ldT_all (x := (⟨⟨some ⟨w.heap.size + 1 + 1 + 1 + 1, 0, none⟩, 3, 3⟩⟩ : S_api_Graph)) hB7.all (k _ w7
    [⟨1, 2, 0, 0, 0, ⟨0, 0⟩, ⟨none, 0, 0⟩, ⟨#[]⟩, ⟨some ⟨w.heap.size + 1, 0, none⟩, 2, 2⟩⟩, ⟨5, 2, 0, 0, 0, ⟨0, 0⟩, ⟨none, 0, 0⟩, ⟨#[]⟩, ⟨some ⟨w.heap.size + 1 + 1, 0, none⟩, 1, 1⟩⟩, ⟨7, 1, 0, 0, 0, ⟨0, 0⟩, ⟨some ⟨w.heap.size + 1 + 1 + 1, 0, none⟩, 1, 1⟩, ⟨#[]⟩, ⟨none, 0, 0⟩⟩] hE7 ⟨Row_lit rfl (by decide) (fun _ _ => rfl) hB6'.all, rfl, fun i x m hx hm => ?_⟩)
  rcases lit3 hm with rfl | rfl | rfl
  · cases hm; cases hx; exact ⟨rfl, Row_nil, Row_lit rfl (by decide) (fun _ _ => rfl) hB2'.all⟩
  · cases hm; cases hx; exact ⟨rfl, Row_nil, Row_lit rfl (by decide) (fun _ _ => rfl) hB3'.all⟩
  · cases hm; cases hx; exact ⟨rfl, Row_lit rfl (by decide) (fun _ _ => rfl) hC7, Row_nil⟩
end Go.Proofs.Ytmmkhlalhalomaa
