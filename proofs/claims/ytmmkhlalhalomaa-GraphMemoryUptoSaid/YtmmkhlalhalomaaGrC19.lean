import Derived.Test.YtmmkhlalhalomaaGrC18
set_option linter.unusedVariables false
set_option linter.unusedSimpArgs false
set_option maxRecDepth 100000
namespace Go.Proofs.Ytmmkhlalhalomaa
open Go Go.Low
theorem Own_ix {α : Type} {w : World} {s : Sl} {k e sz i : Nat} {f : α → List Value} {ys : List α} {y : α} {K : Addr → Prop} (h : Own w s k e sz (ys.flatMap f)) (hf : ∀ x, (f x).length = sz) (hsz : 0 < sz) (hy : ys[i]? = some y)
    (kk : CellsAt w ⟨k, i * sz, none⟩ 0 (f y) → K ⟨k, i * sz, none⟩) : ix s.p s.n sz (i : Int) K := by
  have hi := some_lt hy
  have hr := h.row hf hsz
  have hn := hr.n
  refine ⟨⟨k, 0, none⟩, h.p, by omega, by omega, ?_⟩
  rw [Int.toNat_natCast, add_loc, Nat.zero_add]
  refine kk ?_
  have := CellsAt.piece hr.len (hr.cells _ h.p) hy
  rw [Nat.zero_add] at this
  have h2 := CellsAt.shift (i := 0) this
  rw [add_loc, Nat.zero_add] at h2
  exact h2
theorem ent_flat (es : List S_api_Ent) (en : S_api_Ent) : es.flatMap S_api_Ent.cells ++ S_api_Ent.cells en = (es ++ [en]).flatMap S_api_Ent.cells := by
  rw [List.flatMap_append, List.flatMap_singleton]
/-- one entry more at place p -/
theorem addEnt {base kk p : Nat} {v : World} {sg : Sl} {ys : List S_api_Node} {ns : List Nd} {Ds : List (List Nat)} {y : S_api_Node} {m : Nd} {en : S_api_Ent} {src : Value} {z : Array Value} {K : Sl → World → Prop} (hN : OwnNd base v sg (some kk) ys ns Ds) (hy : ys[p]? = some y) (hm : ns[p]? = some m)
    (hb : m.ents.length ≤ 16777216) (hs : srcAt v src 2 1 (S_api_Ent.cells en)) (hz : z.size = 2) (hbase : base ≤ v.heap.size)
    (hK : ∀ r v1 B, ((∃ D, Ds[p]? = some D ∧ B ∈ D) ∨ v.heap.size ≤ B) → B ≠ kk → base ≤ B → XtB B v v1 → Own v1 sg kk 43 10 (ys.flatMap S_api_Node.cells) →
      (∀ v2, Own v2 sg kk 43 10 ((ys.set p { y with Ents := r }).flatMap S_api_Node.cells) → XtB kk v1 v2 → ∃ Ds', OwnNd base v2 sg (some kk) (ys.set p { y with Ents := r }) (ns.set p (withEnt en m)) Ds' ∧ ∀ D ∈ Ds', ∀ b ∈ D, (∃ D0 ∈ Ds, b ∈ D0) ∨ v.heap.size ≤ b) → K r v1) :
    app v 66 2 24 z y.Ents.p y.Ents.n y.Ents.c src K := by
  have hp := some_lt hm
  obtain ⟨y0, m0, D, h1, h2, h3, h4⟩ := hN.at_ hp
  rw [hy] at h1; rw [hm] at h2; cases h1; cases h2
  obtain ⟨hhd, d, e, hd, he, hD, hde⟩ := h4
  have hen : y.Ents.n = m.ents.length := (he.row (fun _ => rfl) (by decide)).n
  have hkl := hN.lt.1 kk rfl
  have hdD : ∀ b, d = some b → b ∈ D := fun b h => by rw [hD, h]; simp
  have heD : ∀ b, e = some b → b ∈ D := fun b h => by rw [hD, h]; simp
  have hdk := hN.dk D (List.mem_of_getElem? h3)
  refine he.app hs rfl (S_api_Ent.one en) hz (by decide) (by omega) (by omega) fun r v1 k' B hB hX hO hn => ?_
  have hB' : e = some B ∨ v.heap.size ≤ B ∧ e = none := by
    rcases hB with ⟨a, _, _⟩ | ⟨a, b, _, _⟩
    · exact .inl a.symm
    · by_cases hk : e = none
      · exact .inr ⟨Nat.le_of_eq (a hk).symm, hk⟩
      · exact .inl (b hk)
  have hk' : e = some k' ∨ v.heap.size = k' := by
    rcases hB with ⟨a, b, _⟩ | ⟨_, _, c, _⟩
    · exact .inl (by rw [b]; exact a.symm)
    · exact .inr c.symm
  have hBk : B ≠ kk ∧ base ≤ B := by
    rcases hB' with h | h
    · have := hdk B (heD B h); exact ⟨fun e => this.1 (by rw [e]), this.2.1⟩
    · omega
  have hBD : ∀ j D2, Ds[j]? = some D2 → B ∈ D2 → j = p := fun j D2 g1 g2 => by
    rcases hB' with h | h
    · exact hN.inj j p D2 D B g1 h3 g2 (heD B h)
    · have := (hN.dk D2 (List.mem_of_getElem? g1) B g2).2.2; omega
  refine hK r v1 B (hB'.imp (fun h => ⟨D, h3, heD B h⟩) And.left) hBk.1 hBk.2 hX (Own.xtb hN.row hX (Ne.symm hBk.1)) fun v2 hO2 hX2 => ?_
  refine ⟨Ds.set p (d.toList ++ [k']), hN.set ndP_xtb hp hX hBD (y' := { y with Ents := r }) (l' := withEnt en m) ⟨?_, d, some k', hd.xtb hX ?_, ?_, by simp, ?_⟩ (fun b hb => ?_) hO2 hX2, fun D2 hD2 b hb => ?_⟩
  · rw [hhd]; rfl
  · intro hdB
    rcases hB' with h | h
    · exact hde B hdB h
    · have := (hdk B (hdD B hdB)).2.2; omega
  · show Own v1 r k' 66 2 ((m.ents ++ [en]).flatMap S_api_Ent.cells)
    rw [← ent_flat]; exact hO
  · intro b hdb hkb
    cases hkb
    rcases hk' with h | h
    · exact hde _ hdb h
    · have := (hdk _ (hdD _ hdb)).2.2; omega
  · have hz := hX.1
    have hkv := hO.lt
    rcases List.mem_append.1 hb with hb | hb
    · cases d with
      | none => simp at hb
      | some bd =>
        simp at hb
        subst hb
        have := hdk b (hdD b rfl)
        exact ⟨fun e => this.1 (by rw [e]), this.2.1, by omega, fun j D2 g1 g2 => hN.inj j p D2 D b g1 h3 g2 (hdD b rfl)⟩
    · rw [List.mem_singleton.1 hb]
      rcases hk' with h | h
      · have := hdk k' (heD k' h)
        exact ⟨fun e => this.1 (by rw [e]), this.2.1, hkv, fun j D2 g1 g2 => hN.inj j p D2 D k' g1 h3 g2 (heD k' h)⟩
      · exact ⟨by omega, by omega, hkv, fun j D2 g1 g2 => by have := (hN.dk D2 (List.mem_of_getElem? g1) k' g2).2.2; omega⟩
  · rcases List.mem_or_eq_of_mem_set hD2 with hD2 | rfl
    · exact .inl ⟨D2, hD2, hb⟩
    · rcases List.mem_append.1 hb with hb | hb
      · cases d with
        | none => simp at hb
        | some bd =>
          simp at hb
          subst hb
          exact .inl ⟨D, List.mem_of_getElem? h3, hdD b rfl⟩
      · rw [List.mem_singleton.1 hb]
        rcases hk' with h | h
        · exact .inl ⟨D, List.mem_of_getElem? h3, heD k' h⟩
        · exact .inr (Nat.le_of_eq h)
end Go.Proofs.Ytmmkhlalhalomaa
