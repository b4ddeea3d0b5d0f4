import Derived.Test.YtmmkhlalhalomaaGrC27
set_option linter.unusedVariables false
set_option linter.unusedSimpArgs false
set_option maxRecDepth 100000
namespace Go.Proofs.Ytmmkhlalhalomaa
open Go Go.Low
/-- the lists that are held apart: U tells which blocks are in use -/
structure Li (w0 wL v : World) (sl : Sl) (kls : Nat) (ss : List Sl) (ds : List (Option Nat)) (C : Nat → List Value) (U : Nat → Prop) : Prop where
  ext : Ext wL v
  row : Own v sl kls 38 1 (ss.flatMap slC)
  kge : wL.heap.size ≤ kls
  ld : ds.length = ss.length
  own : ∀ (q : Nat) s d, ss[q]? = some s → ds[q]? = some d → OwnO wL s d 5 1 (C q) ∧ s.n ≤ 16777216
  use : ∀ (q b : Nat), ds[q]? = some (some b) → U b ∧ w0.heap.size ≤ b
  inj : ∀ (q q' b : Nat), ds[q]? = some (some b) → ds[q']? = some (some b) → q = q'
section
variable {w0 wL v v' : World} {sl : Sl} {kls : Nat} {ss : List Sl} {ds : List (Option Nat)} {C : Nat → List Value} {U U' : Nat → Prop}
theorem Li.up (h : Li w0 wL v sl kls ss ds C U) (x : Ext v v') : Li w0 wL v' sl kls ss ds C U := ⟨h.ext.trans x, h.row.ext x, h.kge, h.ld, h.own, h.use, h.inj⟩
theorem Li.mono (h : Li w0 wL v sl kls ss ds C U) (hU : ∀ b, U b → U' b) : Li w0 wL v sl kls ss ds C U' := ⟨h.ext, h.row, h.kge, h.ld, h.own, fun q b hb => ⟨hU b (h.use q b hb).1, (h.use q b hb).2⟩, h.inj⟩
theorem Li.add {s : Sl} {d : Option Nat} {cs : List Value} {src : Value} {K : Sl → World → Prop} (h : Li w0 wL v sl kls ss ds C U) (ho : OwnO wL s d 5 1 cs) (hs : s.n ≤ 16777216) (hd : ∀ b, d = some b → ¬ U b ∧ w0.heap.size ≤ b) (hsrc : srcAt v src 1 1 (slC s)) (hlen : ss.length ≤ 100)
    (hK : ∀ s' v' kls' C', Li w0 wL v' s' kls' (ss ++ [s]) (ds ++ [d]) C' (fun b => U b ∨ d = some b) → K s' v') : app v 38 1 24 #[.slice none 0 0] sl.p sl.n sl.c src K := by
  have hn : sl.n = ss.length := (h.row.row (f := slC) (fun _ => rfl) (by decide)).n
  refine h.row.app (m := 1) hsrc rfl (by simp [slC, Sl.v, Value.oneCell']) rfl (by omega) (by omega) fun s' v' kls' hk hX hO hn' => hK s' v' kls' (fun q => if q = ss.length then cs else C q) ?_
  have hld := h.ld
  have hvs := h.ext.1
  have hk' : wL.heap.size ≤ kls' := by
    have := h.kge
    rcases hk with ⟨e, _⟩ | ⟨e, _⟩ <;> omega
  refine ⟨h.ext.xtb hX h.kge, by rw [List.flatMap_append, List.flatMap_singleton]; exact hO, hk', by simp [hld], fun q s1 d1 h1 h2 => ?_, fun q b hb => ?_, fun q q' b hb hb' => ?_⟩
  · rcases get_snoc h1 with h1 | ⟨h1, e1⟩
    · have hq := some_lt h1
      rw [List.getElem?_append_left (by omega)] at h2
      rw [if_neg (by omega)]
      exact h.own q s1 d1 h1 h2
    · rw [List.getElem?_append_right (by omega), show q - ds.length = 0 by omega] at h2
      cases h2
      rw [if_pos h1, e1]
      exact ⟨ho, hs⟩
  · rcases get_snoc hb with hb | ⟨_, hb⟩
    · exact ⟨.inl (h.use q b hb).1, (h.use q b hb).2⟩
    · exact ⟨.inr hb.symm, (hd b hb.symm).2⟩
  · rcases get_snoc hb with hb | ⟨hq, hb⟩ <;> rcases get_snoc hb' with hb' | ⟨hq', hb'⟩
    · exact h.inj q q' b hb hb'
    · exact absurd (h.use q b hb).1 (hd b hb'.symm).1
    · exact absurd (h.use q' b hb').1 (hd b hb.symm).1
    · omega
theorem Li.ap (h : Li w0 wL v sl kls ss ds C U) (hE : Ext w0 wL) (hlen : ss.length ≤ 1000) : Ap w0 v sl kls ss ds C ∧ ApS w0 kls ss ds :=
  ⟨⟨hE.trans h.ext, h.row, fun q s d h1 h2 => (h.own q s d h1 h2).1.ext h.ext⟩, ⟨Nat.le_trans hE.1 h.kge, hlen, h.ld, fun s hs => by
    obtain ⟨q, hq⟩ := List.getElem?_of_mem hs
    obtain ⟨d, hd⟩ : ∃ d, ds[q]? = some d := ⟨_, List.getElem?_eq_getElem (by have := some_lt hq; have := h.ld; omega)⟩
    exact (h.own q s d hq hd).2, h.inj, fun q b hb => ⟨(h.use q b hb).2, by
      obtain ⟨s, hs⟩ : ∃ s, ss[q]? = some s := ⟨_, List.getElem?_eq_getElem (by have := some_lt hb; have := h.ld; omega)⟩
      have := (h.own q s _ hs hb).1.lt b rfl
      have := h.kge
      omega⟩⟩⟩
end
theorem LinesX_nil {w : World} : LinesX w ⟨none, 0, 0⟩ [] [] := ⟨Row_nil, rfl, fun i x m h => by simp at h⟩
end Go.Proofs.Ytmmkhlalhalomaa
