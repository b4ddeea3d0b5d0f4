import Derived.Test.YtmmkhlalhalomaaGrG0
import Derived.Test.YtmmkhlalhalomaaGrG1
import Derived.Test.YtmmkhlalhalomaaGrG2
import Derived.Test.YtmmkhlalhalomaaGrG3
import Derived.Test.YtmmkhlalhalomaaGrG4
import Derived.Test.YtmmkhlalhalomaaGrG5
import Derived.Test.YtmmkhlalhalomaaGrG6
import Derived.Test.YtmmkhlalhalomaaLowR
set_option linter.unusedVariables false
set_option linter.unusedSimpArgs false
set_option maxRecDepth 100000
namespace Go.Proofs.Ytmmkhlalhalomaa
open Go Go.Low
theorem C_CopyBytes {w : World} {s : Sl} {xs : List UInt8} {K : Sl → World → Prop} (h : Bytes w s xs) (hb : xs.length ≤ 140737488355328)
    (k : ∀ s' w' b, Ext w w' → w.heap.size ≤ b → Own w' s' b 5 1 (xs.flatMap u8) → K s' w') : cl1 Try.prog 19 [Sl.v s] w Sl.v K := by
  refine T_valiseref00_CopyBytes s ?_
  have hE : Ext w (w.alloc (.cells ([] : List Value).toArray 5)) := (Ext.refl w).alloc _
  refine Own.app (w := w.alloc (.cells ([] : List Value).toArray 5)) Own.new (h.ext hE).src (length_flat h.len) (one_u8 _) rfl (by simpa using hb) (by simp; omega) ?_
  intro s' w' k' hk hx ho hn
  have hge : w.heap.size ≤ k' := by
    rcases hk with ⟨rfl, _⟩ | ⟨hk, _⟩
    · exact Nat.le_refl _
    · rw [← hk]; simp
  exact k s' w' k' (hE.xtb hx (Nat.le_refl _)) hge (by simpa using ho)
theorem beq_take_drop {xs ys : List UInt8} (hl : xs.length = ys.length) {i : Nat} (h : xs.take i = ys.take i) (hi : xs.length ≤ i) : (xs == ys) = true := by
  rw [List.take_of_length_le hi, List.take_of_length_le (by omega)] at h
  simpa using h
theorem take_snoc {α : Type} {xs : List α} {i : Nat} {x : α} (h : xs[i]? = some x) : xs.take (i + 1) = xs.take i ++ [x] := by
  rw [List.take_add_one, h]; rfl
/-- the loop that compares two rows of bytes -/
theorem C_same {w : World} {s t : Sl} {xs ys : List UInt8} {K : Bool → World → Prop} (h : Bytes w s xs) (h' : Bytes w t ys) (k : ∀ w', Ext w w' → K (xs == ys) w') : W_valiseref00_SameBytes w s t K := by
  have hn := h.n; have hn' := h'.n; have h63 := h.n63
  refine ⟨fun he => ?_, fun he => ?_⟩
  · have hl : xs.length = ys.length := by omega
    refine ⟨fun _ i v => Ext w v ∧ ∃ j : Nat, i = j ∧ j ≤ xs.length ∧ xs.take j = ys.take j, fun _ i _ => (xs.length - i).toNat, ⟨Ext.refl w, 0, rfl, by omega, rfl⟩, ?_⟩
    rintro _ i v ⟨hE, j, rfl, hj, ht⟩
    refine ⟨fun hlt => ?_, fun hge => ?_⟩
    · have hjx : j < xs.length := by omega
      have hx : xs[j]? = some xs[j] := List.getElem?_eq_getElem hjx
      have hy : ys[j]? = some ys[j] := List.getElem?_eq_getElem (by omega)
      refine dr_i ((h.ext hE.drew).ix hx fun b hb => (h'.ext hE.drew).ix hy fun c hc => ?_)
      refine ⟨_, hb.1, _, hc.1, fun hxy => ⟨⟨hE.drew, j + 1, by rw [w64_id (by omega) (by omega)]; rfl, by omega, ?_⟩, by dsimp only; rw [w64_id (by omega) (by omega)]; omega⟩, fun hxy => ?_⟩
      · rw [take_snoc hx, take_snoc hy, ht, UInt8.toNat_inj.1 (show xs[j].toNat = ys[j].toNat by omega)]
      · have : (xs == ys) = false := by
          rw [beq_eq_false_iff_ne]
          intro e
          subst e
          exact hxy rfl
        rw [← this]
        exact k _ hE.drew
    · rw [← beq_take_drop hl ht (by omega)]
      exact k _ hE
  · have : (xs == ys) = false := by
      rw [beq_eq_false_iff_ne]
      intro e
      subst e
      omega
    rw [← this]
    exact k w (Ext.refl w)
theorem C_SameBytes {w : World} {s t : Sl} {xs ys : List UInt8} {K : Bool → World → Prop} (h : Bytes w s xs) (h' : Bytes w t ys)
    (k : ∀ w', Ext w w' → K (xs == ys) w') : cl1 Try.prog 32 [Sl.v s, Sl.v t] w Value.bool K := T_valiseref00_SameBytes s t (C_same h h' k)
theorem C_EqualBytes {w : World} {s t : Sl} {xs ys : List UInt8} {K : Bool → World → Prop} (h : Bytes w s xs) (h' : Bytes w t ys)
    (k : ∀ w', Ext w w' → K (xs == ys) w') : cl1 Try.prog 34 [Sl.v s, Sl.v t] w Value.bool K := T_slices_Equal_byte_byte s t (C_same h h' k)
end Go.Proofs.Ytmmkhlalhalomaa
