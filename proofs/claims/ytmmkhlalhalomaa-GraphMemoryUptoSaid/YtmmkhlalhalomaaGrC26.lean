import Derived.Test.YtmmkhlalhalomaaGrM6
set_option linter.unusedVariables false
set_option linter.unusedSimpArgs false
set_option maxRecDepth 100000
namespace Go.Proofs.Ytmmkhlalhalomaa
open Go Go.Low
/-- an append, told in its two cases -/
theorem Own_app2 {w : World} {s : Sl} {k e sz bts m : Nat} {cs new : List Value} {z : Array Value} {src : Value} {K : Sl → World → Prop} (h : Own w s k e sz cs) (hs : srcAt w src sz m new) (hl : new.length = m * sz) (h1 : ∀ v ∈ new, v.oneCell' = true) (hz : z.size = sz)
    (hb : (s.n + m) * bts ≤ 140737488355328) (h63 : s.n + m < 9223372036854775808)
    (hK1 : ∀ w', XtB k w w' → w'.heap.size = w.heap.size → Own w' ⟨s.p, s.n + m, s.c⟩ k e sz (cs ++ new) → K ⟨s.p, s.n + m, s.c⟩ w')
    (hK2 : ∀ s' w', Ext w w' → Own w' s' w.heap.size e sz (cs ++ new) → s'.n = s.n + m → K s' w') : app w e sz bts z s.p s.n s.c src K := by
  obtain ⟨sp, hblk, hsp⟩ := h.blk
  have hn := h.n
  refine ⟨m, new, hs, h1, fun hle => ⟨fun hp => (by rw [h.p] at hp; cases hp), fun b hb' => ?_⟩, fun hlt => ⟨hb, h63, cs, hn, fun hp => (by rw [h.p] at hp; cases hp), fun b hb' => ?_, fun cap hc hc' => ?_⟩⟩
  · have hp := h.p
    rw [hp] at hb'
    cases hb'
    rw [add_loc]
    have hfit : (s.n + m) * sz ≤ s.c * sz := Nat.mul_le_mul_right _ hle
    rw [Nat.add_mul] at hfit
    have hnew : splL (cs ++ sp) (0 + s.n * sz) new = (cs ++ new) ++ sp.drop new.length := by
      unfold splL
      rw [Nat.zero_add, ← hn, List.take_left, List.drop_append]
      rw [List.drop_eq_nil_of_le (by omega)]
      simp [List.append_assoc]
    refine hblk.st (by simp only [List.length_append]; omega) ?_
    rw [hnew]
    have := hK1 _ (XtB.put (b := ⟨k, 0, none⟩) _ rfl) (by simp) ⟨hp, ⟨sp.drop new.length, Blk.put_eq h.lt, by simp only [List.length_append, List.length_drop]; omega⟩, by simp only [List.length_append, Nat.add_mul]; omega, hle, h.c63⟩
    rw [hp] at this
    exact this
  · rw [h.p] at hb'
    cases hb'
    exact h.cells
  · refine hK2 _ _ ((Ext.refl w).drew.alloc _) ⟨rfl, ⟨(Builtin.zeroCells z (cap - (s.n + m))).toList, ?_, ?_⟩, ?_, hc, hc'⟩ rfl
    · have : ((cs ++ new).toArray ++ Builtin.zeroCells z (cap - (s.n + m))) = ((cs ++ new) ++ (Builtin.zeroCells z (cap - (s.n + m))).toList).toArray := by
        apply Array.ext'; simp
      rw [this]
      exact Blk.new (w := w.drew)
    · rw [length_zeroCells, hz]
      simp only [List.length_append, hl, hn]
      have : cap * sz = (s.n + m) * sz + (cap - (s.n + m)) * sz := by rw [← Nat.add_mul]; congr 1; omega
      rw [this, Nat.add_mul]
    · simp only [List.length_append, Nat.add_mul]; omega
theorem nil_app2 {w : World} {e sz bts m : Nat} {new : List Value} {z : Array Value} {src : Value} {K : Sl → World → Prop} (hs : srcAt w src sz m new) (hl : new.length = m * sz) (h1 : ∀ v ∈ new, v.oneCell' = true) (hz : z.size = sz) (hm : 0 < m)
    (hb : m * bts ≤ 140737488355328) (h63 : m < 9223372036854775808)
    (hK2 : ∀ s' w', Ext w w' → Own w' s' w.heap.size e sz new → s'.n = m → K s' w') : app w e sz bts z none 0 0 src K := by
  refine ⟨m, new, hs, h1, fun hle => absurd hle (by omega), fun _ => ⟨by rw [Nat.zero_add]; exact hb, by omega, [], by simp, fun _ => rfl, fun b hb => (by cases hb), fun cap hc hc' => ?_⟩⟩
  refine hK2 _ _ ((Ext.refl w).drew.alloc _) ⟨rfl, ⟨(Builtin.zeroCells z (cap - (0 + m))).toList, ?_, ?_⟩, ?_, hc, hc'⟩ (Nat.zero_add m)
  · have : ((([] : List Value) ++ new).toArray ++ Builtin.zeroCells z (cap - (0 + m))) = (new ++ (Builtin.zeroCells z (cap - (0 + m))).toList).toArray := by
      apply Array.ext'; simp
    rw [this]
    exact Blk.new (w := w.drew)
  · rw [length_zeroCells, hz, hl, ← Nat.add_mul]
    show _ = cap * sz
    congr 1; omega
  · simp only [hl]; congr 1; omega
theorem Own_trunc {w : World} {s : Sl} {k e sz m : Nat} {cs new : List Value} (h : Own w ⟨s.p, m, s.c⟩ k e sz (cs ++ new)) (hn : cs.length = s.n * sz) (hc : s.n ≤ s.c) : Own w s k e sz cs := by
  obtain ⟨sp, hb, hl⟩ := h.blk
  exact ⟨h.p, ⟨new ++ sp, by rw [← List.append_assoc]; exact hb, by simp only [List.length_append] at hl ⊢; omega⟩, hn, hc, h.c63⟩
/-- an append of noughts: what is ahead of them stays -/
theorem apz_i {w : World} {s : Sl} {d : Option Nat} {e k : Nat} {cs : List Value} {K : Sl → World → Prop} (h : OwnO w s d e 1 cs) (hb : s.n + k ≤ 140737488355328)
    (hK : ∀ r w', (∀ j, j < w.heap.size → d ≠ some j → w'.heap[j]? = w.heap[j]?) → w.heap.size ≤ w'.heap.size → w'.os = w.os ∧ w'.output = w.output → OwnO w' s d e 1 cs → r.n = s.n + k → K r w') : apz w e 1 1 #[.int .u8 0] s.p s.n s.c (k : Int) K := by
  refine ⟨k, rfl, fun v hv => (by simp at hv; rw [hv]; rfl), rfl, fun hle => ⟨fun hp => ?_, fun b hp => ?_⟩, by omega, by omega, fun hlt => ⟨cs, ?_⟩⟩
  · cases d with
    | none => obtain ⟨rfl, rfl⟩ := h; exact hK _ w (fun _ _ _ => rfl) (Nat.le_refl _) ⟨rfl, rfl⟩ ⟨rfl, rfl⟩ rfl
    | some q => rw [Own.p h] at hp; cases hp
  · cases d with
    | none => obtain ⟨rfl, rfl⟩ := h; cases hp
    | some q =>
      have h' : Own w s q e 1 cs := h
      have hp' := h'.p
      rw [hp'] at hp
      cases hp
      obtain ⟨sp, hblk, hsp⟩ := h'.blk
      have hn := h'.n
      have hzl : (Builtin.zeroCells #[.int .u8 0] k).toList.length = k := by rw [length_zeroCells]; simp
      rw [add_loc]
      have hnew : splL (cs ++ sp) (0 + s.n * 1) (Builtin.zeroCells #[.int .u8 0] k).toList = cs ++ ((Builtin.zeroCells #[.int .u8 0] k).toList ++ sp.drop k) := by
        unfold splL
        rw [Nat.zero_add, ← hn, List.take_left, List.drop_append]
        rw [List.drop_eq_nil_of_le (by omega), hzl]
        simp [List.append_assoc]
      refine hblk.st (by simp only [List.length_append, hzl]; omega) ?_
      rw [hnew]
      refine hK _ _ (fun j hj hne => (XtB.put (w := w) (b := ⟨q, 0, none⟩) _ rfl).2 j hj fun e => hne (by rw [e])) (by simp) ⟨rfl, rfl⟩ ?_ rfl
      exact ⟨hp', ⟨_, Blk.put_eq h'.lt, by simp only [List.length_append, List.length_drop, hzl]; omega⟩, hn, h'.nc, h'.c63⟩
  · have hn := h.n
    refine ⟨hn, fun hp => ?_, fun b hp => ?_, ?_⟩
    · cases d with
      | none => obtain ⟨rfl, rfl⟩ := h; rfl
      | some q => rw [Own.p h] at hp; cases hp
    · cases d with
      | none => obtain ⟨rfl, rfl⟩ := h; cases hp
      | some q => rw [Own.p h] at hp; cases hp; exact Own.cells h
    · intro cap hc hc'
      exact hK _ _ (fun j hj _ => ((Ext.refl w).drew.alloc _).2 j hj) (by simp) ⟨rfl, rfl⟩ (h.ext ((Ext.refl w).drew.alloc _)) rfl
end Go.Proofs.Ytmmkhlalhalomaa
