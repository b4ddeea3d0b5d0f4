import Derived.Test.YtmmkhlalhalomaaGrC10
set_option linter.unusedVariables false
set_option linter.unusedSimpArgs false
set_option maxRecDepth 100000
namespace Go.Proofs.Ytmmkhlalhalomaa
open Go Go.Low
theorem C_begin {w : World} {g : S_api_Graph} {xs : List S_api_Node} {ms : List Nd} {root : Int} {K : Option Nat → Option Addr → Int → World → Prop} (h : GraphX w g.Nodes xs ms) (hs : Small ms)
    (k0 : ∀ e w', Ext w w' → Beg ms root none e → K none none e w')
    (k1 : ∀ b w' bys k m a, Ext w w' → OkGraph ms → pos ms root = some k → ms[k]? = some m → m.kind = 2 → ByAt w' b g.Nodes ms bys → g.Nodes.p = some a → K (some b) (some (a.add (k * 10))) 0 w') :
    cl3 Try.prog 16 [S_api_Graph.v g, .int .i64 root] w Value.map Value.pointer (Value.int .i64) K := by
  refine T_graph_begin g root (al_i fun hB hE => ldT_all (x := g) hB.all (C_read (h.ext hE) hs (fun o w1 hE1 ho => ⟨fun _ => k0 _ _ (hE.trans hE1) (.graph ho), fun hn => by cases hn⟩) fun b w1 bys hE1 ho hby => ⟨fun hn => (by cases hn), fun _ => lk_i (kk := kInt) hby.map ?_⟩))
  replace hE := hE.trans hE1
  rw [hby.get]
  cases hp : pos ms root with
  | none => exact ⟨fun _ => k0 _ _ hE (.node ho hp), fun hn => by cases hn⟩
  | some j =>
    obtain ⟨m, hm, _⟩ := pos_get hp
    obtain ⟨x, m', hx, hm', hxm⟩ := h.node (some_lt hm)
    rw [hm] at hm'
    cases hm'
    obtain ⟨a, ha, hc⟩ := h.cellsAt hx
    rw [ha]
    refine ⟨fun hn => (by cases hn), fun _ => nn_i (ldN_at (hE.cells hc) ⟨x.Kind, rfl, fun h2 => ?_, fun h2 => ?_⟩)⟩
    · exact k1 b w1 bys j m a hE ho hp hm (by rw [← hxm.kind]; exact h2) hby ha
    · exact k0 _ _ hE (.dir ho hp hm (by rw [← hxm.kind]; exact h2))
/-! ### a row that may be nil -/
/-- what lies in a block of its own, or nil -/
def OwnO (w : World) (s : Sl) (d : Option Nat) (e sz : Nat) (cs : List Value) : Prop := match d with
  | none => s = ⟨none, 0, 0⟩ ∧ cs = []
  | some k => Own w s k e sz cs
theorem OwnO.ext {w w' : World} {s : Sl} {d : Option Nat} {e sz : Nat} {cs : List Value} (h : OwnO w s d e sz cs) (x : Ext w w') : OwnO w' s d e sz cs := by
  cases d with
  | none => exact h
  | some k => exact Own.ext h x
theorem OwnO.xtb {w w' : World} {B : Nat} {s : Sl} {d : Option Nat} {e sz : Nat} {cs : List Value} (h : OwnO w s d e sz cs) (x : XtB B w w') (hB : d ≠ some B) : OwnO w' s d e sz cs := by
  cases d with
  | none => exact h
  | some k => exact Own.xtb h x fun e => hB (by rw [e])
theorem OwnO.lt {w : World} {s : Sl} {d : Option Nat} {e sz : Nat} {cs : List Value} (h : OwnO w s d e sz cs) : ∀ k, d = some k → k < w.heap.size := by
  rintro k rfl
  exact Own.lt h
theorem OwnO.n {w : World} {s : Sl} {d : Option Nat} {e sz : Nat} {cs : List Value} (h : OwnO w s d e sz cs) : cs.length = s.n * sz := by
  cases d with
  | none => obtain ⟨rfl, rfl⟩ := h; simp
  | some k => exact Own.n h
theorem OwnO.row {α : Type} {w : World} {s : Sl} {d : Option Nat} {e sz : Nat} {f : α → List Value} {xs : List α} (h : OwnO w s d e sz (xs.flatMap f)) (hf : ∀ x, (f x).length = sz) (hsz : 0 < sz) : Row w s sz f xs := by
  cases d with
  | none =>
    obtain ⟨rfl, h⟩ := h
    have hx : xs = [] := by
      cases xs with
      | nil => rfl
      | cons c r =>
        have := congrArg List.length h
        simp only [List.flatMap_cons, List.length_append, hf, List.length_nil] at this
        omega
    subst hx
    exact ⟨rfl, Nat.le_refl _, by decide, fun _ => rfl, fun x hx => (by cases hx), fun b hb => by cases hb⟩
  | some k => exact Own.row h hf hsz
theorem OwnO.app {w : World} {s : Sl} {d : Option Nat} {e sz bts m : Nat} {cs new : List Value} {z : Array Value} {src : Value} {K : Sl → World → Prop} (h : OwnO w s d e sz cs) (hs : srcAt w src sz m new) (hl : new.length = m * sz) (h1 : ∀ v ∈ new, v.oneCell' = true) (hz : z.size = sz) (hm : 0 < m)
    (hb : (s.n + m) * bts ≤ 140737488355328) (h63 : s.n + m < 9223372036854775808)
    (hK : ∀ s' w' k' B, (some B = d ∧ k' = B ∧ w'.heap.size = w.heap.size ∨ (d = none → B = w.heap.size) ∧ (d ≠ none → d = some B) ∧ k' = w.heap.size ∧ w'.heap.size = w.heap.size + 1) → XtB B w w' → Own w' s' k' e sz (cs ++ new) → s'.n = s.n + m → K s' w') : app w e sz bts z s.p s.n s.c src K := by
  cases d with
  | none =>
    obtain ⟨rfl, rfl⟩ := h
    refine OwnN.app (k := w.heap.size) (.inl ⟨rfl, rfl⟩) hs hl h1 hz hm hb h63 fun s' w' k' hk hX ho hn => hK s' w' k' w.heap.size (.inr ⟨fun _ => rfl, fun h => absurd rfl h, ?_⟩) hX ho hn
    rcases hk with ⟨e, hz⟩ | ⟨e, hz⟩
    · have := ho.lt; omega
    · exact ⟨e.symm, hz⟩
  | some k =>
    refine Own.app h hs hl h1 hz hb h63 fun s' w' k' hk hX ho hn => hK s' w' k' k (hk.imp (fun ⟨a, b⟩ => ⟨rfl, a, b⟩) fun ⟨a, b⟩ => ⟨fun h => (by cases h), fun _ => rfl, a.symm, b⟩) hX ho hn
theorem C_Clone {w : World} {s : Sl} {xs : List UInt8} {K : Sl → World → Prop} (h : Bytes w s xs) (hb : xs.length ≤ 140737488355328)
    (k : ∀ s' w' d, Ext w w' → (∀ b, d = some b → w.heap.size ≤ b) → OwnO w' s' d 5 1 (xs.flatMap u8) → K s' w') : cl1 Try.prog 22 [Sl.v s] w Sl.v K := by
  refine T_slices_Clone_byte_byte s ⟨fun hn => ?_, fun hn => ?_⟩
  · have hx : xs = [] := by
      have h1 := h.n; have h2 := h.nil (by simpa using hn)
      cases xs with
      | nil => rfl
      | cons c r => simp at h1; omega
    subst hx
    exact k _ _ none (Ext.refl w) (fun b hb => by cases hb) ⟨rfl, rfl⟩
  · refine al_i fun hB hE => ?_
    refine Own.app (w := w.alloc (.cells ([] : List Value).toArray 5)) Own.new (h.ext hE).src (length_flat h.len) (one_u8 _) rfl (by simpa using hb) (by simp; omega) ?_
    intro s' w' k' hk hx ho hn
    have hge : w.heap.size ≤ k' := by
      rcases hk with ⟨rfl, _⟩ | ⟨hk, _⟩
      · exact Nat.le_refl _
      · rw [← hk]; simp
    exact k s' w' (some k') (hE.xtb hx (Nat.le_refl _)) (fun b hb => by cases hb; exact hge) (by rw [List.nil_append] at ho; exact ho)
end Go.Proofs.Ytmmkhlalhalomaa
