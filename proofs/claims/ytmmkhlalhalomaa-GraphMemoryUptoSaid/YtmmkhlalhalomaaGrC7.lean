import Derived.Test.YtmmkhlalhalomaaGrC6
set_option linter.unusedVariables false
set_option linter.unusedSimpArgs false
set_option maxRecDepth 100000
namespace Go.Proofs.Ytmmkhlalhalomaa
open Go Go.Low
/-- what 'begin' answers: the place of the root, or the error -/
inductive Beg (ms : List Nd) (root : Int) : Option Nat → Int → Prop
  | graph (h : ¬ OkGraph ms) : Beg ms root none 140
  | node (h : OkGraph ms) (hp : pos ms root = none) : Beg ms root none 141
  | dir (h : OkGraph ms) {k : Nat} {m : Nd} (hp : pos ms root = some k) (hm : ms[k]? = some m) (hd : m.kind ≠ 2) : Beg ms root none 173
  | fine (h : OkGraph ms) {k : Nat} {m : Nd} (hp : pos ms root = some k) (hm : ms[k]? = some m) (hd : m.kind = 2) : Beg ms root (some k) 0
theorem C_refBegin {w : World} {g : S_api_Graph} {xs : List S_api_Node} {ms : List Nd} {root : Int} {K : Int → Int → World → Prop} (h : GraphX w g.Nodes xs ms) (hs : Small ms) (hf : Fair ms)
    (k : ∀ o e w', Ext w w' → Beg ms root o e → K (o.elim 0 fun k => (k : Int)) e w') : cl2 Try.prog 18 [S_api_Graph.v g, .int .i64 root] w (Value.int .i64) (Value.int .i64) K := by
  refine T_valiseref14_begin g root (al_i fun hB hE => ldT_all (x := g) hB.all (C_Check (h.ext hE) hs hf (fun w1 hE1 ho => ⟨fun _ => ?_, fun hn => absurd rfl hn⟩) fun w1 hE1 ho => ⟨fun hn => absurd hn (by decide), fun _ => k none _ _ (hE.trans hE1) (.graph ho)⟩))
  have hB1 := hB.ext hE1
  have hE1' := hE.trans hE1
  refine ldT_all (x := g) hB1.all (C_At (h.ext hE1') ho.nodes.rising hs.len fun w2 hE2 => ?_)
  have hE2' := hE1'.trans hE2
  have hB2 := hB1.ext hE2
  cases hp : pos ms root with
  | none =>
    have : posI ms root = -1 := by rw [posI, hp]
    rw [this]
    exact ⟨fun _ => k none _ _ hE2' (.node ho hp), fun hn => absurd (by decide) hn⟩
  | some j =>
    have hj : posI ms root = (j : Int) := by rw [posI, hp]
    rw [hj]
    obtain ⟨m, hm, _⟩ := pos_get hp
    obtain ⟨x, m', hx, hm', hxm⟩ := h.node (some_lt hm)
    rw [hm] at hm'
    cases hm'
    refine ⟨fun hn => absurd hn (by omega), fun _ => ldL_at hB2.all ⟨g.Nodes, rfl, (h.ext hE2').row.ix hx fun c hc => ldN_at hc ⟨x.Kind, rfl, fun h2 => ?_, fun h2 => ?_⟩⟩⟩
    · exact k (some j) _ _ hE2' (.fine ho hp hm (by rw [← hxm.kind]; exact h2))
    · exact k none _ _ hE2' (.dir ho hp hm (by rw [← hxm.kind]; exact h2))
end Go.Proofs.Ytmmkhlalhalomaa
