import Derived.Test.YtmmkhlalhalomaaGrC12
set_option linter.unusedVariables false
set_option linter.unusedSimpArgs false
set_option maxRecDepth 100000
namespace Go.Proofs.Ytmmkhlalhalomaa
open Go Go.Low
theorem C_graphTree {w : World} {g : S_api_Graph} {xs : List S_api_Node} {ms : List Nd} {root : Int} {K : Sl → Int → World → Prop} (h : GraphX w g.Nodes xs ms) (hs : Small ms)
    (k0 : ∀ e w', Ext w w' → TreeR ms root none e → K ⟨none, 0, 0⟩ e w')
    (k1 : ∀ ls s w' ko ys Ds, Ext w w' → TreeR ms root (some ls) 0 → OwnL w.heap.size w' s ko ys ls Ds → ls.length ≤ 4194304 → K s 0 w') :
    cl2 Try.prog 6 [S_api_Graph.v g, .int .i64 root] w Sl.v (Value.int .i64) K := by
  refine T_graph_Tree g root (al_i fun hB hE => ldT_all (x := g) hB.all (C_begin (h.ext hE) hs (fun e w1 hE1 hb => ⟨fun h0 => absurd h0 hb.bad, fun _ => k0 e w1 (hE.trans hE1) (.bad hb)⟩) fun b w1 bys k m a hE1 ho hp hm hd hby ha => ⟨fun _ => ?_, fun hn => absurd rfl hn⟩))
  replace hE := hE.trans hE1
  have hG := h.ext hE
  clear hE1 hB
  refine mk_i kInt S_graph_where.v fun hM hE2 => al_i fun hB3 hE3 => ?_
  have hM3 := hM.ext hE3
  have hE13 := hE2.trans hE3
  have hz2 : (w1.alloc (.map #[] 0)).heap.size = w1.heap.size + 1 := by simp
  rw [hz2] at hB3 ⊢
  generalize (w1.alloc (.map #[] 0)).alloc _ = w3 at hB3 hM3 hE13 ⊢
  have hL : Lst w1 w3 ms b (w1.heap.size + 1) w1.heap.size ⟨none, 0, 0⟩ none [] [] [] TS.nil TS.nil.sum :=
    ⟨hE13, hB3, hM3, fun k m _ => rfl, OwnR.nil, by omega, by omega, by omega, ⟨by simp, by simp⟩, fun D hD => by cases hD⟩
  have hbeg : Beg ms root (some k) 0 := .fine ho hp hm hd
  refine C_add hG ho hs hby ha 4194305 (by simp) hL (by simp [TS.nil]) (by simp [TS.nil]) hm (by decide) (by decide) (fun w' hE' hR => ⟨fun _ => k0 _ _ (hE.trans hE') (.big hbeg hR), fun hn => by cases hn⟩) (fun w' o' ko' ys' Ds' fs' σ' hL' hc' hs' hR => ⟨fun hn => (by cases hn), fun _ => ldL_at (i := 1) hL'.lis.all ⟨o', rfl, ?_⟩⟩)
  exact k1 _ _ _ _ _ _ (hE.trans hL'.ext) (.fine hbeg hR) (hL'.out.low hE.1) (by omega)
end Go.Proofs.Ytmmkhlalhalomaa
