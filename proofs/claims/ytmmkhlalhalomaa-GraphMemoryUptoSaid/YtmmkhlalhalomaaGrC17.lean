import Derived.Test.YtmmkhlalhalomaaGrC16
set_option linter.unusedVariables false
set_option linter.unusedSimpArgs false
set_option maxRecDepth 100000
namespace Go.Proofs.Ytmmkhlalhalomaa
open Go Go.Low
theorem ent_refl (t : S_api_Ent) : S_api_Ent.same t t = true := by simp [S_api_Ent.same]
theorem C_SameNode {w : World} {x x' : S_api_Node} {m : Nd} {K : Bool → World → Prop} (h : NodeAt w x m) (h' : NodeAt w x' m) (k1 : ∀ w', Ext w w' → K true w') :
    cl1 Try.prog 26 [S_api_Node.v x, S_api_Node.v x'] w Value.bool K := by
  obtain ⟨d, e, rfl⟩ : ∃ d e, x = m.hd d e := ⟨_, _, h.hd⟩
  obtain ⟨d', e', rfl⟩ : ∃ d e, x' = m.hd d e := ⟨_, _, h'.hd⟩
  have hd : Bytes w d m.data := h.data
  have hd' : Bytes w d' m.data := h'.data
  have he : Row w e 2 S_api_Ent.cells m.ents := h.ents
  have he' : Row w e' 2 S_api_Ent.cells m.ents := h'.ents
  refine T_valiseref00_SameNode _ _ (al_i fun hB1 hE1 => al_i fun hB2 hE2 => ?_)
  replace hB1 := hB1.ext hE2
  have hE := hE1.trans hE2
  generalize (w.alloc _).alloc _ = w2 at hB1 hB2 hE ⊢
  refine ldN_at (i := 0) hB1.all ⟨m.id, rfl, ldN_at (i := 0) hB2.all ⟨m.id, rfl, fun _ => ?_, fun hne => absurd rfl hne⟩⟩
  refine ldN_at (i := 1) hB1.all ⟨m.kind, rfl, ldN_at (i := 1) hB2.all ⟨m.kind, rfl, fun _ => ?_, fun hne => absurd rfl hne⟩⟩
  refine ldN_at (i := 2) hB1.all ⟨m.mode, rfl, ldN_at (i := 2) hB2.all ⟨m.mode, rfl, fun _ => ?_, fun hne => absurd rfl hne⟩⟩
  refine ldN_at (i := 3) hB1.all ⟨m.uid, rfl, ldN_at (i := 3) hB2.all ⟨m.uid, rfl, fun _ => ?_, fun hne => absurd rfl hne⟩⟩
  refine ldN_at (i := 4) hB1.all ⟨m.gid, rfl, ldN_at (i := 4) hB2.all ⟨m.gid, rfl, fun _ => ?_, fun hne => absurd rfl hne⟩⟩
  refine ldT_at (i := 5) hB1.all m.mtime rfl (ldT_at (i := 5) hB2.all m.mtime rfl ⟨fun hn => by rw [time_refl] at hn; (cases hn), fun _ => ?_⟩)
  refine ldS_at (i := 8) hB1.all ⟨m.target, rfl, ldS_at (i := 8) hB2.all ⟨m.target, rfl, fun _ => ?_, fun hne => absurd rfl hne⟩⟩
  have hn := he.n; have hn' := he'.n
  have h63 := he.n63
  refine ldL_at (i := 9) hB1.all ⟨e, rfl, ldL_at (i := 9) hB2.all ⟨e', rfl, fun _ => ?_, fun hne => absurd (by omega) hne⟩⟩
  refine ldL_at (i := 7) hB1.all ⟨d, rfl, ldL_at (i := 7) hB2.all ⟨d', rfl, C_SameBytes (hd.ext hE) (hd'.ext hE) fun w3 hE3 => ⟨fun hn => by simp at hn, fun _ => ?_⟩⟩⟩
  replace hB1 := hB1.ext hE3
  replace hB2 := hB2.ext hE3
  replace hE := hE.trans hE3
  refine ⟨fun _ i v => ∃ j : Nat, i = j ∧ j ≤ m.ents.length ∧ Ext w3 v, fun _ i _ => (m.ents.length - i).toNat, ⟨0, rfl, by omega, Ext.refl _⟩, ?_⟩
  rintro _ i v ⟨j, rfl, hj, hEv⟩
  refine ldL_at (i := 9) (hB1.ext hEv).all ⟨e, rfl, fun hlt => dr_i ?_, fun hge => k1 _ (hE.trans hEv)⟩
  have hEd : Ext w3 v.drew := hEv.drew
  have hlt' : (j : Int) < e.n := hlt
  obtain ⟨y, hy⟩ : ∃ y, m.ents[j]? = some y := ⟨_, List.getElem?_eq_getElem (by omega)⟩
  refine ldL_at (i := 9) (hB1.ext hEd).all ⟨e, rfl, (he.ext (hE.trans hEd)).ix hy fun c hc => ldT_all (x := y) hc (ldL_at (i := 9) (hB2.ext hEd).all ⟨e', rfl, (he'.ext (hE.trans hEd)).ix hy fun c' hc' => ldT_all (x := y) hc' ⟨fun hn => by rw [ent_refl] at hn; (cases hn), fun _ => ⟨⟨j + 1, by rw [w64_id (by omega) (by omega)]; rfl, by omega, hEd⟩, by dsimp only; rw [w64_id (by omega) (by omega)]; omega⟩⟩⟩)⟩
theorem C_SameGraph {w : World} {g g' : S_api_Graph} {xs xs' : List S_api_Node} {ms : List Nd} {K : Bool → World → Prop} (h : GraphX w g.Nodes xs ms) (h' : GraphX w g'.Nodes xs' ms) (k1 : ∀ w', Ext w w' → K true w') :
    cl1 Try.prog 11 [S_api_Graph.v g, S_api_Graph.v g'] w Value.bool K := by
  have hn := h.n; have hn' := h'.n
  have h63 := h.row.n63
  refine T_valiseref00_SameGraph _ _ (al_i fun hB1 hE1 => al_i fun hB2 hE2 => ?_)
  replace hB1 := hB1.ext hE2
  have hE := hE1.trans hE2
  generalize (w.alloc _).alloc _ = w2 at hB1 hB2 hE ⊢
  refine ldL_at (i := 0) hB1.all ⟨g.Nodes, rfl, ldL_at (i := 0) hB2.all ⟨g'.Nodes, rfl, fun _ => ?_, fun hne => absurd (by omega) hne⟩⟩
  refine ⟨fun _ i v => ∃ j : Nat, i = j ∧ j ≤ ms.length ∧ Ext w2 v, fun _ i _ => (ms.length - i).toNat, ⟨0, rfl, by omega, Ext.refl _⟩, ?_⟩
  rintro _ i v ⟨j, rfl, hj, hEv⟩
  refine ldL_at (i := 0) (hB1.ext hEv).all ⟨g.Nodes, rfl, fun hlt => dr_i ?_, fun hge => k1 _ (hE.trans hEv)⟩
  have hEd : Ext w2 v.drew := hEv.drew
  have hE' := hE.trans hEd
  obtain ⟨x, m, hx, hm, hxm⟩ := (h.ext hE').node (j := j) (by omega)
  obtain ⟨x', m', hx', hm', hxm'⟩ := (h'.ext hE').node (j := j) (by omega)
  rw [hm] at hm'
  cases hm'
  refine ldL_at (i := 0) (hB1.ext hEd).all ⟨g.Nodes, rfl, (h.ext hE').row.ix hx fun c hc => ldT_all (x := x) hc (ldL_at (i := 0) (hB2.ext hEd).all ⟨g'.Nodes, rfl, (h'.ext hE').row.ix hx' fun c' hc' => ldT_all (x := x') hc' (C_SameNode hxm hxm' fun w' hE'' => ⟨fun hn => (by cases hn), fun _ => ⟨⟨j + 1, by rw [w64_id (by omega) (by omega)]; rfl, by omega, hEd.trans hE''⟩, by dsimp only; rw [w64_id (by omega) (by omega)]; omega⟩⟩)⟩)⟩
end Go.Proofs.Ytmmkhlalhalomaa
