import Derived.Test.YtmmkhlalhalomaaGrC7
import Derived.Test.YtmmkhlalhalomaaLowM
set_option linter.unusedVariables false
set_option linter.unusedSimpArgs false
set_option maxRecDepth 100000
namespace Go.Proofs.Ytmmkhlalhalomaa
open Go Go.Low
/-- the index of a graph: where each node lies -/
structure ByAt (w : World) (kb : Nat) (s : Sl) (ms : List Nd) (bys : List (Int × Option Addr)) : Prop where
  map : MapAt w kb kInt Value.pointer bys
  get : ∀ id, aget bys id = (pos ms id).map fun k => s.p.map fun b => b.add (k * 10)
theorem ByAt.ext {w w' : World} {kb : Nat} {s : Sl} {ms : List Nd} {bys : List (Int × Option Addr)} (h : ByAt w kb s ms bys) (e : Ext w w') : ByAt w' kb s ms bys := ⟨h.map.ext e, h.get⟩
theorem ByAt.xtb {w w' : World} {kb B : Nat} {s : Sl} {ms : List Nd} {bys : List (Int × Option Addr)} (h : ByAt w kb s ms bys) (e : XtB B w w') (hB : kb ≠ B) : ByAt w' kb s ms bys := ⟨h.map.xtb e hB, h.get⟩
/-- the parents by Ids -/
structure PsOk (ms : List Nd) (p : Par) (ps : List (Int × Int)) : Prop where
  get : ∀ (k : Nat) m, ms[k]? = some m → aget ps m.id = (p k).bind fun j => (ms[j]?).map Nd.id
  key : ∀ id, (aget ps id).isSome = true → ∃ (k : Nat) (m : Nd), ms[k]? = some m ∧ m.id = id
theorem PsOk.isSome {ms : List Nd} {p : Par} {ps : List (Int × Int)} (h : PsOk ms p ps) (hlp : ∀ k j, p k = some j → j < ms.length) {k : Nat} {m : Nd} (hm : ms[k]? = some m) : (aget ps m.id).isSome = (p k).isSome := by
  rw [h.get k m hm]
  cases hp : p k with
  | none => rfl
  | some j =>
    have := hlp k j hp
    rw [Option.bind_some, List.getElem?_eq_getElem this]; rfl
theorem PsOk.put {ms : List Nd} {p : Par} {ps : List (Int × Int)} (h : PsOk ms p ps) (hr : Rising ms) {k j : Nat} {m mj : Nd} (hm : ms[k]? = some m) (hj : ms[j]? = some mj) : PsOk ms (fun x => if x = k then some j else p x) (aput ps m.id mj.id) := by
  have inj : ∀ (k' : Nat) m', ms[k']? = some m' → m'.id = m.id → k' = k := fun k' m' h1 h2 => by
    have e1 := pos_some hr h1 h2
    have e2 := pos_some hr hm rfl
    rw [e1] at e2
    exact Option.some.inj e2
  refine ⟨fun k' m' hm' => ?_, fun id hid => ?_⟩
  · rw [aget_put]
    by_cases e : m'.id = m.id
    · rw [if_pos e, inj k' m' hm' e, if_pos rfl, Option.bind_some, hj]; rfl
    · rw [if_neg e, if_neg (fun e2 => by subst e2; rw [hm] at hm'; cases hm'; exact e rfl)]
      exact h.get k' m' hm'
  · rw [aget_put] at hid
    by_cases e : id = m.id
    · exact ⟨k, m, hm, e.symm⟩
    · rw [if_neg e] at hid; exact h.key id hid
theorem GraphX.cellsAt {w : World} {s : Sl} {xs : List S_api_Node} {ms : List Nd} (h : GraphX w s xs ms) {k : Nat} {x : S_api_Node} (hx : xs[k]? = some x) : ∃ b, s.p = some b ∧ CellsAt w (b.add (k * 10)) 0 (S_api_Node.cells x) := by
  cases hp : s.p with
  | none =>
    have := h.row.nil hp; have := h.row.n; have := some_lt hx; omega
  | some b =>
    refine ⟨b, rfl, ?_⟩
    have := CellsAt.piece h.row.len (h.row.cells b hp) hx
    rw [Nat.zero_add] at this
    exact CellsAt.shift (i := 0) this
theorem C_enter {w : World} {s : Sl} {xs : List S_api_Node} {ms : List Nd} {kb kp j : Nat} {a : Addr} {x : S_api_Node} {m : Nd} {bys : List (Int × Option Addr)} {ps : List (Int × Int)} {p : Par} {K : Bool → World → Prop}
    (h : GraphX w s xs ms) (hr : Rising ms) (hx : xs[j]? = some x) (hm : ms[j]? = some m) (ha : CellsAt w a 0 (S_api_Node.cells x)) (hb : ByAt w kb s ms bys) (hp : MapAt w kp kInt (Value.int .i64) ps) (hps : PsOk ms p ps)
    (hlp : ∀ k j, p k = some j → j < ms.length) (hold : ∀ b, s.p = some b → b.block ≠ kp) (hne : kb ≠ kp) (hac : a.block ≠ kp) (hents : 0 < m.ents.length → ∀ b, x.Ents.p = some b → b.block ≠ kp) (hlen : m.ents.length ≤ 16777216)
    (k0 : ∀ w', XtB kp w w' → entsGo ms j m.ents ⟨#[]⟩ p = none → K false w')
    (k1 : ∀ w' p' ps', XtB kp w w' → entsGo ms j m.ents ⟨#[]⟩ p = some p' → MapAt w' kp kInt (Value.int .i64) ps' → PsOk ms p' ps' → (∀ k j, p' k = some j → j < ms.length) → K true w') :
    cl1 Try.prog 37 [.pointer (some a), .map (some kb), .map (some kp)] w Value.bool K := by
  have hxm := h.at_ j x m hx hm
  have hen := hxm.ents.n
  refine T_graph_enter (some a) (some kb) (some kp) (nn_i (ldL_at ha ⟨x.Ents, rfl, ?_⟩))
  refine ⟨fun _ nm i v => ∃ (l : Nat) (q : Par) (qs : List (Int × Int)), i = l ∧ l ≤ m.ents.length ∧ XtB kp w v ∧ MapAt v kp kInt (Value.int .i64) qs ∧ PsOk ms q qs ∧ (∀ k j, q k = some j → j < ms.length) ∧ entsGo ms j (m.ents.drop l) nm q = entsGo ms j m.ents ⟨#[]⟩ p, fun _ _ i _ => (m.ents.length - i).toNat,
    ⟨0, p, ps, rfl, by omega, XtB.refl _, hp, hps, hlp, rfl⟩, ?_⟩
  rintro _ nm i v ⟨l, q, qs, rfl, hl, hX, hq, hqs, hlq, hgo⟩
  refine ⟨fun hlt => ?_, fun hge => ?_⟩
  · have hl2 : l < m.ents.length := by omega
    obtain ⟨e, he⟩ : ∃ e, m.ents[l]? = some e := ⟨_, List.getElem?_eq_getElem hl2⟩
    have hdrop2 : m.ents.drop l = e :: m.ents.drop (l + 1) := by
      rw [List.drop_eq_getElem_cons hl2]
      congr 1
      rw [List.getElem?_eq_getElem hl2] at he
      exact Option.some.inj he
    rw [hdrop2, entsGo] at hgo
    refine ⟨fun nm' v' => nm' = e.Name ∧ ∃ (q' : Par) (qs' : List (Int × Int)), XtB kp w v' ∧ MapAt v' kp kInt (Value.int .i64) qs' ∧ PsOk ms q' qs' ∧ (∀ k j, q' k = some j → j < ms.length) ∧ entsGo ms j (m.ents.drop (l + 1)) e.Name q' = entsGo ms j m.ents ⟨#[]⟩ p, ?_, ?_⟩
    · rintro nm' v' ⟨rfl, q', qs', h1, h2, h3, h4, h5⟩
      exact ⟨⟨l + 1, q', qs', by rw [w64_id (by omega) (by omega)]; rfl, by omega, h1, h2, h3, h4, h5⟩, by dsimp only; rw [w64_id (by omega) (by omega)]; omega⟩
    · refine (hxm.ents.xtb hX (hents (by omega))).ix he fun c2 hc2 => ldT_all hc2 (al_i fun hB hE => ?_)
      have hX1 := hX.trans hE.toXtB
      have hq1 := hq.ext hE
      have hb1 := hb.xtb hX1 hne
      have hkp := hq.lt
      generalize hv2 : v.alloc _ = v2 at hB hE hX1 hq1 hb1
      refine ldN_at hB.all ⟨e.Id, rfl, lk_i (kk := kInt) hb1.map ?_⟩
      rw [hb.get]
      cases hpe : pos ms e.Id with
      | none =>
        rw [hpe] at hgo
        exact ⟨fun _ => k0 _ hX1 hgo.symm, fun hn => by cases hn⟩
      | some kk =>
        obtain ⟨mk, hmk, hmid⟩ := pos_get hpe
        obtain ⟨xk, mk', hxk, hmk', hxmk⟩ := h.node (some_lt hmk)
        rw [hmk] at hmk'
        cases hmk'
        obtain ⟨b0, hb0, hck⟩ := h.cellsAt hxk
        rw [hpe] at hgo
        rw [hb0]
        refine ⟨fun hn => (by cases hn), fun _ => ldS_at hB.all ⟨e.Name, rfl, C_Good fun v3 hE3 => ?_⟩⟩
        have hX3 := hX1.trans hE3.toXtB
        have hq3 := hq1.ext hE3
        have hB3 := hB.ext hE3
        refine ⟨fun hg => k0 _ hX3 ?_, fun hg => ldS_at hB3.all ⟨e.Name, rfl, fun hbad => k0 _ hX3 ?_, fun hfine => ?_⟩⟩
        · simp only [Bool.not_eq_true'] at hg
          simp only [hg, Bool.false_and, Bool.false_eq_true, if_false] at hgo
          exact hgo.symm
        · simp only [hbad, Bool.not_true, Bool.and_false, Bool.false_eq_true, if_false] at hgo
          exact hgo.symm
        · simp only [Bool.not_eq_false'] at hg
          simp only [hg, hfine, Bool.not_false, Bool.and_true, if_true, hmk, Option.map_some, Option.some.injEq] at hgo
          refine ldS_at hB3.all ⟨e.Name, rfl, nn_i (ldN_at (hX3.cells (by rw [add_block]; exact hold b0 hb0) hck) ⟨xk.Kind, rfl, fun h2 => ?_, fun h2 => ?_⟩)⟩
          · rw [hxmk.kind] at h2
            rw [if_pos h2] at hgo
            refine ldN_at hB3.all ⟨e.Id, rfl, lkk_i (kk := kInt) hq3 ⟨fun hok => k0 _ hX3 ?_, fun hok => dr_i ?_⟩⟩
            · rw [← hmid, hqs.isSome hlq hmk] at hok
              rw [if_pos hok] at hgo
              exact hgo.symm
            · rw [← hmid, hqs.isSome hlq hmk] at hok
              rw [if_neg (by rw [hok]; decide)] at hgo
              have hXd : XtB kp w v3.drew := ⟨hX3.1, hX3.2, hX3.os, hX3.out⟩
              have hqd : MapAt v3.drew kp kInt (Value.int .i64) qs := hq3.ext (Ext.refl v3).drew
              have hBd : Blk v3.drew v.heap.size 66 (S_api_Ent.cells e) := hB3
              refine nn_i (ldN_at hBd.all ⟨e.Id, rfl, ldN_at (hXd.cells hac ha) ⟨x.Id, rfl, ?_⟩⟩)
              rw [← hmid, hxm.id]
              exact mu_i (kk := kInt) hqd fun v4 hq4 hX4 _ => ⟨rfl, fun y => if y = kk then some j else q y, aput qs mk.id m.id, hXd.trans hX4, hq4, hqs.put hr hmk hm, fun k j' hk => by
                dsimp only at hk
                split at hk
                · cases hk; exact some_lt hm
                · exact hlq k j' hk, hgo⟩
          · rw [hxmk.kind] at h2
            rw [if_neg h2] at hgo
            exact ⟨rfl, q, qs, hX3, hq3, hqs, hlq, hgo⟩
  · rw [List.drop_eq_nil_of_le (by omega)] at hgo
    exact k1 v q qs hX hgo.symm hq hqs hlq
end Go.Proofs.Ytmmkhlalhalomaa
