import Derived.Test.YtmmkhlalhalomaaGrC24
set_option linter.unusedVariables false
set_option linter.unusedSimpArgs false
set_option maxRecDepth 100000
namespace Go.Proofs.Ytmmkhlalhalomaa
open Go Go.Low
theorem half_ok {j : Nat} (h : j < 4611686018427387904) : IntKind.i64.wrap (Int.fdiv (IntKind.u64.wrap (w64 ((0 : Int) + j))) (2 ^ (min (1 : Int).toNat 64))) = ((j / 2 : Nat) : Int) := by
  have h1 : w64 ((0 : Int) + j) = (j : Int) := by rw [w64_id (by omega) (by omega)]; omega
  have h2 : IntKind.u64.wrap (j : Int) = (j : Int) := by
    simp only [IntKind.wrap, IntKind.bits, IntKind.signed]
    first | omega | (simp; omega)
  have h3 : (2 : Int) ^ (min (1 : Int).toNat 64) = 2 := by decide
  rw [h1, h2, h3, show Int.fdiv (j : Int) 2 = ((j / 2 : Nat) : Int) by rw [Int.fdiv_eq_ediv_of_nonneg _ (by decide)]; rfl]
  exact w64_id (by omega) (by omega)
/-- the first entry is the one that is looked for -/
theorem C_SearchFirst {w : World} {s : Sl} {es : List S_api_Ent} {t : ByteArray} {K : Int → Bool → World → Prop} (h : Row w s 2 S_api_Ent.cells es) (h0 : ∃ e r, es = e :: r ∧ e.Name = t) (hall : ∀ e ∈ es, ¬ Lib.compareBytes e.Name.data.toList t.data.toList < 0) (heq : Lib.compareBytes t.data.toList t.data.toList = 0) (hlen : es.length < 4611686018427387904)
    (k : ∀ w', Ext w w' → K 0 true w') : cl2 Try.prog 27 [Sl.v s, .string t, (.func (.func 28) #[] #[])] w (Value.int .i64) Value.bool K := by
  have hn := h.n
  obtain ⟨e0, r, hes, he0⟩ := h0
  refine T_slices_BinarySearchFunc_Ent_Ent_string s t _ ⟨fun i j v => i = 0 ∧ ∃ q : Nat, j = q ∧ q ≤ es.length ∧ Ext w v, fun _ j _ => j.toNat, ⟨rfl, es.length, by rw [hn], Nat.le_refl _, Ext.refl w⟩, ?_⟩
  rintro _ _ v ⟨rfl, q, rfl, hq, hE⟩
  rw [half_ok (by omega)]
  refine ⟨fun hlt => ⟨by decide, ?_⟩, fun hge => ⟨fun _ => ?_, fun hn0 => absurd (by rw [hn, hes]; simp only [List.length_cons]; omega) hn0⟩⟩
  · obtain ⟨e, he⟩ : ∃ e, es[q / 2]? = some e := ⟨_, List.getElem?_eq_getElem (by omega)⟩
    refine (h.ext hE).ix he fun c hc => ldT_all (x := e) hc ⟨28, rfl, by kernel_rfl, T_graph_Find_1 e t (al_i fun hB hE1 => ldS_at (i := 0) hB.all ⟨e.Name, rfl, C_Compare ⟨fun hneg => absurd hneg (hall e (List.mem_of_getElem? he)), fun _ => ⟨⟨rfl, q / 2, rfl, by omega, hE.trans hE1⟩, by dsimp only; omega⟩⟩⟩)⟩
  · have he : es[0]? = some e0 := by rw [hes]; rfl
    refine (h.ext hE).ix (i := 0) he fun c hc => ldT_all (x := e0) hc ⟨28, rfl, by kernel_rfl, T_graph_Find_1 e0 t (al_i fun hB hE1 => ldS_at (i := 0) hB.all ⟨e0.Name, rfl, C_Compare ?_⟩)⟩
    rw [he0, heq]
    exact k _ (hE.trans hE1)
theorem C_FindLittle {w : World} {g : S_api_Graph} {xs : List S_api_Node} {s : Sl} {K : Int → Int → World → Prop} (h : GraphX w g.Nodes xs littleMs) (hs : Row w s 1 strC [⟨#[97]⟩, ⟨#[99]⟩]) (k : ∀ w', Ext w w' → K 7 0 w') :
    cl2 Try.prog 13 [S_api_Graph.v g, .int .i64 1, Sl.v s] w (Value.int .i64) (Value.int .i64) K := by
  have hsn : s.n = 2 := hs.n
  have hsm : Small littleMs := ⟨by decide, fun m hm => by simp [littleMs] at hm; rcases hm with rfl | rfl | rfl <;> simp, fun m hm => by simp [littleMs] at hm; rcases hm with rfl | rfl | rfl <;> simp⟩
  refine T_graph_Find g 1 s (al_i fun hB hE => ldT_all (x := g) hB.all (C_begin (h.ext hE) hsm (fun e w1 hE1 hb => ?_) fun b w1 bys k' m a hE1 ho hp hm hd hby ha => ⟨fun _ => ?_, fun hn => absurd rfl hn⟩))
  · exfalso
    cases hb with
    | graph ho => exact ho littleOk
    | node ho hp => cases hp
    | dir ho hp hm hd => cases hp; cases hm; exact hd rfl
  have hk0 : k' = 0 := by cases hp; rfl
  subst hk0
  replace hE := hE.trans hE1
  refine ⟨fun _ _ p i v => Ext w1 v ∧ ∃ q : Nat, i = q ∧ q ≤ 2 ∧ p = some (a.add (q * 10)), fun _ _ _ i _ => (2 - i).toNat, ⟨Ext.refl _, 0, rfl, by omega, rfl⟩, ?_⟩
  rintro _ _ _ _ v ⟨hE2, q, rfl, hq, rfl⟩
  have hEv := hE.trans hE2
  have hby2 := hby.ext hE2
  have hG := h.ext hEv
  refine ⟨fun hlt => ?_, fun hge => ?_⟩
  · have hq2 : q = 0 ∨ q = 1 := by omega
    obtain ⟨x, m, hx, hm, hxm⟩ := hG.node (j := q) (by rcases hq2 with rfl | rfl <;> decide)
    obtain ⟨a', ha', hc⟩ := hG.cellsAt hx
    rw [ha] at ha'
    cases ha'
    obtain ⟨t, ht⟩ : ∃ t, ([⟨#[97]⟩, ⟨#[99]⟩] : List ByteArray)[q]? = some t := by rcases hq2 with rfl | rfl <;> exact ⟨_, rfl⟩
    have hkind : x.Kind = 2 := by rw [hxm.kind]; rcases hq2 with rfl | rfl <;> (cases hm; rfl)
    refine (hs.ext hEv).ix ht fun ct hct => ldS_at (i := 0) hct ⟨t, rfl, nn_i (ldN_at (i := 1) hc ⟨x.Kind, rfl, fun h3 => by omega, fun _ => ⟨fun h1 => by omega, fun _ => nn_i (ldL_at (i := 9) hc ⟨x.Ents, rfl, C_SearchFirst hxm.ents ?_ ?_ ?_ ?_ fun v2 hE3 => ⟨fun hn => (by cases hn), fun _ => nn_i (ldL_at (i := 9) (hE3.cells hc) ⟨x.Ents, rfl, ?_⟩)⟩⟩)⟩⟩)⟩
    · rcases hq2 with rfl | rfl
      · cases hm; cases ht; exact ⟨_, _, rfl, rfl⟩
      · cases hm; cases ht; exact ⟨_, _, rfl, rfl⟩
    · rcases hq2 with rfl | rfl
      · cases hm; cases ht; intro e he; simp at he; rcases he with rfl | rfl <;> decide
      · cases hm; cases ht; intro e he; simp at he; rcases he with rfl; decide
    · rcases hq2 with rfl | rfl <;> (cases ht; decide)
    · rcases hq2 with rfl | rfl <;> (cases hm; decide)
    · have hby3 := hby2.ext hE3
      rcases hq2 with rfl | rfl
      · cases hm
        refine (hxm.ents.ext hE3).ix (i := 0) (x := ⟨⟨#[97]⟩, 5⟩) rfl fun ce hce => ldN_at (i := 1) hce ⟨5, rfl, lk_i (kk := kInt) hby3.map ?_⟩
        rw [hby3.get, ha]
        exact ⟨⟨hE2.trans hE3, 1, rfl, by omega, rfl⟩, by dsimp only; decide⟩
      · cases hm
        refine (hxm.ents.ext hE3).ix (i := 0) (x := ⟨⟨#[99]⟩, 7⟩) rfl fun ce hce => ldN_at (i := 1) hce ⟨7, rfl, lk_i (kk := kInt) hby3.map ?_⟩
        rw [hby3.get, ha]
        exact ⟨⟨hE2.trans hE3, 2, rfl, by omega, rfl⟩, by dsimp only; decide⟩
  · have hq2 : q = 2 := by omega
    subst hq2
    obtain ⟨x, m, hx, hm, hxm⟩ := hG.node (j := 2) (by decide)
    obtain ⟨a', ha', hc⟩ := hG.cellsAt hx
    rw [ha] at ha'
    cases ha'
    refine nn_i (ldN_at (i := 0) hc ⟨x.Id, rfl, ?_⟩)
    rw [hxm.id]
    cases hm
    exact k _ hEv
theorem C_alive {w : World} {K : Bool → World → Prop} (k : ∀ w', Ext w w' → K true w') : cl1 Try.prog 4 [] w Value.bool K := by
  refine T_valiselaw14_alive (C_little fun g w1 xs hE1 hG => al_i fun hB hE2 => C_FindLittle (hG.ext hE2) (Row_lit rfl (by decide) (fun _ _ => rfl) hB.all) fun w3 hE3 => ⟨fun _ => k _ ((hE1.trans hE2).trans hE3), fun hn => absurd rfl hn⟩)
end Go.Proofs.Ytmmkhlalhalomaa
