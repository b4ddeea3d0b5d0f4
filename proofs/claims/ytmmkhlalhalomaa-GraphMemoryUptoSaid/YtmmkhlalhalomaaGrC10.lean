import Derived.Test.YtmmkhlalhalomaaGrC9
set_option linter.unusedVariables false
set_option linter.unusedSimpArgs false
set_option maxRecDepth 100000
namespace Go.Proofs.Ytmmkhlalhalomaa
open Go Go.Low
theorem CellsAt_lt {w : World} {b : Addr} {i : Nat} {c : Value} {cs : List Value} (h : CellsAt w b i (c :: cs)) : b.block < w.heap.size := by
  have := World.block_lt_of_cell? w _ h.1
  rwa [add_block] at this
theorem Row.old {α : Type} {w : World} {s : Sl} {sz : Nat} {f : α → List Value} {xs : List α} (h : Row w s sz f xs) (hx : 0 < xs.length) (hsz : 0 < sz) : ∀ b, s.p = some b → b.block < w.heap.size := by
  intro b hb
  have hc := h.cells b hb
  cases xs with
  | nil => simp at hx
  | cons x r =>
    simp only [List.flatMap_cons] at hc
    have hl := h.len x (by simp)
    cases hf : f x with
    | nil => rw [hf] at hl; simp at hl; omega
    | cons c cs =>
      rw [hf] at hc
      exact CellsAt_lt hc
theorem pos_snoc {ms : List Nd} {m : Nd} (id : Int) : pos (ms ++ [m]) id = (pos ms id).or (if m.id = id then some ms.length else none) := by
  simp only [pos, List.findIdx?_append, List.findIdx?_cons, List.findIdx?_nil]
  by_cases h : m.id = id <;> simp [h]
theorem C_read {w : World} {g : S_api_Graph} {xs : List S_api_Node} {ms : List Nd} {K : Option Nat → Bool → World → Prop} (h : GraphX w g.Nodes xs ms) (hs : Small ms)
    (k0 : ∀ o w', Ext w w' → ¬ OkGraph ms → K o false w') (k1 : ∀ b w' bys, Ext w w' → OkGraph ms → ByAt w' b g.Nodes ms bys → K (some b) true w') : cl2 Try.prog 30 [S_api_Graph.v g] w Value.map Value.bool K := by
  have hn := h.n
  refine T_graph_read g (al_i fun hB hE => ldL_at hB.all ⟨g.Nodes, rfl, fun h1 => k0 _ _ hE (fun ho => by have := ho.len; omega), fun h1 => mk_i kInt Value.pointer fun hM hE2 => ?_⟩)
  have hs1 : (w.alloc (.cells (S_api_Graph.cells g).toArray 24)).heap.size = w.heap.size + 1 := by simp
  replace hB := hB.ext hE2
  replace hE := hE.trans hE2
  rw [hs1] at hM ⊢
  refine ldL_at hB.all ⟨g.Nodes, rfl, ?_⟩
  refine ⟨fun _ _ last sum i v => ∃ (j : Nat) (bys : List (Int × Option Addr)), i = j ∧ j ≤ ms.length ∧ sum = entSum (ms.take j) ∧ Ext w v ∧ w.heap.size + 2 ≤ v.heap.size ∧ Blk v w.heap.size 24 (S_api_Graph.cells g) ∧ OkNodes (ms.take j) ∧ ByAt v (w.heap.size + 1) g.Nodes (ms.take j) bys ∧ (match j with | 0 => last = 0 | q + 1 => ∃ m, ms[q]? = some m ∧ last = m.id), fun _ _ _ _ i _ => (ms.length - i).toNat,
    ⟨0, [], rfl, by omega, rfl, hE, by simp, hB, ⟨fun i m hm => by simp at hm, fun i m m' hm => by simp at hm⟩, ⟨hM, fun id => rfl⟩, rfl⟩, ?_⟩
  rintro _ _ last sum i v ⟨j, bys, rfl, hj, rfl, hE, hvs, hB, hok, hby, hlast⟩
  have hn' : (g.Nodes.n : Int) = ms.length := by omega
  refine ⟨fun hlt => ldL_at hB.all ⟨g.Nodes, rfl, ?_⟩, fun hge => ?_⟩
  · obtain ⟨x, m, hx, hm, hxm⟩ := h.node (j := j) (by omega)
    have hid := hxm.id
    have hmm := List.mem_of_getElem? hm
    have bad : ∀ {v'}, Ext w v' → ¬ (okNd m = true ∧ (1 ≤ m.id ∧ m.id ≤ 1099511627776) ∧ ∀ i m', j = i + 1 → ms[i]? = some m' → m'.id < m.id) → K none false v' := fun hE hn => k0 _ _ hE fun ho =>
      hn ⟨(ho.nodes.ok j m hm).1, (ho.nodes.ok j m hm).2, fun i m' hi hm' => ho.nodes.step i m' m hm' (hi ▸ hm)⟩
    obtain ⟨b0, hb0, _⟩ := h.cellsAt hx
    have hrow := (h.ext hE).row
    obtain ⟨b0', hb0', hcb⟩ := (h.ext hE).cellsAt hx
    rw [hb0] at hb0'
    cases hb0'
    refine ⟨b0, hb0, by omega, by omega, ?_⟩
    rw [Int.toNat_natCast]
    have hlast' : ∀ i m', j = i + 1 → ms[i]? = some m' → last = m'.id := fun i m' hi hm' => by
      subst hi
      obtain ⟨m2, h2, h3⟩ := hlast
      rw [hm'] at h2; cases h2; exact h3
    have hlast0 : j = 0 → last = 0 := fun hj0 => by subst hj0; exact hlast
    refine ldN_at (i := 0) hcb ⟨x.Id, rfl, fun h2 => bad hE fun hP => ?_, fun h2 => ldN_at (i := 0) hcb ⟨x.Id, rfl, fun h3 => bad hE (by omega), fun h3 => C_sound hcb fun v2 hE2 => ⟨fun h4 => bad (hE.trans hE2) fun hP => ?_, fun h4 => ?_⟩⟩⟩
    · by_cases hj0 : j = 0
      · have := hlast0 hj0; omega
      · obtain ⟨i, rfl⟩ : ∃ i, j = i + 1 := ⟨j - 1, by omega⟩
        obtain ⟨m', hm'⟩ : ∃ m', ms[i]? = some m' := ⟨_, List.getElem?_eq_getElem (by omega)⟩
        have h5 := hP.2.2 i m' rfl hm'
        have h6 := hlast' i m' rfl hm'
        omega
    · rw [hxm.ok, hP.1] at h4; cases h4
    · have hE' := hE.trans hE2
      have hcb2 := hE2.cells hcb
      have hbl : b0.block < w.heap.size := Row.old h.row (by have := h.len; omega) (by decide) b0 hb0
      refine ldN_at (i := 0) hcb2 ⟨x.Id, rfl, ldN_at (i := 0) hcb2 ⟨x.Id, rfl, mu_i (kk := kInt) (mv := Value.pointer) (hby.map.ext hE2) fun v3 hM3 hX3 hz3 => ?_⟩⟩
      have hE3 : Ext w v3 := hE'.xtb hX3 (by omega)
      have hcb3 := hX3.cells (by rw [add_block]; omega) hcb2
      have hsum : entSum (ms.take (j + 1)) = entSum (ms.take j) + x.Ents.n := by rw [take_snoc hm, entSum_snoc, hxm.ents.n]
      have hle := entSum_le (ms := ms.take (j + 1)) fun y hy => hs.ents y (List.mem_of_mem_take hy)
      rw [List.length_take] at hle
      have hmin : min (j + 1) ms.length ≤ 4096 := by omega
      have hle2 : entSum (ms.take (j + 1)) ≤ 4096 * 16777216 := Nat.le_trans hle (Nat.mul_le_mul_right _ hmin)
      have hlt2 : ∀ i m', j = i + 1 → ms[i]? = some m' → m'.id < m.id := fun i m' hi hm' => by have := hlast' i m' hi hm'; omega
      have h1m : 1 ≤ m.id := by
        by_cases hj0 : j = 0
        · have := hlast0 hj0; omega
        · obtain ⟨i, rfl⟩ : ∃ i, j = i + 1 := ⟨j - 1, by omega⟩
          obtain ⟨m', hm'⟩ : ∃ m', ms[i]? = some m' := ⟨_, List.getElem?_eq_getElem (by omega)⟩
          have h6 := hlast' i m' rfl hm'
          have := (hok.ok i m' (by rw [List.getElem?_take_of_lt (by omega)]; exact hm')).2.1
          omega
      have hok' : OkNodes (ms.take (j + 1)) := by
        rw [take_snoc hm]
        refine hok.snoc ⟨by rw [hxm.ok] at h4; simpa using h4, h1m, by omega⟩ fun i m' hi hm' => ?_
        rw [List.length_take] at hi
        rw [List.getElem?_take_of_lt (by omega)] at hm'
        exact hlt2 i m' (by omega) hm'
      refine ldL_at hcb3 ⟨x.Ents, rfl, ⟨⟨j + 1, _, by rw [w64_id (by omega) (by omega)]; rfl, by omega, by rw [w64_id (by omega) (by omega), hsum]; rfl, hE3, by have := hE2.1; omega, (hB.ext hE2).xtb hX3 (by omega), hok', ⟨hM3, fun id => ?_⟩, m, hm, hid⟩, by dsimp only; rw [w64_id (x := (j : Int) + 1) (by omega) (by omega)]; omega⟩⟩
      rw [aget_put, take_snoc hm, pos_snoc, hby.get, hid, List.length_take, show min j ms.length = j by omega]
      by_cases e : id = m.id
      · have hnone : pos (ms.take j) id = none := pos_none fun i m' hi he => by
          have hij := some_lt hi
          rw [List.length_take] at hij
          have := hok'.rising i j m' m (by omega) (by rw [List.getElem?_take_of_lt (by omega)] at hi ⊢; exact hi) (by rw [List.getElem?_take_of_lt (by omega)]; exact hm)
          omega
        rw [if_pos e, hnone, if_pos e.symm, hb0]; rfl
      · rw [if_neg e, if_neg (Ne.symm e)]
        cases pos (ms.take j) id <;> rfl
  · have htk : ms.take j = ms := List.take_of_length_le (by omega)
    rw [htk] at hok hby ⊢
    clear hlast
    refine ⟨fun h2 => k0 _ _ hE fun ho => by have := ho.sum; omega, fun h2 => mk_i kInt (Value.int .i64) fun hP hE2 => ?_⟩
    replace hB := hB.ext hE2
    replace hby := hby.ext hE2
    replace hE := hE.trans hE2
    generalize hkp : v.heap.size = kp at hP hvs
    generalize v.alloc (.map #[] 0) = v1 at hP hB hby hE ⊢
    refine ldL_at hB.all ⟨g.Nodes, rfl, ?_⟩
    rw [hn]
    have hno : ∀ k j : Nat, (fun _ => none : Par) k = some j → j < ms.length := fun k j h => by cases h
    refine ⟨fun _ _ i v => ∃ (j : Nat) (p : Par) (ps : List (Int × Int)), i = j ∧ j ≤ ms.length ∧ Ext w v ∧ Blk v w.heap.size 24 (S_api_Graph.cells g) ∧ ByAt v (w.heap.size + 1) g.Nodes ms bys ∧ MapAt v kp kInt (Value.int .i64) ps ∧ PsOk ms p ps ∧ (∀ k j, p k = some j → j < ms.length) ∧ nodesGo ms (ms.drop j) j p = nodesGo ms ms 0 (fun _ => none), fun _ _ i _ => (ms.length - i).toNat,
      ⟨0, fun _ => none, [], rfl, by omega, hE, hB, hby, hP, ⟨fun k m hm => rfl, fun id hid => by cases hid⟩, hno, rfl⟩, ?_⟩
    rintro _ _ i v2 ⟨j, p, ps, rfl, hj, hE, hB, hby, hP, hps, hlp, hgo⟩
    refine ⟨fun hlt => ldL_at hB.all ⟨g.Nodes, rfl, ?_⟩, fun hge => ?_⟩
    · obtain ⟨x, m, hx, hm, hxm⟩ := h.node (j := j) (by omega)
      have hjm := some_lt hm
      have hmm := List.mem_of_getElem? hm
      obtain ⟨b0, hb0, hcb⟩ := (h.ext hE).cellsAt hx
      have hbl : b0.block < w.heap.size := Row.old h.row (by have := h.len; omega) (by decide) b0 hb0
      refine ⟨b0, hb0, by omega, by omega, ?_⟩
      rw [Int.toNat_natCast]
      have hdrop : ms.drop j = m :: ms.drop (j + 1) := by
        rw [List.drop_eq_getElem_cons hjm]
        congr 1
        rw [List.getElem?_eq_getElem hjm] at hm
        exact Option.some.inj hm
      rw [hdrop, nodesGo] at hgo
      refine C_enter (h.ext hE) hok.rising hx hm hcb hby hP hps hlp (fun b hb => by rw [hb0] at hb; cases hb; omega) (by omega) (by rw [add_block]; omega) (fun hpos b hb => by
        have := Row.old hxm.ents hpos (by decide) b hb
        omega) (hs.ents m hmm) (fun v3 hX hnone => ⟨fun _ => k0 _ _ (hE.xtb hX (by omega)) fun ho => ?_, fun hn => by cases hn⟩) (fun v3 p' ps' hX hsome hP' hps' hlp' => ⟨fun hn => (by cases hn), fun _ => ⟨⟨j + 1, p', ps', by rw [w64_id (by omega) (by omega)]; rfl, by omega, hE.xtb hX (by omega), hB.xtb hX (by omega), hby.xtb hX (by omega), hP', hps', hlp', ?_⟩, by dsimp only; rw [w64_id (by omega) (by omega)]; omega⟩⟩)
      · rw [hnone] at hgo
        obtain ⟨q, hq, _⟩ := ho.par
        rw [← hgo] at hq
        cases hq
      · rw [hsome] at hgo
        exact hgo
    · rw [List.drop_eq_nil_of_le (by omega)] at hgo
      have hgo' : nodesGo ms ms 0 (fun _ => none) = some p := hgo.symm
      have hlen : ps.length ≤ 16777216 := by
        have h1 := List.Nodup.length_le_of_subset hP.nodup (l₂ := ms.map Nd.id) fun id hid => by
          obtain ⟨x, hx, rfl⟩ := List.mem_map.1 hid
          obtain ⟨k, m, hm, he⟩ := hps.key x.1 (mem_aget (v := x.2) hx)
          exact List.mem_map.2 ⟨m, List.mem_of_getElem? hm, he⟩
        simp only [List.length_map] at h1
        have := hs.len
        omega
      refine C_rooted hP hlen (fun w' hE' hall => k1 _ w' bys (hE.trans hE') ⟨by omega, hok, by omega, p, hgo', fun i hi => ?_⟩ (hby.ext hE')) (fun w' hE' hbad => k0 _ w' (hE.trans hE') fun ho => ?_)
      · obtain ⟨m, hm⟩ : ∃ m, ms[i]? = some m := ⟨_, List.getElem?_eq_getElem hi⟩
        cases hpi : p i with
        | none => exact ⟨1, by simp [it, hpi]⟩
        | some j =>
          obtain ⟨t, ht⟩ := hall m.id (by rw [hps.isSome hlp hm, hpi]; rfl)
          exact ⟨t, (itI_none hps hlp hm).1 ht⟩
      · obtain ⟨id, his, hne⟩ := hbad
        obtain ⟨k, m, hm, rfl⟩ := hps.key id his
        obtain ⟨q, hq, hends⟩ := ho.par
        rw [hgo'] at hq
        cases hq
        obtain ⟨t, ht⟩ := hends k (some_lt hm)
        exact hne ⟨t, (itI_none hps hlp hm).2 ht⟩
end Go.Proofs.Ytmmkhlalhalomaa
