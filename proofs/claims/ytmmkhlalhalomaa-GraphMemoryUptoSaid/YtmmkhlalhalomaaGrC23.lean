import Derived.Test.YtmmkhlalhalomaaGrC22
set_option linter.unusedVariables false
set_option linter.unusedSimpArgs false
set_option maxRecDepth 100000
namespace Go.Proofs.Ytmmkhlalhalomaa
open Go Go.Low
set_option maxHeartbeats 2000000 in
theorem C_refPlant {w : World} {s : Sl} {xs : List S_api_Line} {ls : List Ln} {K : S_api_Graph → Int → World → Prop} (h : LinesX w s xs ls) (hok : LnsOk ls)
    (k0 : ∀ e w', Ext w w' → PlantR ls none → K ⟨⟨none, 0, 0⟩⟩ e w') (k1 : ∀ w' sg kn ys Ds ms, Ext w w' → PlantR ls (some ms) → OwnNd w.heap.size w' sg kn ys ms Ds → K ⟨sg⟩ 0 w') :
    cl2 Try.prog 10 [Sl.v s] w S_api_Graph.v (Value.int .i64) K := by
  have hn := h.n
  have hlen := hok.len
  refine T_valiseref14_Plant s (al_i fun hB1 hE1 => al_i fun hB2 hE2 => ?_)
  replace hB1 := hB1.ext hE2
  have hE := hE1.trans hE2
  have z1 : (w.alloc (.cells [Value.slice none 0 0].toArray 24)).heap.size = w.heap.size + 1 := by simp
  have z2 : ((w.alloc (.cells [Value.slice none 0 0].toArray 24)).alloc (.cells (S_api_Graph.cells ⟨⟨none, 0, 0⟩⟩).toArray 24)).heap.size = w.heap.size + 2 := by simp
  rw [z1] at hB2
  simp only [z1]
  generalize ((w.alloc (.cells [Value.slice none 0 0].toArray 24)).alloc (.cells (S_api_Graph.cells ⟨⟨none, 0, 0⟩⟩).toArray 24)) = w2 at hB1 hB2 hE z2 ⊢
  clear hE1 hE2 z1
  refine ⟨by omega, by rw [hn]; omega, by rw [hn]; omega, ?_⟩
  have hnt : ((s.n : Int)).toNat = ls.length := by omega
  rw [hnt, z2]
  have hF3 := Own.made (w := w2) (e := 3) (sz := 1) (n := ls.length) (made_i64 ls.length) (by omega)
  have hE3 : Ext w2 (w2.alloc (.cells (madeCells #[.int .i64 0] (ls.length * 1)) 3)) := (Ext.refl w2).alloc _
  have hr0 : List.replicate ls.length (0 : Int) = tab (idf PS.nil) ls.length := by
    apply List.ext_getElem?
    intro i
    by_cases hi : i < ls.length
    · rw [tab_get hi]; simp [hi, idf, PS.nil]
    · rw [List.getElem?_eq_none (by simp; omega), List.getElem?_eq_none (by rw [tab_len]; omega)]
  rw [hr0] at hF3
  rw [z2] at hF3
  replace hB1 := hB1.ext hE3
  replace hB2 := hB2.ext hE3
  replace hE := hE.trans hE3
  generalize w2.alloc (.cells (madeCells #[.int .i64 0] (ls.length * 1)) 3) = w3 at hF3 hE3 hB1 hB2 hE ⊢
  have hP3 : PlG w w3 w.heap.size (w.heap.size + 1) (w.heap.size + 2) ⟨none, 0, 0⟩ none [] [] [] :=
    ⟨hE, hB1, hB2, OwnR.nil, hF3.lt, by omega, ⟨nofun, nofun, nofun⟩, fun D hD => by cases hD⟩
  clear hB1 hB2 hE hE3
  refine ⟨fun _ i v => ∃ (j : Nat) (sg : Sl) (kn : Option Nat) (ys : List S_api_Node) (Ds : List (List Nat)) (st : PS), i = j ∧ j ≤ ls.length ∧ PlG w v w.heap.size (w.heap.size + 1) (w.heap.size + 2) sg kn ys Ds st.nodes ∧ Own v ⟨some ⟨w.heap.size + 2, 0, none⟩, ls.length, ls.length⟩ (w.heap.size + 2) 3 1 ((tab (idf st) ls.length).flatMap i64c) ∧ PInv ls j st ∧ pbuild j st (ls.drop j) = pbuild 0 PS.nil ls, fun _ i _ => (ls.length - i).toNat,
    ⟨0, _, _, _, _, PS.nil, rfl, by omega, hP3, hF3, PInv.nil ls, rfl⟩, ?_⟩
  generalize hb1 : w.heap.size = b1
  generalize hb2 : b1 + 1 = b2
  generalize hb3 : b1 + 2 = b3
  generalize hr3 : (⟨some ⟨b3, 0, none⟩, ls.length, ls.length⟩ : Sl) = r3
  have hr3n : r3.n = ls.length := by rw [← hr3]
  clear hP3 hF3 hr0
  rintro _ i v ⟨j, sg, kn, ys, Ds, st, rfl, hj, hP, hF, hI, hb⟩
  have bad : ∀ v, Ext w v → Blk v b1 24 [.slice none 0 0] → PlantR ls none → Low.st v ⟨b1, 0, none⟩ (S_api_Graph.cells ⟨⟨none, 0, 0⟩⟩) fun w => ldT S_api_Graph.cells w ⟨b1, 0, none⟩ fun r => K r 151 w := fun v hE hB hR =>
    st_i0 (cs' := S_api_Graph.cells ⟨⟨none, 0, 0⟩⟩) hB rfl rfl fun v' hB' hX _ => ldT_all (x := (⟨⟨none, 0, 0⟩⟩ : S_api_Graph)) hB'.all (k0 151 v' (hE.xtb hX (by omega)) hR)
  refine ⟨fun hlt => ?_, fun hge => ?_⟩
  rotate_left
  · -- the end
    rw [List.drop_eq_nil_of_le (by omega), pbuild] at hb
    have hjl : j = ls.length := by omega
    subst hjl
    obtain ⟨hsm, hfa⟩ := hI.small hok
    refine ldT_all (x := (⟨sg⟩ : S_api_Graph)) hP.g.all (C_refTree (g := ⟨sg⟩) hP.nd.graphX hsm hfa (fun e w' hE' hT => ⟨fun he => ?_, fun he => bad w' (hP.ext.trans hE') (hP.r.ext hE') (.bad hb.symm hT nofun)⟩) fun ls' s' w' ko ysl Dl hE' hT hO hl' => ⟨fun _ => ?_, fun hn => absurd rfl hn⟩)
    · have := hT.some_iff.1 he; cases this
    · refine C_SameLines hO.linesX (h.ext (hP.ext.trans hE')) (fun w2 hE2 e => ⟨fun hn => (by cases hn), fun _ => ?_⟩) (fun w2 hE2 e => ⟨fun _ => bad w2 ((hP.ext.trans hE').trans hE2) ((hP.r.ext hE').ext hE2) (.bad hb.symm hT fun e2 => e (Option.some.inj e2)), fun hn => by cases hn⟩)
      have hP2 := (hP.up hE').up hE2
      refine ldT_all (x := (⟨sg⟩ : S_api_Graph)) hP2.g.all (st_i0 (cs' := S_api_Graph.cells ⟨sg⟩) hP2.r rfl rfl fun v' hB' hX _ => ldT_all (x := (⟨sg⟩ : S_api_Graph)) hB'.all ?_)
      rw [e] at hT
      exact k1 v' sg kn ys Ds st.nodes (hP2.ext.xtb hX (by omega)) (.fine hb.symm hT) (hP2.nd.xtb ndP_xtb hX hP2.kn_.1 fun D hD => (hP2.kD D hD).1)
  -- a line
  have hjl : j < ls.length := by omega
  obtain ⟨x, l, hx, hl, hxl⟩ := (h.ext hP.ext).node hjl
  have hlm := List.mem_of_getElem? hl
  have hpsz := hok.path l hlm
  rw [drop_at hl, pbuild] at hb
  obtain ⟨d0, rfl⟩ : ∃ d, x = l.hd d := ⟨_, hxl.hd⟩
  have hnode : ∀ {v : World}, Ext w v → ∀ {q : Nat}, q < j → ∃ xq lq, ls[q]? = some lq ∧ xs[q]? = some xq ∧ xq.Path = lq.path := fun hE q hq => by
    obtain ⟨xq, lq, h1, h2, h3⟩ := (h.ext hE).node (j := q) (by omega)
    exact ⟨xq, lq, h2, h1, by rw [h3.hd]; rfl⟩
  refine ⟨fun v => ∃ sg kn ys Ds ns id, PlG w v b1 b2 b3 sg kn ys Ds ns ∧ Own v r3 b3 3 1 ((tab (idf ⟨ns, aput st.ps l.path id⟩) ls.length).flatMap i64c) ∧ pstep j st l = some ⟨ns, aput st.ps l.path id⟩, ?_, ?_⟩
  · rintro v' ⟨sg, kn, ys, Ds, ns, id, hP, hF, hst⟩
    exact ⟨⟨j + 1, sg, kn, ys, Ds, ⟨ns, aput st.ps l.path id⟩, by rw [w64_id (by omega) (by omega)]; rfl, by omega, hP, hF, hI.step hok hl hst, by rw [hst] at hb; exact hb⟩, by dsimp only; rw [w64_id (by omega) (by omega)]; omega⟩
  refine (h.ext hP.ext).row.ix hx fun c hc => ldT_all (x := l.hd d0) hc (al_i fun hB10 hE10 => ?_)
  have hP0 := hP.up hE10
  have hF0 := hF.ext hE10
  generalize hbl : v.heap.size = bl at hB10 ⊢
  have hl1 : b1 < bl := by rw [← hbl]; exact hP.r.lt
  have hl2 : b2 < bl := by rw [← hbl]; exact hP.g.lt
  have hl3 : b3 < bl := by rw [← hbl]; exact hP.b3v
  have hlk : ∀ b, kn = some b → b < bl := by rw [← hbl]; exact hP.nd.lt.1
  have hlD : ∀ D ∈ Ds, ∀ b ∈ D, b < bl := by rw [← hbl]; exact hP.nd.lt.2
  have hwb : w.heap.size ≤ bl := by rw [← hbl]; exact hP.ext.1
  clear hc hP hF
  generalize v.alloc _ = v0 at hB10 hE10 hP0 hF0 ⊢
  clear hE10
  have hnn := hP0.nd.n (fun _ => rfl) (by decide)
  have hcn := hI.cnt
  have hkD0 : ∀ D ∈ Ds, bl ∉ D := fun D hD hm => by have := hlD D hD bl hm; omega
  have hkn0 : kn ≠ some bl := fun e => by have := hlk bl e; omega
  -- behind the node
  refine ⟨fun v => ∃ sg kn ys Ds id, PlG w v b1 b2 b3 sg kn ys Ds (padd st l) ∧ Own v r3 b3 3 1 ((tab (fun i => if i = j then id else idf st i) ls.length).flatMap i64c) ∧ Blk v bl 40 (S_api_Line.cells (l.hd d0)) ∧ kn ≠ some bl ∧ (∀ D ∈ Ds, bl ∉ D) ∧ pid st l = some id, ?_, ldS_at (i := 9) hB10.all ⟨l.peer, rfl, fun hpe => dr_i ?_, fun hpe => ?_⟩⟩
  rotate_left
  · -- a new node
    have hPd := hP0.up (Ext.refl v0).drew
    have hFd := hF0.ext (Ext.refl v0).drew
    have hBd : Blk v0.drew bl 40 (S_api_Line.cells (l.hd d0)) := hB10
    generalize v0.drew = v11 at hPd hFd hBd ⊢
    refine ldL_at (i := 0) hPd.g.all ⟨sg, rfl, ldL_at (i := 0) hPd.g.all ⟨sg, rfl, ldN_at (i := 1) hBd.all ⟨l.kind, rfl, ldN_at (i := 2) hBd.all ⟨l.mode, rfl, ldN_at (i := 3) hBd.all ⟨l.uid, rfl, ldN_at (i := 4) hBd.all ⟨l.gid, rfl, ldT_at (i := 5) hBd.all l.mtime rfl (ldL_at (i := 7) hBd.all ⟨d0, rfl, ldS_at (i := 8) hBd.all ⟨l.target, rfl, ?_⟩⟩)⟩⟩⟩⟩⟩⟩
    have hdat : Bytes v11 d0 l.data := by
      obtain ⟨x', l', hx', hl', hxl'⟩ := (h.ext hPd.ext).node hjl
      rw [hx] at hx'; rw [hl] at hl'; cases hx'; cases hl'
      exact hxl'.data
    refine C_CopyBytes hdat (by have := hok.data l hlm; omega) fun dn v12 dk hE12 hdk hO12 => ⟨hE12, al_i fun hBn hEn => ?_⟩
    have hPn := (hPd.up hE12).up hEn
    have hsz : v11.heap.size ≤ v12.heap.size := hE12.1
    have hl11 : bl < v11.heap.size := hBd.lt
    refine hPn.addNode (m := pNd st.nodes.length l) (d := some dk) (src_lit rfl (by decide)) rfl (by omega) ⟨?_, some dk, none, hO12.ext hEn, ⟨rfl, rfl⟩, by simp, nofun⟩ (fun b hb => ?_) fun v13 r kn' hP13 hz13 hs13 hk13 => ?_
    · rw [hnn, w64_id (by omega) (by omega)]; rfl
    · cases hb
      have := hPd.ext.1
      exact ⟨by omega, by omega, by omega, by omega, fun e => by have := hlk _ e; omega, fun D hD hm => by have := hlD D hD _ hm; omega⟩
    · have hpad : padd st l = st.nodes ++ [pNd st.nodes.length l] := by rw [padd, if_pos hpe]
      have hb12 := hEn.1
      have hrn : (r.n : Int) = (st.nodes.length : Int) + 1 := by
        have := hP13.nd.n (fun _ => rfl) (by decide)
        rw [List.length_append, List.length_singleton] at this
        omega
      have hF13 : Own v13 r3 b3 3 1 ((tab (idf st) ls.length).flatMap i64c) := Own_same ((hFd.ext hE12).ext hEn) (hs13 b3 (by omega) (by omega) hP0.kn_.2.2)
      have hB13 : Blk v13 bl 40 (S_api_Line.cells (l.hd d0)) := Blk_same ((hBd.ext hE12).ext hEn) (hs13 bl (by omega) (by omega) hkn0)
      have hn1 : some kn' ≠ some bl := by
        rcases hk13 with e | e
        · intro e2; cases e2; have := hlk bl e; omega
        · intro e2; cases e2; omega
      have hn2 : ∀ D ∈ Ds ++ [(some dk).toList], bl ∉ D := fun D hD hm => by
        rcases List.mem_append.1 hD with hD | hD
        · exact hkD0 D hD hm
        · rw [List.mem_singleton.1 hD] at hm
          simp at hm; omega
      refine ldL_at (i := 0) hP13.g.all ⟨r, rfl, hF13.ixS (by rw [len_i64, tab_len]; exact hjl) (hF13.stS (by rw [len_i64, tab_len]; exact hjl) fun v14 hF14 hX14 hz14 => ?_)⟩
      rw [set_i64, tab_set, hrn] at hF14
      have hge := hP13.ge
      refine ⟨r, some kn', _, _, _, by rw [hpad]; exact hP13.box hX14 hge.2.2.1 (by omega) hP13.kn_.2.2 (fun D hD => (hP13.kD D hD).2.2), hF14, hB13.xtb hX14 (by omega), hn1, hn2, ?_⟩
      rw [pid, if_pos hpe]
  · -- a peer: the first line of that path
    refine ⟨fun i v => ∃ q : Nat, i = q ∧ q ≤ j ∧ PlG w v b1 b2 b3 sg kn ys Ds st.nodes ∧ Own v r3 b3 3 1 ((tab (fun i => if i = j then (aget (st.ps.take q) l.peer).getD 0 else idf st i) ls.length).flatMap i64c) ∧ Blk v bl 40 (S_api_Line.cells (l.hd d0)), fun i _ => (j - i).toNat, ⟨0, rfl, by omega, hP0, ?_, hB10⟩, ?_⟩
    · have : tab (fun i => if i = j then (aget (st.ps.take 0) l.peer).getD 0 else idf st i) ls.length = tab (idf st) ls.length := tab_ext fun i hi => by
        by_cases e : i = j
        · subst e
          have hlen' := hI.len (by omega)
          simp only [if_pos rfl, List.take_zero, aget, Option.getD_none, idf]
          rw [List.getElem?_eq_none (by rw [List.length_map]; omega)]; rfl
        · rw [if_neg e]
      rw [this]; exact hF0
    rintro _ v1 ⟨q, rfl, hq, hP1, hF1, hB1'⟩
    have hFl : ((tab (fun i => if i = j then (aget (st.ps.take q) l.peer).getD 0 else idf st i) ls.length).flatMap i64c).length = ls.length := by rw [len_i64, tab_len]
    have hFj : ((tab (fun i => if i = j then (aget (st.ps.take q) l.peer).getD 0 else idf st i) ls.length).flatMap i64c)[j]? = some (.int .i64 ((aget (st.ps.take q) l.peer).getD 0)) := by
      refine get_i64 ?_
      rw [tab_get hjl, if_pos rfl]
    refine ⟨fun hlt2 => ?_, fun hge2 => ?_⟩
    · have hqj : q < j := by omega
      obtain ⟨xq, lq, hlq, hxq, hpq⟩ := hnode hP1.ext hqj
      obtain ⟨idq, hpsq, hidq, hid1, hid2⟩ := hI.at_ (by omega) hqj hlq
      have hstep : st.ps.take (q + 1) = st.ps.take q ++ [(lq.path, idq)] := take_snoc hpsq
      refine ⟨fun v => PlG w v b1 b2 b3 sg kn ys Ds st.nodes ∧ Own v r3 b3 3 1 ((tab (fun i => if i = j then (aget (st.ps.take (q + 1)) l.peer).getD 0 else idf st i) ls.length).flatMap i64c) ∧ Blk v bl 40 (S_api_Line.cells (l.hd d0)), ?_, dr_i ?_⟩
      · rintro v' ⟨g1, g2, g3⟩
        exact ⟨⟨q + 1, by rw [w64_id (by omega) (by omega)]; rfl, by omega, g1, g2, g3⟩, by dsimp only; rw [w64_id (by omega) (by omega)]; omega⟩
      have hPd := hP1.up (Ext.refl v1).drew
      have hFd := hF1.ext (Ext.refl v1).drew
      have hBd : Blk v1.drew bl 40 (S_api_Line.cells (l.hd d0)) := hB1'
      generalize v1.drew = v2 at hPd hFd hBd ⊢
      refine (h.ext hPd.ext).row.ix hxq fun c hc => ldS_at (i := 0) hc ⟨xq.Path, rfl, ldS_at (i := 9) hBd.all ⟨l.peer, rfl, fun he => ?_, fun hne => ?_⟩⟩
      · rw [hpq] at he
        refine hFd.ixS (by rw [hFl]; exact hjl) ⟨_, hFd.cellS hFj, fun h0 => ?_, fun hn0 => ⟨hPd, ?_, hBd⟩⟩
        · have hFq : ((tab (fun i => if i = j then (aget (st.ps.take q) l.peer).getD 0 else idf st i) ls.length).flatMap i64c)[q]? = some (.int .i64 idq) := by
            refine get_i64 ?_
            rw [tab_get (by omega), if_neg (by omega), hidq]
          refine hFd.ixS (by rw [hFl]; omega) ⟨_, hFd.cellS hFq, hFd.ixS (by rw [hFl]; exact hjl) (hFd.stS (by rw [hFl]; exact hjl) fun v3 hF3 hX3 hz3 => ?_)⟩
          have hge := hPd.ge
          refine ⟨hPd.box hX3 hge.2.2.1 (by omega) hPd.kn_.2.2 (fun D hD => (hPd.kD D hD).2.2), ?_, hBd.xtb hX3 (by omega)⟩
          rw [set_i64, tab_set] at hF3
          have e1 : aget (st.ps.take q) l.peer = none := by
            cases hq2 : aget (st.ps.take q) l.peer with
            | none => rfl
            | some z =>
              rw [hq2] at h0
              have := (hI.ids _ (List.mem_of_mem_take (aget_mem_of hq2))).1
              simp at h0; simp at this; omega
          have e2 : tab (fun i => if i = j then (aget (st.ps.take (q + 1)) l.peer).getD 0 else idf st i) ls.length = tab (fun k => if k = j then idq else if k = j then (aget (st.ps.take q) l.peer).getD 0 else idf st k) ls.length := tab_ext fun i hi => by
            by_cases e : i = j
            · rw [if_pos e, if_pos e, hstep, aget_snoc, e1, if_pos he]; rfl
            · rw [if_neg e, if_neg e, if_neg e]
          rw [e2]; exact hF3
        · have e2 : tab (fun i => if i = j then (aget (st.ps.take (q + 1)) l.peer).getD 0 else idf st i) ls.length = tab (fun i => if i = j then (aget (st.ps.take q) l.peer).getD 0 else idf st i) ls.length := tab_ext fun i hi => by
            by_cases e : i = j
            · rw [if_pos e, if_pos e, hstep, aget_snoc]
              cases hq2 : aget (st.ps.take q) l.peer with
              | none => rw [hq2] at hn0; exact absurd rfl hn0
              | some z => rfl
            · rw [if_neg e, if_neg e]
          rw [e2]; exact hFd
      · rw [hpq] at hne
        refine ⟨hPd, ?_, hBd⟩
        have e2 : tab (fun i => if i = j then (aget (st.ps.take (q + 1)) l.peer).getD 0 else idf st i) ls.length = tab (fun i => if i = j then (aget (st.ps.take q) l.peer).getD 0 else idf st i) ls.length := tab_ext fun i hi => by
          by_cases e : i = j
          · rw [if_pos e, if_pos e, hstep, aget_snoc, if_neg hne]
            cases aget (st.ps.take q) l.peer <;> rfl
          · rw [if_neg e, if_neg e]
        rw [e2]; exact hFd
    · have hqj : q = j := by omega
      subst hqj
      have htk : st.ps.take q = st.ps := List.take_of_length_le (by have := hI.len (by omega); omega)
      rw [htk] at hF1 hFj hFl
      have hpid : pid st l = aget st.ps l.peer := by rw [pid, if_neg hpe]
      refine hF1.ixS (by rw [hFl]; exact hjl) ⟨_, hF1.cellS hFj, fun h0 => bad v1 hP1.ext hP1.r (.none ?_), fun hn0 => ?_⟩
      · rw [← hb]
        have : pid st l = none := by
          cases hq2 : pid st l with
          | none => rfl
          | some z => have := (pid_range hI hq2).1; rw [← hpid, hq2] at h0; simp at h0; omega
        simp [pstep, this]
      · cases hq2 : aget st.ps l.peer with
        | none => rw [hq2] at hn0; exact absurd rfl hn0
        | some id =>
          rw [hq2] at hF1
          exact ⟨sg, kn, ys, Ds, id, by rw [padd, if_neg hpe]; exact hP1, hF1, hB1', hkn0, hkD0, by rw [hpid, hq2]⟩
  clear hP0 hF0 hB10 hlk hlD hnn hkD0 hkn0
  clear sg kn ys Ds
  rintro v1 ⟨sg, kn, ys, Ds, id, hP, hF, hB, hkb, hDb, hid⟩
  have hidr := pid_range hI hid
  refine ⟨fun hj0 => ?_, fun hj0 => ?_⟩
  · have hj0' : j = 0 := by omega
    refine ⟨sg, kn, ys, Ds, padd st l, id, hP, ?_, ?_⟩
    · rw [← idf_put (n := ls.length) (ns := padd st l) hok hI hl]; exact hF
    · simp [pstep, hid, hj0']
  have hj1 : 0 < j := by omega
  refine ldS_at (i := 0) hB.all ⟨l.path, rfl, ?_⟩
  show Jn1 _ _
  -- the cut
  refine ⟨fun c v => v = v1 ∧ c = (match lastSlash l.path with | some c => (c : Int) | none => -1), ?_, ?_⟩
  rotate_left
  · refine ⟨fun i v => v = v1 ∧ ∃ q : Nat, i = (q : Int) - 1 ∧ q ≤ l.path.size ∧ lastBelow l.path q = lastSlash l.path, fun i _ => (i + 1).toNat, ⟨rfl, l.path.size, by show w64 ((l.path.size : Int) - 1) = _; rw [w64_id (by omega) (by omega)], Nat.le_refl _, rfl⟩, ?_⟩
    rintro _ v ⟨rfl, q, rfl, hq, hlast⟩
    refine ⟨fun hpos => ldS_at (i := 0) hB.all ⟨l.path, rfl, ?_⟩, fun hneg => ⟨rfl, ?_⟩⟩
    · obtain ⟨p, rfl⟩ : ∃ p, q = p + 1 := ⟨q - 1, by omega⟩
      rw [show ((p + 1 : Nat) : Int) - 1 = (p : Int) by omega]
      have hg : l.path.data[p]? = some l.path[p] := Array.getElem?_eq_getElem (by exact hq)
      rw [lastBelow, hg] at hlast
      refine sx_i (by omega) ⟨fun he => ⟨rfl, ?_⟩, fun hne => ⟨⟨rfl, p, by rw [w64_id (by omega) (by omega)], by omega, ?_⟩, by dsimp only; rw [w64_id (by omega) (by omega)]; omega⟩⟩
      · have : l.path[p] = 47 := u8_eq (n := 47) (by decide) he
        rw [if_pos (by rw [this])] at hlast
        rw [← hlast]
      · have : l.path[p] ≠ 47 := u8_ne (n := 47) (by decide) hne
        rw [if_neg (fun h => this (Option.some.inj h))] at hlast
        exact hlast
    · have : q = 0 := by omega
      subst this
      rw [← hlast]
      rfl
  rintro c v ⟨rfl, hc⟩
  -- the parent
  refine ⟨fun at_ v' => Ext v v' ∧ at_ = ((pway st l).map (·.1)).getD 0 - 1, ?_, ?_⟩
  rotate_left
  · cases hls : lastSlash l.path with
    | none =>
      rw [hls] at hc
      subst hc
      exact ⟨fun hn => absurd hn (by decide), fun _ => ⟨Ext.refl _, by simp [pway, hls]⟩⟩
    | some cut =>
      rw [hls] at hc
      simp only at hc
      subst hc
      have hcl := lastSlash_le hls
      have hlj := hI.len (by omega)
      have hpre := hok.nd j l cut hj1 hl hls
      generalize hpr : l.path.extract 0 cut = pre at hpre
      refine ⟨fun _ => ?_, fun hn => absurd (Int.natCast_nonneg cut) hn⟩
      refine ⟨fun a i v' => Ext v v' ∧ ∃ q : Nat, i = q ∧ 1 ≤ q ∧ q ≤ j ∧ a = (aget (st.ps.take q) pre).getD 0 - 1, fun _ i _ => (j - i).toNat, ⟨Ext.refl _, 1, rfl, by omega, by omega, ?_⟩, ?_⟩
      · obtain ⟨x0, l0, hl0, hx0, hp0⟩ := hnode hP.ext hj1
        obtain ⟨id0, hps0, _⟩ := hI.at_ (by omega) hj1 hl0
        have : st.ps.take 1 = [(l0.path, id0)] := by
          have := take_snoc hps0
          simpa using this
        rw [this]
        have hd := hok.hd l0 hl0
        simp only [aget, hd, if_neg (Ne.symm hpre)]
        rfl
      rintro a _ v' ⟨hE', q, rfl, hq1, hq2, rfl⟩
      refine ⟨fun hlt2 => ?_, fun hge2 => ?_⟩
      · have hqj : q < j := by omega
        obtain ⟨xq, lq, hlq, hxq, hpq⟩ := hnode (hP.ext.trans hE') hqj
        obtain ⟨idq, hpsq, hidq, hid1, hid2⟩ := hI.at_ (by omega) hqj hlq
        have hstep : st.ps.take (q + 1) = st.ps.take q ++ [(lq.path, idq)] := take_snoc hpsq
        refine ⟨fun a' v2 => Ext v v2 ∧ a' = (aget (st.ps.take (q + 1)) pre).getD 0 - 1, ?_, dr_i ?_⟩
        · rintro a' v2 ⟨g1, g2⟩
          exact ⟨⟨g1, q + 1, by rw [w64_id (by omega) (by omega)]; rfl, by omega, by omega, g2⟩, by dsimp only; rw [w64_id (by omega) (by omega)]; omega⟩
        have hEd : Ext v v'.drew := hE'.drew
        have hPd := hP.up hEd
        refine (h.ext hPd.ext).row.ix hxq fun c hc => ldS_at (i := 0) hc ⟨xq.Path, rfl, ldS_at (i := 0) (hB.ext hEd).all ⟨l.path, rfl, by decide, by omega, by show (cut : Int) ≤ l.path.size; omega, fun he => ?_, fun hne => ⟨hEd, ?_⟩⟩⟩
        · rw [hpq] at he
          have he' : lq.path = pre := by rw [he, ← hpr]; rfl
          have hFd := hF.ext hEd
          have hFq : ((tab (fun i => if i = j then id else idf st i) ls.length).flatMap i64c)[q]? = some (.int .i64 idq) := by
            refine get_i64 ?_
            rw [tab_get (by omega), if_neg (by omega), hidq]
          refine hFd.ixS (by rw [len_i64, tab_len]; omega) ⟨_, hFd.cellS hFq, hEd, ?_⟩
          have e1 := take_uniq hok hI (by omega) hqj hlq
          rw [he'] at e1
          have := hcn
          rw [w64_id (by omega) (by omega), hstep, aget_snoc, e1, if_pos he']; rfl
        · rw [hpq] at hne
          have hne' : lq.path ≠ pre := fun e => hne (by rw [e, ← hpr]; rfl)
          rw [hstep, aget_snoc, if_neg hne']
          cases aget (st.ps.take q) pre <;> rfl
      · have hqj : q = j := by omega
        subst hqj
        have htk : st.ps.take q = st.ps := List.take_of_length_le (by omega)
        rw [htk]
        refine ⟨hE', ?_⟩
        simp only [pway, hls, Option.map_map, hpr]
        cases aget st.ps pre <;> rfl
  rintro at_ v2 ⟨hE2, rfl⟩
  have hPv := hP.up hE2
  have hFv := hF.ext hE2
  have hBv := hB.ext hE2
  refine ⟨fun hneg => bad v2 hPv.ext hPv.r (.none ?_), fun hpos => ?_⟩
  · rw [← hb]
    have : pway st l = none := by
      cases hq : pway st l with
      | none => rfl
      | some x => rw [hq] at hneg; have := (pway_range hI hj1 hq).1; simp at hneg; omega
    simp [pstep, hid, this, show j ≠ 0 by omega]
  obtain ⟨x, hx2⟩ : ∃ x, pway st l = some x := by
    cases hq : pway st l with
    | none => rw [hq] at hpos; simp at hpos
    | some x => exact ⟨x, rfl⟩
  have hxr := pway_range hI hj1 hx2
  have hpl := padd_len (st := st) (l := l)
  obtain ⟨par, nm⟩ := x
  simp only at hxr
  have hat : ((pway st l).map (·.1)).getD 0 - 1 = ((par.toNat - 1 : Nat) : Int) := by rw [hx2]; simp only [Option.map_some, Option.getD_some]; omega
  rw [hat]
  obtain ⟨y, m, D, hy, hm, hD, hym⟩ := hPv.nd.at_ (i := par.toNat - 1) (by omega)
  have hmi : m.ents.length ≤ 16777216 := by
    have hmm := List.mem_of_getElem? hm
    unfold padd at hmm
    split at hmm
    · rcases List.mem_append.1 hmm with hmm | hmm
      · have := (hI.ents m hmm).1; omega
      · rw [List.mem_singleton.1 hmm]; simp [pNd]
    · have := (hI.ents m hmm).1; omega
  cases kn with
  | none =>
    have := hPv.nd.row.2
    cases ys with
    | nil => simp at hy
    | cons a b => simp [S_api_Node.cells] at this
  | some kk =>
  have hPd := hPv.up (Ext.refl v2).drew
  have hFd := hFv.ext (Ext.refl v2).drew
  have hBd : Blk v2.drew bl 40 (S_api_Line.cells (l.hd d0)) := hBv
  have hymd := ndP_ext _ _ _ _ _ (Ext.refl v2).drew hym
  obtain ⟨_, dd, ee, hdd, hee, hDD, _⟩ := hymd
  refine ⟨ee.getD v2.heap.size, ?_⟩
  generalize v2.drew = v3 at hPd hFd hBd hdd hee ⊢
  have hBk : ee.getD v2.heap.size ≠ kk ∧ ee.getD v2.heap.size ≠ b2 ∧ ee.getD v2.heap.size ≠ b3 ∧ ee.getD v2.heap.size ≠ bl := by
    cases ee with
    | none =>
      have l1 := hPv.nd.lt.1 kk rfl; have l2 := hPv.g.lt; have l3 := hPv.b3v; have l4 := hBv.lt
      simp only [Option.getD_none]; omega
    | some b =>
      have hbD : b ∈ D := by rw [hDD]; simp
      have hDm := List.mem_of_getElem? hD
      have g1 := hPd.kD D hDm
      simp only [Option.getD_some]
      exact ⟨fun e => (hPd.nd.dk D hDm b hbD).1 (by rw [e]), fun e => g1.2.1 (e ▸ hbD), fun e => g1.2.2 (e ▸ hbD), fun e => hDb D hDm (e ▸ hbD)⟩
  have hFj : ((tab (fun i => if i = j then id else idf st i) ls.length).flatMap i64c)[j]? = some (.int .i64 id) := by
    refine get_i64 ?_
    rw [tab_get hjl, if_pos rfl]
  refine hFd.ixS (by rw [len_i64, tab_len]; exact hjl) ⟨Ne.symm hBk.2.1, ldL_at (i := 0) hPd.g.all ⟨sg, rfl, Ne.symm hBk.2.1, ldL_at (i := 0) hPd.g.all ⟨sg, rfl, Own_ix hPd.nd.row (fun _ => rfl) (by decide) hy fun hcy => ⟨by rw [add_block]; exact Ne.symm hBk.1, ldL_at (i := 9) hcy ⟨y.Ents, rfl, Ne.symm hBk.2.2.2, ldS_at (i := 0) hBd.all ⟨l.path, rfl, ?_⟩⟩⟩⟩⟩⟩
  have hcut : w64 (c + 1) = ((match lastSlash l.path with | some c => c + 1 | none => 0 : Nat) : Int) := by
    rw [hc]
    cases hls : lastSlash l.path with
    | none => rfl
    | some c => have := lastSlash_le hls; simp only; rw [w64_id (by omega) (by omega)]; omega
  have hnm : l.path.extract (match lastSlash l.path with | some c => c + 1 | none => 0 : Nat) l.path.size = nm := by
    cases hls : lastSlash l.path with
    | none =>
      simp only [pway, hls, Option.some.injEq, Prod.mk.injEq] at hx2
      rw [← hx2.2]; exact extract_all _
    | some c =>
      simp only [pway, hls] at hx2
      obtain ⟨pr, hpr, he⟩ := Option.map_eq_some_iff.1 hx2
      cases he; rfl
  have hcle : (match lastSlash l.path with | some c => c + 1 | none => 0 : Nat) ≤ l.path.size := by
    cases hls : lastSlash l.path with
    | none => simp
    | some c => have := lastSlash_le hls; simp only; omega
  rw [hcut]
  refine ⟨by omega, by show ((match lastSlash l.path with | some c => c + 1 | none => 0 : Nat) : Int) ≤ l.path.size; omega, Int.le_refl _, ?_⟩
  have hnm' : (l.hd d0).Path.extract ((match lastSlash l.path with | some c => c + 1 | none => 0 : Nat) : Int).toNat (((l.hd d0).Path.size : Int)).toNat = nm := hnm
  show (⟨b3, j, none⟩ : Addr).block ≠ _ ∧ _
  refine ⟨Ne.symm hBk.2.2.1, ⟨_, hFd.cellS hFj, al_i fun hBe hEe => ⟨fun b hb => ?_, ?_⟩⟩⟩
  · cases ee with
    | none => rw [hee.1] at hb; cases hb
    | some q => rw [Own.p hee] at hb; cases hb; rfl
  have hbv := hBd.lt
  have hbe := hEe.1
  have hsrc := src_lit (w := v3) (e := 66) (sz := 2) (n := 1) (cs := S_api_Ent.cells ⟨nm, id⟩) rfl (by decide)
  rw [← hnm'] at hsrc
  refine (hPd.up hEe).addEnt (en := ⟨nm, id⟩) hy hm hmi (by rw [← hnm']; exact hsrc) rfl fun r v4 hO4 hst => Own_ix hO4 (fun _ => rfl) (by decide) hy fun _ => hst _ fun v5 ys' Ds' hP5 hs5 hz5 hD5 => ?_
  refine ⟨sg, some kk, ys', Ds', _, id, hP5, ?_, ?_⟩
  · have hF5 := Own_same (hFd.ext hEe) (hs5 b3 (by have := hPd.b3v; omega) (fun e => hPd.kn_.2.2 (by rw [e])) (fun D hD => (hPd.kD D hD).2.2))
    rw [idf_put (n := ls.length) hok hI hl] at hF5
    exact hF5
  · simp only [pstep, hid, show j ≠ 0 by omega, if_false, hx2, Option.map_some, pent, modify_set hm]
end Go.Proofs.Ytmmkhlalhalomaa
