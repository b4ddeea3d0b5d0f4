import Derived.Test.YtmmkhlalhalomaaGrC20
set_option linter.unusedVariables false
set_option linter.unusedSimpArgs false
set_option maxRecDepth 100000
namespace Go.Proofs.Ytmmkhlalhalomaa
open Go Go.Low
theorem lastSlash_le {s : ByteArray} {c : Nat} (h : lastSlash s = some c) : c < s.size := lastBelow_lt h
theorem drop_at {α : Type} {ys : List α} {i : Nat} {y : α} (h : ys[i]? = some y) : ys.drop i = y :: ys.drop (i + 1) := by
  have hi := some_lt h
  rw [List.getElem?_eq_getElem hi] at h
  rw [← Option.some.inj h, ← List.drop_eq_getElem_cons hi]
set_option maxHeartbeats 1000000 in
theorem C_graphPlant {w : World} {s : Sl} {xs : List S_api_Line} {ls : List Ln} {K : S_api_Graph → Int → World → Prop} (h : LinesX w s xs ls) (hok : LnsOk ls)
    (k0 : ∀ e w', Ext w w' → PlantR ls none → K ⟨⟨none, 0, 0⟩⟩ e w') (k1 : ∀ w' sg kn ys Ds ms, Ext w w' → PlantR ls (some ms) → OwnNd w.heap.size w' sg kn ys ms Ds → K ⟨sg⟩ 0 w') :
    cl2 Try.prog 9 [Sl.v s] w S_api_Graph.v (Value.int .i64) K := by
  have hn := h.n
  have hlen := hok.len
  refine T_graph_Plant s (al_i fun hB1 hE1 => al_i fun hB2 hE2 => mk_i kStr (Value.int .i64) fun hM3 hE3 => ?_)
  replace hB1 := (hB1.ext hE2).ext hE3
  replace hB2 := hB2.ext hE3
  have hE := (hE1.trans hE2).trans hE3
  have z1 : (w.alloc (.cells [Value.slice none 0 0].toArray 24)).heap.size = w.heap.size + 1 := by simp
  have z2 : ((w.alloc (.cells [Value.slice none 0 0].toArray 24)).alloc (.cells [Value.slice none 0 0].toArray 24)).heap.size = w.heap.size + 2 := by simp
  rw [z1] at hB2
  rw [z2] at hM3
  simp only [z1, z2]
  generalize ((w.alloc (.cells [Value.slice none 0 0].toArray 24)).alloc (.cells [Value.slice none 0 0].toArray 24)).alloc _ = w3 at hB1 hB2 hM3 hE ⊢
  clear hE1 hE2 hE3 z1 z2
  have hP3 : PlG w w3 w.heap.size (w.heap.size + 1) (w.heap.size + 2) ⟨none, 0, 0⟩ none [] [] [] :=
    ⟨hE, hB1, hB2, OwnR.nil, hM3.lt, by omega, ⟨nofun, nofun, nofun⟩, fun D hD => by cases hD⟩
  clear hB1 hB2 hE
  refine ⟨fun _ i v => ∃ (j : Nat) (sg : Sl) (kn : Option Nat) (ys : List S_api_Node) (Ds : List (List Nat)) (st : PS), i = j ∧ j ≤ ls.length ∧ PlG w v w.heap.size (w.heap.size + 1) (w.heap.size + 2) sg kn ys Ds st.nodes ∧ MapAt v (w.heap.size + 2) kStr (Value.int .i64) st.ps ∧ PInv ls j st ∧ pbuild j st (ls.drop j) = pbuild 0 PS.nil ls, fun _ i _ => (ls.length - i).toNat,
    ⟨0, _, _, _, _, PS.nil, rfl, by omega, hP3, hM3, PInv.nil ls, rfl⟩, ?_⟩
  generalize hb1 : w.heap.size = b1
  generalize hb2 : b1 + 1 = b2
  generalize hb3 : b1 + 2 = b3
  clear hP3 hM3
  rintro _ i v ⟨j, sg, kn, ys, Ds, st, rfl, hj, hP, hM, hI, hb⟩
  have bad : ∀ v, Ext w v → Blk v b1 24 [.slice none 0 0] → PlantR ls none → Low.st v ⟨b1, 0, none⟩ (S_api_Graph.cells ⟨⟨none, 0, 0⟩⟩) fun w => ldT S_api_Graph.cells w ⟨b1, 0, none⟩ fun r => K r 151 w := fun v hE hB hR =>
    st_i0 (cs' := S_api_Graph.cells ⟨⟨none, 0, 0⟩⟩) hB rfl rfl fun v' hB' hX _ => ldT_all (x := (⟨⟨none, 0, 0⟩⟩ : S_api_Graph)) hB'.all (k0 151 v' (hE.xtb hX (by omega)) hR)
  refine ⟨fun hlt => ?_, fun hge => ?_⟩
  rotate_left
  · -- the end
    rw [List.drop_eq_nil_of_le (by omega), pbuild] at hb
    have hjl : j = ls.length := by omega
    subst hjl
    obtain ⟨hsm, hfa⟩ := hI.small hok
    refine ldT_all (x := (⟨sg⟩ : S_api_Graph)) hP.g.all (C_graphTree (g := ⟨sg⟩) hP.nd.graphX hsm (fun e w' hE' hT => ⟨fun he => ?_, fun he => bad w' (hP.ext.trans hE') (hP.r.ext hE') (.bad hb.symm hT nofun)⟩) fun ls' s' w' ko ysl Dl hE' hT hO hl' => ⟨fun _ => ?_, fun hn => absurd rfl hn⟩)
    · have := hT.some_iff.1 he; cases this
    · refine C_EqualLines hO.linesX (h.ext (hP.ext.trans hE')) (fun w2 hE2 e => ⟨fun hn => (by cases hn), fun _ => ?_⟩) (fun w2 hE2 e => ⟨fun _ => bad w2 ((hP.ext.trans hE').trans hE2) ((hP.r.ext hE').ext hE2) (.bad hb.symm hT fun e2 => e (Option.some.inj e2)), fun hn => by cases hn⟩)
      have hP2 := (hP.up hE').up hE2
      refine ldT_all (x := (⟨sg⟩ : S_api_Graph)) hP2.g.all (st_i0 (cs' := S_api_Graph.cells ⟨sg⟩) hP2.r rfl rfl fun v' hB' hX _ => ldT_all (x := (⟨sg⟩ : S_api_Graph)) hB'.all ?_)
      rw [e] at hT
      exact k1 v' sg kn ys Ds st.nodes (hP2.ext.xtb hX (by omega)) (.fine hb.symm hT) (hP2.nd.xtb ndP_xtb hX hP2.kn_.1 fun D hD => (hP2.kD D hD).1)
  · -- a line
    have hjl : j < ls.length := by omega
    obtain ⟨x, l, hx, hl, hxl⟩ := (h.ext hP.ext).node hjl
    have hlm := List.mem_of_getElem? hl
    have hpsz := hok.path l hlm
    rw [drop_at hl, pbuild] at hb
    obtain ⟨d0, rfl⟩ : ∃ d, x = l.hd d := ⟨_, hxl.hd⟩
    have hfr : aget st.ps l.path = none := aget_none_of (by rw [hI.keys]; exact hok.fresh hl)
    refine (h.ext hP.ext).row.ix hx fun c hc => ldT_all (x := l.hd d0) hc (al_i fun hB9 hE9 => ?_)
    have hP9 := hP.up hE9
    have hM9 := hM.ext hE9
    generalize hbl : v.heap.size = bl at hB9 ⊢
    have hl1 : b1 < bl := by rw [← hbl]; exact hP.r.lt
    have hl2 : b2 < bl := by rw [← hbl]; exact hP.g.lt
    have hl3 : b3 < bl := by rw [← hbl]; exact hP.b3v
    have hlk : ∀ b, kn = some b → b < bl := by rw [← hbl]; exact hP.nd.lt.1
    have hlD : ∀ D ∈ Ds, ∀ b ∈ D, b < bl := by rw [← hbl]; exact hP.nd.lt.2
    have hwb : w.heap.size ≤ bl := by rw [← hbl]; exact hP.ext.1
    clear hc hP hM
    generalize v.alloc _ = v9 at hB9 hE9 hP9 hM9 ⊢
    refine st_i0 (cs' := S_api_Line.cells (l.hd d0)) hB9 rfl rfl fun v10 hB10 hX10 hz10 => ?_
    have hP := hP9.box hX10 hwb (by omega) (fun e => by have := hlk bl e; omega) (fun D hD hm => by have := hlD D hD bl hm; omega)
    have hM := hM9.xtb hX10 (by omega)
    have hnn := hP.nd.n (fun _ => rfl) (by decide)
    have hcn := hI.cnt
    clear hP9 hM9 hX10 hB9 hE9 hz10
    refine ldS_at (i := 9) hB10.all ⟨l.peer, rfl, lk_i (kk := kStr) hM ?_⟩
    refine ⟨fun id v => ∃ sg kn ys Ds, PlG w v b1 b2 b3 sg kn ys Ds (padd st l) ∧ MapAt v b3 kStr (Value.int .i64) st.ps ∧ Blk v bl 40 (S_api_Line.cells (l.hd d0)) ∧ kn ≠ some bl ∧ (∀ D ∈ Ds, bl ∉ D) ∧ id = (pid st l).getD 0, ?_, ldS_at (i := 9) hB10.all ⟨l.peer, rfl, fun hpe => ?_, fun hpe => ?_⟩⟩
    rotate_left
    · -- a new node
      refine ldL_at (i := 0) hP.g.all ⟨sg, rfl, dr_i ?_⟩
      have hPd := hP.up (Ext.refl v10).drew
      have hMd := hM.ext (Ext.refl v10).drew
      have hBd : Blk v10.drew bl 40 (S_api_Line.cells (l.hd d0)) := hB10
      generalize v10.drew = v11 at hPd hMd hBd ⊢
      refine ldL_at (i := 0) hPd.g.all ⟨sg, rfl, ldN_at (i := 1) hBd.all ⟨l.kind, rfl, ldN_at (i := 2) hBd.all ⟨l.mode, rfl, ldN_at (i := 3) hBd.all ⟨l.uid, rfl, ldN_at (i := 4) hBd.all ⟨l.gid, rfl, ldT_at (i := 5) hBd.all l.mtime rfl (ldL_at (i := 7) hBd.all ⟨d0, rfl, ldS_at (i := 8) hBd.all ⟨l.target, rfl, ?_⟩⟩)⟩⟩⟩⟩⟩
      have hdat : Bytes v11 d0 l.data := by
        obtain ⟨x', l', hx', hl', hxl'⟩ := (h.ext hPd.ext).node hjl
        rw [hx] at hx'; rw [hl] at hl'; cases hx'; cases hl'
        exact hxl'.data
      refine C_Clone hdat (by have := hok.data l hlm; omega) fun dn v12 dk hE12 hdk hO12 => ⟨hE12, al_i fun hBn hEn => ?_⟩
      have hPn := (hPd.up hE12).up hEn
      have hsz : v11.heap.size ≤ v12.heap.size := hE12.1
      have hl11 : bl < v11.heap.size := hBd.lt
      refine hPn.addNode (m := pNd st.nodes.length l) (d := dk) (src_lit rfl (by decide)) rfl (by omega) ⟨?_, dk, none, hO12.ext hEn, ⟨rfl, rfl⟩, by simp, nofun⟩ (fun b hb => ?_) fun v13 r kn' hP13 hz13 hs13 hk13 => ?_
      · rw [hnn, w64_id (by omega) (by omega)]; rfl
      · have := hdk b hb
        have := hPd.ext.1
        exact ⟨by omega, by omega, by omega, by omega, fun e => by have := hlk b e; omega, fun D hD hm => by have := hlD D hD b hm; omega⟩
      · have hpad : padd st l = st.nodes ++ [pNd st.nodes.length l] := by rw [padd, if_pos hpe]
        have hb12 := hEn.1
        refine ⟨r, some kn', _, _, by rw [hpad]; exact hP13, MapAt_same ((hMd.ext hE12).ext hEn) (hs13 b3 (by omega) (by omega) hP.kn_.2.2), Blk_same ((hBd.ext hE12).ext hEn) (hs13 bl (by omega) (by omega) (fun e => by have := hlk bl e; omega)), ?_, fun D hD hm => ?_, ?_⟩
        · rcases hk13 with e | e
          · intro e2; cases e2; have := hlk bl e; omega
          · intro e2; cases e2; omega
        · rcases List.mem_append.1 hD with hD | hD
          · have := hlD D hD bl hm; omega
          · rw [List.mem_singleton.1 hD] at hm
            cases dk with
            | none => simp at hm
            | some q => simp at hm; have := hdk q rfl; omega
        · rw [pid, if_pos hpe, hnn, w64_id (by omega) (by omega)]; rfl
    · refine ⟨sg, kn, ys, Ds, by rw [padd, if_neg hpe]; exact hP, hM, hB10, fun e => by have := hlk bl e; omega, fun D hD hm => by have := hlD D hD bl hm; omega, ?_⟩
      rw [pid, if_neg hpe]
    clear hP hM hB10 hlk hlD hnn
    clear sg kn ys Ds
    rintro id v ⟨sg, kn, ys, Ds, hP, hM, hB, hkb, hDb, rfl⟩
    refine ldS_at (i := 0) hB.all ⟨l.path, rfl, lkk_i (kk := kStr) hM ⟨fun hn => by rw [hfr] at hn; (cases hn), fun _ => ⟨fun h0 => ?_, fun h0 => ?_⟩⟩⟩
    · refine bad v hP.ext hP.r (.none ?_)
      rw [← hb]
      have : pid st l = none := by
        cases hq : pid st l with
        | none => rfl
        | some id => rw [hq] at h0; have := (pid_range hI hq).1; simp at h0; omega
      simp [pstep, this]
    obtain ⟨id, hid⟩ : ∃ id, pid st l = some id := by
      cases hq : pid st l with
      | none => rw [hq] at h0; exact absurd rfl h0
      | some id => exact ⟨id, rfl⟩
    have hidr := pid_range hI hid
    rw [hid]
    show Jn0 _ _
    refine ⟨fun v => ∃ sg kn ys Ds ns, PlG w v b1 b2 b3 sg kn ys Ds ns ∧ MapAt v b3 kStr (Value.int .i64) st.ps ∧ Blk v bl 40 (S_api_Line.cells (l.hd d0)) ∧ kn ≠ some bl ∧ (∀ D ∈ Ds, bl ∉ D) ∧ pstep j st l = some ⟨ns, aput st.ps l.path id⟩, ?_, fun hpos => dr_i ?_, fun hj0 => ?_⟩
    · rintro v' ⟨sg, kn, ys, Ds, ns, hP, hM, hB, hkb, hDb, hst⟩
      refine ldS_at (i := 0) hB.all ⟨l.path, rfl, mu_i (kk := kStr) hM fun v2 hM2 hX2 hz2 => ⟨⟨j + 1, sg, kn, ys, Ds, ⟨ns, aput st.ps l.path id⟩, by rw [w64_id (by omega) (by omega)]; rfl, by omega, hP.box hX2 hP.ge.2.2.1 (by have := hP.ge; omega) hP.kn_.2.2 (fun D hD => (hP.kD D hD).2.2), hM2, hI.step hok hl hst, by rw [hst] at hb; exact hb⟩, by dsimp only; rw [w64_id (by omega) (by omega)]; omega⟩⟩
    · -- below a directory
      have hPd := hP.up (Ext.refl v).drew
      have hMd := hM.ext (Ext.refl v).drew
      have hBd : Blk v.drew bl 40 (S_api_Line.cells (l.hd d0)) := hB
      generalize v.drew = v2 at hPd hMd hBd ⊢
      clear hP hM hB
      refine ldS_at (i := 0) hBd.all ⟨l.path, rfl, fun par nm v' => Ext v2 v' ∧ par = ((pway st l).map (·.1)).getD 0 ∧ ∀ x, pway st l = some x → nm = x.2, ?_, ?_⟩
      · rintro par nm v' ⟨hE', rfl, hnm⟩
        have hPv := hPd.up hE'
        have hMv := hMd.ext hE'
        have hBv := hBd.ext hE'
        refine ⟨fun hp0 => bad v' hPv.ext hPv.r (.none ?_), fun hp0 => ?_⟩
        · rw [← hb]
          have : pway st l = none := by
            cases hq : pway st l with
            | none => rfl
            | some x => rw [hq] at hp0; have := (pway_range hI (by omega) hq).1; simp at hp0; omega
          simp [pstep, hid, this, show j ≠ 0 by omega]
        · obtain ⟨x, hx⟩ : ∃ x, pway st l = some x := by
            cases hq : pway st l with
            | none => rw [hq] at hp0; exact absurd rfl hp0
            | some x => exact ⟨x, rfl⟩
          have hxr := pway_range hI (by omega) hx
          have hpl := padd_len (st := st) (l := l)
          rw [hnm x hx, hx]
          show ldL _ _ _
          obtain ⟨par, nm⟩ := x
          simp only [Option.map_some, Option.getD_some] at hxr ⊢
          have hpi : w64 (par - 1) = ((par.toNat - 1 : Nat) : Int) := by rw [w64_id (by omega) (by omega)]; omega
          refine ldL_at (i := 0) hPv.g.all ⟨sg, rfl, ?_⟩
          rw [hpi]
          obtain ⟨y, m, D, hy, hm, hD, hym⟩ := hPv.nd.at_ (i := par.toNat - 1) (by omega)
          have hmi : m.ents.length ≤ 16777216 := by
            have hmm := List.mem_of_getElem? hm
            unfold padd at hmm
            split at hmm
            · rcases List.mem_append.1 hmm with hmm | hmm
              · have := (hI.ents m hmm).1; omega
              · rw [List.mem_singleton.1 hmm]; simp [pNd]
            · have := (hI.ents m hmm).1; omega
          cases kn with
          | none =>
            have := hPv.nd.row.2
            have h2 := hPv.nd.ly
            cases ys with
            | nil => simp at hy
            | cons a b => simp [S_api_Node.cells] at this
          | some kk =>
          refine Own_ix hPv.nd.row (fun _ => rfl) (by decide) hy fun hc => ldL_at (i := 9) hc ⟨y.Ents, rfl, al_i fun hBe hEe => ?_⟩
          refine (hPv.up hEe).addEnt (en := ⟨nm, id⟩) hy hm hmi (src_lit rfl (by decide)) rfl fun r v3 hO3 hst => hst _ fun v4 ys' Ds' hP4 hs4 hz4 hD4 => ?_
          have hbv := hBv.lt
          have hbe := hEe.1
          refine ⟨sg, some kk, ys', Ds', _, hP4, MapAt_same (hMv.ext hEe) (hs4 b3 (by have := hPv.b3v; omega) (fun e => hPv.kn_.2.2 (by rw [e])) (fun D hD => (hPv.kD D hD).2.2)), Blk_same (hBv.ext hEe) (hs4 bl (by omega) (fun e => hkb (by rw [e])) hDb), hkb, fun D hD hm2 => ?_, ?_⟩
          · rcases hD4 D hD bl hm2 with ⟨D0, hD0, hm0⟩ | hge
            · exact hDb D0 hD0 hm0
            · omega
          · simp only [pstep, hid, show j ≠ 0 by omega, if_false, hx, Option.map_some, pent, modify_set hm]
      · refine ldS_at (i := 0) hBd.all ⟨l.path, rfl, C_LastIndexByte (by omega) ?_⟩
        cases hls : lastSlash l.path with
        | none =>
          refine ⟨fun hn => absurd hn (by decide), fun _ => ⟨Ext.refl _, ?_, fun x hx => ?_⟩⟩
          · simp [pway, hls]
          · simp only [pway, hls, Option.some.injEq] at hx; rw [← hx]
        | some c =>
          have hcl := lastSlash_le hls
          refine ⟨fun _ => dr_i ?_, fun hn => absurd (Int.natCast_nonneg c) hn⟩
          have hMe := hMd.ext (Ext.refl v2).drew
          have hBe : Blk v2.drew bl 40 (S_api_Line.cells (l.hd d0)) := hBd
          have hc1 : w64 ((c : Int) + 1) = ((c + 1 : Nat) : Int) := by rw [w64_id (by omega) (by omega)]; omega
          refine ldS_at (i := 0) hBe.all ⟨l.path, rfl, by decide, by omega, by show (c : Int) ≤ l.path.size; omega, lk_i (kk := kStr) hMe (ldS_at (i := 0) hBe.all ⟨l.path, rfl, ?_⟩)⟩
          rw [hc1]
          refine ⟨by omega, by show ((c + 1 : Nat) : Int) ≤ l.path.size; omega, Int.le_refl _, (Ext.refl v2).drew, ?_, fun x hx => ?_⟩
          · simp only [pway, hls, Option.map_map]
            show (aget st.ps (l.path.extract 0 c)).getD 0 = _
            cases aget st.ps (l.path.extract 0 c) <;> rfl
          · simp only [pway, hls] at hx
            obtain ⟨pr, hpr, rfl⟩ := Option.map_eq_some_iff.1 hx
            rfl
    · have hj0' : j = 0 := by omega
      refine ⟨sg, kn, ys, Ds, padd st l, hP, hM, hB, hkb, hDb, ?_⟩
      simp [pstep, hid, hj0']
end Go.Proofs.Ytmmkhlalhalomaa
