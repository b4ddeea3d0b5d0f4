import Derived.Test.YtmmkhlalhalomaaGrC28
set_option linter.unusedVariables false
set_option linter.unusedSimpArgs false
set_option maxRecDepth 100000
namespace Go.Proofs.Ytmmkhlalhalomaa
open Go Go.Low
theorem pbuild_inv {ls : List Ln} (hok : LnsOk ls) : ∀ (r : List Ln) (i : Nat) {st st' : PS}, r = ls.drop i → i ≤ ls.length → PInv ls i st → pbuild i st r = some st' → PInv ls ls.length st'
  | [], i, st, st', hr, hi, hI, hb => by
    cases hb
    have : ls.length ≤ i := by
      have := congrArg List.length hr
      simp at this; omega
    have : i = ls.length := by omega
    rw [← this]; exact hI
  | l :: r, i, st, st', hr, hi, hI, hb => by
    have hil : i < ls.length := by
      have := congrArg List.length hr
      simp at this; omega
    have hd := List.drop_eq_getElem_cons hil
    rw [hd] at hr
    injection hr with h1 h2
    have hl : ls[i]? = some l := by rw [List.getElem?_eq_getElem hil, h1]
    rw [pbuild] at hb
    cases hs : pstep i st l with
    | none => rw [hs] at hb; cases hb
    | some st1 =>
      rw [hs] at hb
      exact pbuild_inv hok r (i + 1) h2 hil (hI.step hok hl hs) hb
theorem PlantR.data {ls : List Ln} {ms : List Nd} (hok : LnsOk ls) (h : PlantR ls (some ms)) : ∀ m ∈ ms, m.data.length ≤ 16777216 := by
  cases h with
  | fine h ht => exact ((pbuild_inv hok ls 0 rfl (Nat.zero_le _) (PInv.nil ls) h).small hok).1.data
/-- what a Plant answers: nodes of its own (none, where it answers an error) -/
def Planted (ls : List Ln) (ms : List Nd) : Prop := PlantR ls (some ms) ∨ PlantR ls none ∧ ms = []
theorem Planted.det {ls : List Ln} {ms ms' : List Nd} (h : Planted ls ms) (h' : Planted ls ms') : ms = ms' := by
  rcases h with h | ⟨h, rfl⟩ <;> rcases h' with h' | ⟨h', rfl⟩
  · exact Option.some.inj (h.det h')
  · cases h.det h'
  · cases h.det h'
  · rfl
theorem Planted.data {ls : List Ln} {ms : List Nd} (hok : LnsOk ls) (h : Planted ls ms) : ∀ m ∈ ms, m.data.length ≤ 16777216 := by
  rcases h with h | ⟨h, rfl⟩
  · exact h.data hok
  · intro m hm; cases hm
theorem C_graphPlant1 {w : World} {s : Sl} {xs : List S_api_Line} {ls : List Ln} {K : S_api_Graph → Int → World → Prop} (h : LinesX w s xs ls) (hok : LnsOk ls)
    (k : ∀ e w' sg kn ys Ds ms, Ext w w' → Planted ls ms → OwnNd w.heap.size w' sg kn ys ms Ds → K ⟨sg⟩ e w') : cl2 Try.prog 9 [Sl.v s] w S_api_Graph.v (Value.int .i64) K :=
  C_graphPlant h hok (fun e w' hE hR => k e w' _ _ _ _ _ hE (.inr ⟨hR, rfl⟩) OwnR.nil) fun w' sg kn ys Ds ms hE hR hO => k 0 w' _ _ _ _ _ hE (.inl hR) hO
theorem C_refPlant1 {w : World} {s : Sl} {xs : List S_api_Line} {ls : List Ln} {K : S_api_Graph → Int → World → Prop} (h : LinesX w s xs ls) (hok : LnsOk ls)
    (k : ∀ e w' sg kn ys Ds ms, Ext w w' → Planted ls ms → OwnNd w.heap.size w' sg kn ys ms Ds → K ⟨sg⟩ e w') : cl2 Try.prog 10 [Sl.v s] w S_api_Graph.v (Value.int .i64) K :=
  C_refPlant h hok (fun e w' hE hR => k e w' _ _ _ _ _ hE (.inr ⟨hR, rfl⟩) OwnR.nil) fun w' sg kn ys Ds ms hE hR hO => k 0 w' _ _ _ _ _ hE (.inl hR) hO
def UA (DsA DsB : List (List Nat)) (q : Nat) (b : Nat) : Prop := (∃ p D, p < q ∧ DsA[p]? = some D ∧ b ∈ D) ∨ ∃ p D, p < q ∧ DsB[p]? = some D ∧ b ∈ D
theorem mem_opt {d : Option Nat} {b : Nat} (h : d = some b) : b ∈ d.toList := by rw [h]; simp
set_option maxHeartbeats 2000000 in
/-- WHATEVER GRAPH THAT CAN BE READ, OF TEXTS AND LISTS OF MODEST SIZE: the law answers true, and what was there is as it was. -/
theorem C_GraphMemory {w : World} {g : S_api_Graph} {root : Int} {xs : List S_api_Node} {ms : List Nd} {K : Bool → World → Prop} (h : GraphX w g.Nodes xs ms) (hs : Small ms) (hf : Fair ms) (k : ∀ w', Ext w w' → K true w') :
    cl1 Try.prog 3 [S_api_Graph.v g, .int .i64 root] w Value.bool K := by
  refine T_valiselaw14_GraphMemory g root (al_i fun hB1 hE1 => C_alive fun w2 hE2 => ⟨fun hn => (by cases hn), fun _ => ?_⟩)
  replace hB1 := hB1.ext hE2
  replace hE2 := hE1.trans hE2
  generalize hb1 : w.heap.size = b1 at hB1
  refine ldT_all (x := g) hB1.all (C_CopyGraph (h.ext hE2) hs fun s w3 kg ys ds es hE3 hO3 => al_i fun hB5 hE5 => ldT_all (x := (⟨s⟩ : S_api_Graph)) hB5.all ?_)
  replace hB1 := (hB1.ext hE3).ext hE5
  replace hE3 := (hE2.trans hE3).trans hE5
  have hO5 := hO3.ext hE5
  have hw2 := hE2.1
  have hOX := hO5.graphX
  -- the blocks of the copy lie below
  have hod : ∀ d ∈ ds, w.heap.size ≤ d ∧ d < w3.heap.size := fun d hd => by have := hO3.dk d hd; omega
  generalize hb5 : w3.heap.size = b5 at hB5 hod ⊢
  have hb5' : b5 < (w3.alloc (.cells (S_api_Graph.cells ⟨s⟩).toArray 24)).heap.size := by rw [← hb5]; simp
  generalize w3.alloc _ = w5 at hB1 hB5 hE3 hO5 hOX hb5' ⊢
  clear hO3 hE5
  refine C_graphTree (g := ⟨s⟩) hOX hs (fun e w6 hE6 hT => ?_) (fun ls sa w6 koa ysa DsA hE6 hT hLA hll => ?_)
  · refine ldT_all (x := (⟨s⟩ : S_api_Graph)) (hB5.ext hE6).all (C_graphTree (g := ⟨s⟩) (hOX.ext hE6) hs (fun e2 w7 hE7 hT2 => ?_) (fun ls sa w7 koa ysa DsA hE7 hT2 hLA hll => by cases (hT.det hT2).1))
    refine ldT_all (x := g) ((hB1.ext hE6).ext hE7).all (C_refTree (h.ext ((hE3.trans hE6).trans hE7)) hs hf (fun e3 w8 hE8 hT3 => ?_) (fun ls sa w8 koa ysa DsA hE8 hT3 hLA hll => by cases (hT.det hT3).1))
    refine ⟨fun _ => C_SameLines LinesX_nil LinesX_nil (fun w9 hE9 _ => ⟨fun hn => (by cases hn), fun _ => C_SameLines LinesX_nil LinesX_nil (fun w10 hE10 _ => ⟨fun hn => (by cases hn), fun _ => ⟨fun h0 => ?_, fun _ => k _ (((((hE3.trans hE6).trans hE7).trans hE8).trans hE9).trans hE10)⟩⟩) fun w10 hE10 hne => absurd rfl hne⟩) fun w9 hE9 hne => absurd rfl hne, fun hne => absurd (hT.det hT3).2 hne⟩
    have := hT.some_iff.1 h0
    cases this
  refine ldT_all (x := (⟨s⟩ : S_api_Graph)) (hB5.ext hE6).all (C_graphTree (g := ⟨s⟩) (hOX.ext hE6) hs (fun e2 w7 hE7 hT2 => by cases (hT.det hT2).1) (fun ls2 sb w7 kob ysb DsB hE7 hT2 hLB _ => ?_))
  cases (hT.det hT2).1
  refine ldT_all (x := g) ((hB1.ext hE6).ext hE7).all (C_refTree (h.ext ((hE3.trans hE6).trans hE7)) hs hf (fun e3 w8 hE8 hT3 => by cases (hT.det hT3).1) (fun ls3 sc w8 koc ysc DsC hE8 hT3 hLC _ => ?_))
  cases (hT.det hT3).1
  have hok := hT.ok hs hf hll
  have hA8 := (hLA.ext lnP_ext hE7).ext lnP_ext hE8
  have hB8 := hLB.ext lnP_ext hE8
  refine ⟨fun _ => C_SameLines (OwnL.linesX hA8) (OwnL.linesX hLC) (fun w9 hE9 _ => ⟨fun hn => (by cases hn), fun _ => C_SameLines ((OwnL.linesX hB8).ext hE9) ((OwnL.linesX hLC).ext hE9) (fun w10 hE10 _ => ⟨fun hn => (by cases hn), fun _ => ⟨fun _ => ?_, fun hne => absurd rfl hne⟩⟩) fun w10 hE10 hne => absurd rfl hne⟩) fun w9 hE9 hne => absurd rfl hne, fun hne => absurd rfl hne⟩
  have hE810 : Ext w8 w10 := hE9.trans hE10
  have hE510 : Ext w5 w10 := ((hE6.trans hE7).trans hE8).trans hE810
  have hAa : ∀ D ∈ DsA, ∀ b ∈ D, w5.heap.size ≤ b ∧ b < w6.heap.size := fun D hD b hb => (hLA.dk D hD b hb).2
  have hBb : ∀ D ∈ DsB, ∀ b ∈ D, w6.heap.size ≤ b ∧ b < w7.heap.size := fun D hD b hb => (hLB.dk D hD b hb).2
  have hz := hE6.1; have hz' := hE7.1; have hz8 := hE8.1; have hz10 := hE810.1
  have hA10 := hA8.ext lnP_ext hE810
  have hB10 := hB8.ext lnP_ext hE810
  have hC10 := (OwnL.linesX hLC).ext hE810
  have hinjA := hLA.inj; have hinjB := hLB.inj
  have hO10 := hO5.ext hE510
  have hB5' := hB5.ext hE510
  have hE10' := hE3.trans hE510
  clear hE9 hE10 hA8 hB8 hLA hLB hLC hO5 hB5 hB1 hE510 hE810 hOX hT hT2 hT3
  refine C_graphPlant1 (OwnL.linesX hA10) hok fun e w11 sg kn ysh DsH hm hE11 hP11 hO11 => al_i fun hB19 hE12 => ?_
  generalize hb19 : w11.heap.size = b19 at hB19
  have hHb : ∀ D ∈ DsH, ∀ b ∈ D, w10.heap.size ≤ b ∧ b < w11.heap.size := fun D hD b hb => (hO11.dk D hD b hb).2
  have hO12 := hO11.ext ndP_ext hE12
  have hE1012 := hE11.trans hE12
  refine C_refPlant1 (hC10.ext hE1012) hok fun e2 w13 sg2 kn2 ysh2 DsH2 hm2 hE13 hP13 hO13 => al_i fun hB22 hE14 => ?_
  cases hP11.det hP13
  have hE1014 := (hE1012.trans hE13).trans hE14
  have hB19' := (hB19.ext hE13).ext hE14
  have hH14 := (hO12.ext ndP_ext hE13).ext ndP_ext hE14
  have hdat := hP11.data hok
  refine ldT_all (x := (⟨sg⟩ : S_api_Graph)) hB19'.all (ldT_all (x := (⟨sg2⟩ : S_api_Graph)) hB22.all (C_SameGraph (OwnNd.graphX hH14) (OwnNd.graphX (hO13.ext ndP_ext hE14)) fun w15 hE15 => ⟨fun hn => (by cases hn), fun _ => al_i fun hB26 hE16 => ?_⟩))
  have hEL := hE1014.trans hE15
  have hAL := hA10.ext lnP_ext hEL
  have hBL := hB10.ext lnP_ext hEL
  have hOL := hO10.ext hEL
  have hHL := hH14.ext ndP_ext hE15
  have hgL := hB5'.ext hEL
  have hhL := hB19'.ext hE15
  have hEwL := hE10'.trans hEL
  have hL0 : Own (w15.alloc (.cells ([] : List Value).toArray 38)) ⟨some ⟨w15.heap.size, 0, none⟩, 0, 0⟩ w15.heap.size 38 1 [] := Own.new
  have hzE := hEL.1
  have hz11 := hE11.1
  have hw11 : w11.heap.size ≤ w15.heap.size := by have := hE12.1; have := hE13.1; have := hE14.1; have := hE15.1; omega
  have hw5 := hE3.1
  have hinjH := hHL.inj
  have hOA := OwnL.linesX hAL
  have hOB := OwnL.linesX hBL
  have hOG := hOL.graphX
  have hOH := OwnNd.graphX hHL
  have hinc := hOL.inc
  have hndO := hOL.nd
  have hly := hOL.ly
  have hld := hOL.ld
  have hle := hOL.le
  clear hE15 hE14 hE13 hE12 hE11 hE1012 hE1014 hB19 hB19' hB22 hO11 hO12 hO13 hH14 hA10 hB10 hO10 hC10 hB26 hE10' hB5' hEL
  have hLi0 : Li w w15 (w15.alloc (.cells ([] : List Value).toArray 38)) ⟨some ⟨w15.heap.size, 0, none⟩, 0, 0⟩ w15.heap.size [] [] (fun _ => []) (UA DsA DsB 0) :=
    ⟨hE16, hL0, Nat.le_refl _, rfl, fun q s d h => by simp at h, fun q b h => by simp at h, fun q q' b h => by simp at h⟩
  have hna := hOA.n; have hnb := hOB.n; have hng := hOG.n; have hnh := hOH.n
  refine ⟨fun sl v => ∃ kls ss dss C, Li w w15 v sl kls ss dss C (fun b => w5.heap.size ≤ b ∧ b < w7.heap.size) ∧ ss.length ≤ 16, ?_, ?_⟩
  rotate_left
  · -- the data of both trees
    refine ⟨fun sl i v => ∃ (q kls : Nat) (ss : List Sl) (dss : List (Option Nat)) (C : Nat → List Value), i = q ∧ q ≤ 8 ∧ q ≤ ls.length ∧ Li w w15 v sl kls ss dss C (UA DsA DsB q) ∧ ss.length = 2 * q, fun _ i _ => (8 - i).toNat, ⟨0, _, _, _, _, rfl, by omega, by omega, hLi0, rfl⟩, ?_⟩
    rintro sl _ v ⟨q, kls, ss, dss, C, rfl, hq8, hql, hLi, hss⟩
    have fin : ∃ kls ss dss C, Li w w15 v sl kls ss dss C (fun b => w5.heap.size ≤ b ∧ b < w7.heap.size) ∧ ss.length ≤ 16 := ⟨kls, ss, dss, C, hLi.mono fun b hb => by
      rcases hb with ⟨p, D, _, hD, hm⟩ | ⟨p, D, _, hD, hm⟩
      · have := hAa D (List.mem_of_getElem? hD) b hm; omega
      · have := hBb D (List.mem_of_getElem? hD) b hm; omega, by omega⟩
    refine ⟨fun hlt => ⟨fun hlt8 => ?_, fun _ => fin⟩, fun _ => fin⟩
    have hqlt : q < ls.length := by omega
    obtain ⟨ya, la, Da, hya, hla, hDa, hpa, da, hoa, hDda⟩ := hAL.at_ hqlt
    obtain ⟨yb, lb, Db, hyb, hlb, hDb, hpb, db, hob, hDdb⟩ := hBL.at_ hqlt
    rw [hla] at hlb; cases hlb
    have hlam := hok.data la (List.mem_of_getElem? hla)
    have hnda : ya.Data.n = la.data.length := (hoa.row (f := u8) (fun _ => rfl) (by decide)).n
    have hndb : yb.Data.n = la.data.length := (hob.row (f := u8) (fun _ => rfl) (by decide)).n
    refine (hOA.row.ext hLi.ext).ix hya fun c hc => ldL_at (i := 7) hc ⟨ya.Data, rfl, al_i fun hBx hEx => ?_⟩
    refine (hLi.up hEx).add hoa (by omega) (fun b hb => ⟨?_, ?_⟩) (src_lit (cs := slC ya.Data) rfl (by decide)) (by omega) fun s1 v1 kls1 C1 hLi1 => ?_
    · have hbD : b ∈ Da := by rw [hDda]; exact mem_opt hb
      have hr := hAa Da (List.mem_of_getElem? hDa) b hbD
      rintro (⟨p, D, hp, hD, hm⟩ | ⟨p, D, hp, hD, hm⟩)
      · have := hinjA p q D Da b hD hDa hm hbD; omega
      · have := hBb D (List.mem_of_getElem? hD) b hm; omega
    · have hbD : b ∈ Da := by rw [hDda]; exact mem_opt hb
      have hr := hAa Da (List.mem_of_getElem? hDa) b hbD
      omega
    refine (hOB.row.ext hLi1.ext).ix hyb fun c hc => ldL_at (i := 7) hc ⟨yb.Data, rfl, al_i fun hBy hEy => ?_⟩
    refine (hLi1.up hEy).add hob (by omega) (fun b hb => ⟨?_, ?_⟩) (src_lit (cs := slC yb.Data) rfl (by decide)) (by rw [List.length_append, List.length_singleton]; omega) fun s2 v2 kls2 C2 hLi2 => ?_
    · have hbD : b ∈ Db := by rw [hDdb]; exact mem_opt hb
      have hr := hBb Db (List.mem_of_getElem? hDb) b hbD
      rintro ((⟨p, D, hp, hD, hm⟩ | ⟨p, D, hp, hD, hm⟩) | hda)
      · have := hAa D (List.mem_of_getElem? hD) b hm; omega
      · have := hinjB p q D Db b hD hDb hm hbD; omega
      · have := hAa Da (List.mem_of_getElem? hDa) b (by rw [hDda]; exact mem_opt hda); omega
    · have hbD : b ∈ Db := by rw [hDdb]; exact mem_opt hb
      have hr := hBb Db (List.mem_of_getElem? hDb) b hbD
      omega
    refine ⟨⟨q + 1, kls2, _, _, C2, by rw [w64_id (by omega) (by omega)]; rfl, by omega, by omega, hLi2.mono fun b hb => ?_, by simp only [List.length_append, List.length_singleton]; omega⟩, by dsimp only; rw [w64_id (by omega) (by omega)]; omega⟩
    rcases hb with ((⟨p, D, hp, hD, hm⟩ | ⟨p, D, hp, hD, hm⟩) | hda) | hdb
    · exact .inl ⟨p, D, by omega, hD, hm⟩
    · exact .inr ⟨p, D, by omega, hD, hm⟩
    · exact .inl ⟨q, Da, by omega, hDa, by rw [hDda]; exact mem_opt hda⟩
    · exact .inr ⟨q, Db, by omega, hDb, by rw [hDdb]; exact mem_opt hdb⟩
  rintro sl v ⟨kls, ss, dss, C, hLi, hss⟩
  refine ⟨fun sl v => ∃ kls ss dss C, Li w w15 v sl kls ss dss C (fun b => b < w10.heap.size) ∧ ss.length ≤ 20, ?_, ?_⟩
  rotate_left
  · -- the data of the copy
    refine ⟨fun sl i v => ∃ (q kls : Nat) (ss : List Sl) (dss : List (Option Nat)) (C : Nat → List Value), i = q ∧ q ≤ 4 ∧ q ≤ ms.length ∧ Li w w15 v sl kls ss dss C (fun b => (w5.heap.size ≤ b ∧ b < w7.heap.size) ∨ ∃ p, p < q ∧ ds[p]? = some b) ∧ ss.length ≤ 16 + q, fun _ i _ => (4 - i).toNat, ⟨0, _, _, _, _, rfl, by omega, by omega, hLi.mono fun b hb => .inl hb, by omega⟩, ?_⟩
    clear hLi hss
    rintro sl _ v ⟨q, kls, ss, dss, C, rfl, hq4, hqm, hLi, hss⟩
    have fin : ∃ kls ss dss C, Li w w15 v sl kls ss dss C (fun b => b < w10.heap.size) ∧ ss.length ≤ 20 := ⟨kls, ss, dss, C, hLi.mono fun b hb => by
      rcases hb with hb | ⟨p, _, hp⟩
      · omega
      · have := hod b (List.mem_of_getElem? hp); omega, by omega⟩
    refine ldL_at (i := 0) (hgL.ext hLi.ext).all ⟨s, rfl, fun hlt => ⟨fun hlt4 => ?_, fun _ => fin⟩, fun _ => fin⟩
    have hqlt : q < ms.length := by have : (q : Int) < s.n := hlt; omega
    obtain ⟨x, m, hx, hm, hxm⟩ := hOG.node hqlt
    obtain ⟨d, hd⟩ : ∃ d, ds[q]? = some d := ⟨_, List.getElem?_eq_getElem (by omega)⟩
    obtain ⟨e', he'⟩ : ∃ e, es[q]? = some e := ⟨_, List.getElem?_eq_getElem (by omega)⟩
    have hown := (hndO q x m d e' hx hm hd he').2.1
    have hdm := hs.data m (List.mem_of_getElem? hm)
    have hnd : x.Data.n = m.data.length := hxm.data.n
    refine ldL_at (i := 0) (hgL.ext hLi.ext).all ⟨s, rfl, (hOG.row.ext hLi.ext).ix hx fun c hc => ldL_at (i := 7) hc ⟨x.Data, rfl, al_i fun hBx hEx => ?_⟩⟩
    refine (hLi.up hEx).add (d := some d) hown (by omega) (fun b hb => ?_) (src_lit (cs := slC x.Data) rfl (by decide)) (by omega) fun s1 v1 kls1 C1 hLi1 => ?_
    · cases hb
      have hdr := hod d (List.mem_of_getElem? hd)
      refine ⟨?_, by omega⟩
      rintro (hb | ⟨p, hp, hpd⟩)
      · omega
      · have h1 := some_lt hpd; have h2 := some_lt hd
        have := List.pairwise_iff_getElem.1 hinc p q h1 h2 hp
        rw [List.getElem?_eq_getElem h1] at hpd
        rw [List.getElem?_eq_getElem h2] at hd
        have e1 := Option.some.inj hpd; have e2 := Option.some.inj hd
        omega
    · refine ⟨⟨q + 1, kls1, _, _, C1, by rw [w64_id (by omega) (by omega)]; rfl, by omega, by omega, hLi1.mono fun b hb => ?_, by simp only [List.length_append, List.length_singleton]; omega⟩, by dsimp only; rw [w64_id (by omega) (by omega)]; omega⟩
      rcases hb with (hb | ⟨p, hp, hpd⟩) | hb
      · exact .inl hb
      · exact .inr ⟨p, by omega, hpd⟩
      · cases hb; exact .inr ⟨q, by omega, hd⟩
  clear hLi hss kls ss dss C sl v
  rintro sl v ⟨kls, ss, dss, C, hLi, hss⟩
  refine ⟨fun sl v => ∃ kls ss dss C U, Li w w15 v sl kls ss dss C U ∧ ss.length ≤ 24, ?_, ?_⟩
  · rintro sl v ⟨kls, ss, dss, C, U, hLi, hss⟩
    obtain ⟨h1, h2⟩ := hLi.ap hEwL (by omega)
    exact C_Apart h1 h2 fun w' hE' => k w' hE'
  · -- the data of the planted graph
    refine ⟨fun sl i v => ∃ (q kls : Nat) (ss : List Sl) (dss : List (Option Nat)) (C : Nat → List Value), i = q ∧ q ≤ 4 ∧ q ≤ hm.length ∧ Li w w15 v sl kls ss dss C (fun b => b < w10.heap.size ∨ ∃ p D, p < q ∧ DsH[p]? = some D ∧ b ∈ D) ∧ ss.length ≤ 20 + q, fun _ i _ => (4 - i).toNat, ⟨0, _, _, _, _, rfl, by omega, by omega, hLi.mono fun b hb => .inl hb, by omega⟩, ?_⟩
    clear hLi hss
    rintro sl _ v ⟨q, kls, ss, dss, C, rfl, hq4, hqm, hLi, hss⟩
    have fin : ∃ kls ss dss C U, Li w w15 v sl kls ss dss C U ∧ ss.length ≤ 24 := ⟨kls, ss, dss, C, _, hLi, by omega⟩
    refine ldL_at (i := 0) (hhL.ext hLi.ext).all ⟨sg, rfl, fun hlt => ⟨fun hlt4 => ?_, fun _ => fin⟩, fun _ => fin⟩
    have hqlt : q < hm.length := by have : (q : Int) < sg.n := hlt; omega
    obtain ⟨y, m, D, hy, hm', hD, hpy, d, e', hdd, hee, hDD, _⟩ := hHL.at_ hqlt
    have hdm := hdat m (List.mem_of_getElem? hm')
    have hnd : y.Data.n = m.data.length := (hdd.row (f := u8) (fun _ => rfl) (by decide)).n
    refine ldL_at (i := 0) (hhL.ext hLi.ext).all ⟨sg, rfl, (hOH.row.ext hLi.ext).ix hy fun c hc => ldL_at (i := 7) hc ⟨y.Data, rfl, al_i fun hBx hEx => ?_⟩⟩
    refine (hLi.up hEx).add hdd (by omega) (fun b hb => ?_) (src_lit (cs := slC y.Data) rfl (by decide)) (by omega) fun s1 v1 kls1 C1 hLi1 => ?_
    · have hbD : b ∈ D := by rw [hDD]; exact List.mem_append_left _ (mem_opt hb)
      have hr := hHb D (List.mem_of_getElem? hD) b hbD
      refine ⟨?_, by omega⟩
      rintro (hb | ⟨p, D', hp, hD', hm2⟩)
      · omega
      · have := hinjH p q D' D b hD' hD hm2 hbD; omega
    · refine ⟨⟨q + 1, kls1, _, _, C1, by rw [w64_id (by omega) (by omega)]; rfl, by omega, by omega, hLi1.mono fun b hb => ?_, by simp only [List.length_append, List.length_singleton]; omega⟩, by dsimp only; rw [w64_id (by omega) (by omega)]; omega⟩
      rcases hb with (hb | ⟨p, D', hp, hD', hm2⟩) | hb
      · exact .inl hb
      · exact .inr ⟨p, D', by omega, hD', hm2⟩
      · exact .inr ⟨q, D, by omega, hD, by rw [hDD]; exact List.mem_append_left _ (mem_opt hb)⟩
end Go.Proofs.Ytmmkhlalhalomaa
