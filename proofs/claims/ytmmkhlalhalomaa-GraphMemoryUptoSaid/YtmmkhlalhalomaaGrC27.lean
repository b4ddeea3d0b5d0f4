import Derived.Test.YtmmkhlalhalomaaGrC26
set_option linter.unusedVariables false
set_option linter.unusedSimpArgs false
set_option maxRecDepth 100000
namespace Go.Proofs.Ytmmkhlalhalomaa
open Go Go.Low
def slC (x : Sl) : List Value := [Sl.v x]
structure Ap (w0 v : World) (a0 : Sl) (kl : Nat) (ss : List Sl) (ds : List (Option Nat)) (C : Nat → List Value) : Prop where
  ext : Ext w0 v
  row : Own v a0 kl 38 1 (ss.flatMap slC)
  own : ∀ (q : Nat) s d, ss[q]? = some s → ds[q]? = some d → OwnO v s d 5 1 (C q)
structure ApS (w0 : World) (kl : Nat) (ss : List Sl) (ds : List (Option Nat)) : Prop where
  kl_ : w0.heap.size ≤ kl
  len : ss.length ≤ 1000
  ld : ds.length = ss.length
  sz : ∀ s ∈ ss, s.n ≤ 16777216
  inj : ∀ (q q' b : Nat), ds[q]? = some (some b) → ds[q']? = some (some b) → q = q'
  ge : ∀ (q b : Nat), ds[q]? = some (some b) → w0.heap.size ≤ b ∧ b ≠ kl
section
variable {w0 v v' : World} {a0 : Sl} {kl : Nat} {ss : List Sl} {ds : List (Option Nat)} {C : Nat → List Value}
theorem Ap.up (h : Ap w0 v a0 kl ss ds C) (x : Ext v v') : Ap w0 v' a0 kl ss ds C := ⟨h.ext.trans x, h.row.ext x, fun q s d h1 h2 => (h.own q s d h1 h2).ext x⟩
theorem Ap.ix (h : Ap w0 v a0 kl ss ds C) {q : Nat} {s : Sl} {K : Addr → Prop} (hs : ss[q]? = some s) (k : ∀ b, CellsAt v b 0 (slC s) → K b) : ix a0.p a0.n 1 (q : Int) K := (h.row.row (f := slC) (fun _ => rfl) (by decide)).ix hs k
theorem Ap.n (h : Ap w0 v a0 kl ss ds C) : a0.n = ss.length := (h.row.row (f := slC) (fun _ => rfl) (by decide)).n
/-- a change in list q's block alone -/
theorem Ap.upd (h : Ap w0 v a0 kl ss ds C) (hS : ApS w0 kl ss ds) {q b : Nat} {s : Sl} {cs : List Value} (hd : ds[q]? = some (some b)) (hs : ss[q]? = some s) (x : XtB b v v') (ho : Own v' s b 5 1 cs) : Ap w0 v' a0 kl ss ds (fun i => if i = q then cs else C i) := by
  have hg := hS.ge q b hd
  refine ⟨h.ext.xtb x hg.1, h.row.xtb x (Ne.symm hg.2), fun i s' d h1 h2 => ?_⟩
  by_cases e : i = q
  · subst e
    rw [hs] at h1; rw [hd] at h2; cases h1; cases h2
    rw [if_pos rfl]; exact ho
  · rw [if_neg e]
    exact (h.own i s' d h1 h2).xtb x fun e2 => e (hS.inj i q b (by rw [h2, e2]) hd)
end
def mk8 (i : Nat) : Int := IntKind.u8.wrap (w64 ((w64 (7 * (i : Int))) + 1))
def MkAll (ss : List Sl) (C : Nat → List Value) (i : Nat) : Prop := ∀ q, q < i → ∀ (t : Nat) c, (C q)[t]? = some c → c = .int .u8 (mk8 q)
set_option maxHeartbeats 1000000 in
theorem C_Apart {w0 w : World} {a0 : Sl} {kl : Nat} {ss : List Sl} {ds : List (Option Nat)} {C : Nat → List Value} {K : Bool → World → Prop} (h : Ap w0 w a0 kl ss ds C) (hS : ApS w0 kl ss ds) (k : ∀ w', Ext w0 w' → K true w') : cl1 Try.prog 12 [Sl.v a0] w Value.bool K := by
  have hn := h.n
  have hlen := hS.len
  have hld := hS.ld
  refine T_valiseref00_Apart a0 ?_
  -- each is written full
  refine ⟨fun i v => ∃ (q : Nat) (C : Nat → List Value), i = q ∧ q ≤ ss.length ∧ Ap w0 v a0 kl ss ds C ∧ MkAll ss C q, fun i _ => (ss.length - i).toNat, ⟨0, C, rfl, by omega, h, fun q hq => absurd hq (by omega)⟩, ?_⟩
  rintro _ v ⟨q, C, rfl, hq, hA, hM⟩
  refine ⟨fun hlt => ?_, fun hge => ?_⟩
  · have hqs : q < ss.length := by omega
    obtain ⟨s, hs⟩ : ∃ s, ss[q]? = some s := ⟨_, List.getElem?_eq_getElem hqs⟩
    obtain ⟨d, hd⟩ : ∃ d, ds[q]? = some d := ⟨_, List.getElem?_eq_getElem (by omega)⟩
    have hsz := hS.sz s (List.mem_of_getElem? hs)
    refine ⟨fun j v => ∃ (t : Nat) (C : Nat → List Value), j = t ∧ t ≤ s.n ∧ Ap w0 v a0 kl ss ds C ∧ MkAll ss C q ∧ ∀ (u : Nat) c, u < t → (C q)[u]? = some c → c = .int .u8 (mk8 q), fun j _ => (s.n - j).toNat, ⟨0, C, rfl, by omega, hA, hM, fun u c hu => absurd hu (by omega)⟩, ?_⟩
    rintro _ v1 ⟨t, C1, rfl, ht, hA1, hM1, hm1⟩
    refine hA1.ix hs fun b hb => ldL_at (i := 0) hb ⟨s, rfl, fun hlt2 => ?_, fun hge2 => ?_⟩
    · refine hA1.ix hs fun b2 hb2 => ldL_at (i := 0) hb2 ⟨s, rfl, ?_⟩
      have ho := hA1.own q s d hs hd
      have hon := ho.n
      cases d with
      | none => obtain ⟨rfl, _⟩ := ho; exact absurd hlt2 (show ¬ ((t : Int) < ((0 : Nat) : Int)) by omega)
      | some bk =>
        have ho' : Own v1 s bk 5 1 (C1 q) := ho
        refine ho'.ixS (by omega) (ho'.stS (by omega) fun v2 ho2 hX2 hz2 => ⟨⟨t + 1, _, by rw [w64_id (by omega) (by omega)]; rfl, by omega, hA1.upd hS hd hs hX2 ho2, fun q' hq' u c hu => ?_, fun u c hu hc => ?_⟩, by dsimp only; rw [w64_id (by omega) (by omega)]; omega⟩)
        · simp only [if_neg (show ¬ q' = q by omega)] at hu
          exact hM1 q' hq' u c hu
        · simp only [if_pos] at hc
          by_cases e : t = u
          · subst e
            rw [List.getElem?_set_self (by omega)] at hc
            cases hc; rfl
          · rw [List.getElem?_set_ne e] at hc
            exact hm1 u c (by omega) hc
    · refine ⟨⟨q + 1, C1, by rw [w64_id (by omega) (by omega)]; rfl, by omega, hA1, fun q' hq' u c hu => ?_⟩, by dsimp only; rw [w64_id (by omega) (by omega)]; omega⟩
      by_cases e : q' = q
      · subst e
        have hon := (hA1.own q' s d hs hd).n
        exact hm1 u c (by have := some_lt hu; omega) hu
      · exact hM1 q' (by omega) u c hu
  have hqs : q = ss.length := by omega
  subst hqs
  -- each is grown
  refine ⟨fun _ i v => ∃ q : Nat, i = q ∧ q ≤ ss.length ∧ Ap w0 v a0 kl ss ds C, fun _ i _ => (ss.length - i).toNat, ⟨0, rfl, by omega, hA⟩, ?_⟩
  clear hA hge v
  rintro _ _ v ⟨q, rfl, hq, hA⟩
  refine ⟨fun hlt => ?_, fun hge => ?_⟩
  · have hqs : q < ss.length := by omega
    obtain ⟨s, hs⟩ : ∃ s, ss[q]? = some s := ⟨_, List.getElem?_eq_getElem hqs⟩
    obtain ⟨d, hd⟩ : ∃ d, ds[q]? = some d := ⟨_, List.getElem?_eq_getElem (by omega)⟩
    have hsz := hS.sz s (List.mem_of_getElem? hs)
    refine hA.ix hs fun b hb => ldL_at (i := 0) hb ⟨s, rfl, ?_⟩
    refine ⟨fun one j v => ∃ (t : Nat) (nw : List Value), j = t ∧ t ≤ 16 ∧ nw.length = t ∧ Ap w0 v a0 kl ss ds C ∧ one.n = s.n + t ∧ ((one = ⟨s.p, s.n + t, s.c⟩ ∧ OwnO v one d 5 1 (C q ++ nw)) ∨ ∃ k', Own v one k' 5 1 (C q ++ nw) ∧ w0.heap.size ≤ k' ∧ k' ≠ kl ∧ ∀ i : Nat, ds[i]? ≠ some (some k')), fun _ j _ => (16 - j).toNat,
      ⟨0, [], rfl, by omega, rfl, hA, rfl, .inl ⟨rfl, by rw [List.append_nil]; exact hA.own q s d hs hd⟩⟩, ?_⟩
    rintro one _ v1 ⟨t, nw, rfl, ht, hnl, hA1, hon, hone⟩
    refine ⟨fun hlt2 => al_i fun hB hE => ?_, fun hge2 => ?_⟩
    · have hA2 := hA1.up hE
      have hsrc := src_lit (w := v1) (e := 5) (sz := 1) (n := 1) (cs := [.int .u8 (IntKind.u8.wrap (w64 (128 + (q : Int))))]) rfl (by decide)
      have hB1 := hE.1
      have hfresh : ∀ i : Nat, ds[i]? ≠ some (some (v1.alloc (.cells [Value.int .u8 (IntKind.u8.wrap (w64 (128 + (q : Int))))].toArray 5)).heap.size) := fun i hi => by
        obtain ⟨si, hsi⟩ : ∃ s, ss[i]? = some s := ⟨_, List.getElem?_eq_getElem (by have := some_lt hi; omega)⟩
        have := (hA2.own i si _ hsi hi).lt _ rfl; omega
      have hkl := hA2.row.lt
      have hw2 := hA2.ext.1
      have fin : ∀ s' w', Ext (v1.alloc (.cells [Value.int .u8 (IntKind.u8.wrap (w64 (128 + (q : Int))))].toArray 5)) w' → Own w' s' (v1.alloc (.cells [Value.int .u8 (IntKind.u8.wrap (w64 (128 + (q : Int))))].toArray 5)).heap.size 5 1 ((C q ++ nw) ++ [.int .u8 (IntKind.u8.wrap (w64 (128 + (q : Int))))]) → s'.n = one.n + 1 → _ := fun s' w' hX ho hn' => (show (∃ (t' : Nat) (nw : List Value), w64 ((t : Int) + 1) = t' ∧ t' ≤ 16 ∧ nw.length = t' ∧ Ap w0 w' a0 kl ss ds C ∧ s'.n = s.n + t' ∧ ((s' = ⟨s.p, s.n + t', s.c⟩ ∧ OwnO w' s' d 5 1 (C q ++ nw)) ∨ ∃ k', Own w' s' k' 5 1 (C q ++ nw) ∧ w0.heap.size ≤ k' ∧ k' ≠ kl ∧ ∀ i : Nat, ds[i]? ≠ some (some k'))) ∧ (16 - w64 ((t : Int) + 1)).toNat < (16 - (t : Int)).toNat from
        ⟨⟨t + 1, nw ++ [_], by rw [w64_id (by omega) (by omega)]; rfl, by omega, by simp [hnl], hA2.up hX, by omega, .inr ⟨_, by rw [← List.append_assoc]; exact ho, hw2, by omega, hfresh⟩⟩, by rw [w64_id (by omega) (by omega)]; omega⟩)
      rcases hone with ⟨hoe, ho⟩ | ⟨k', ho, hk1, hk2, hk3⟩
      · cases d with
        | none =>
          obtain ⟨rfl, hcs⟩ := ho
          have hcn := hcs
          refine nil_app2 (m := 1) hsrc rfl (by simp [Value.oneCell']) rfl (by decide) (by decide) (by decide) fun s' w' hX ho' hn' => fin s' w' hX (by rw [hcs]; exact ho') hn'
        | some bk =>
          have ho2 : Own (v1.alloc (.cells [Value.int .u8 (IntKind.u8.wrap (w64 (128 + (q : Int))))].toArray 5)) one bk 5 1 (C q ++ nw) := (show Own v1 one bk 5 1 (C q ++ nw) from ho).ext hE
          refine Own_app2 (m := 1) ho2 hsrc rfl (by simp [Value.oneCell']) rfl (by omega) (by omega) (fun w' hX hz ho' => ?_) fin
          have hos := hA2.own q s _ hs hd
          have hos' : Own _ s bk 5 1 (C q) := hos
          rw [hoe] at ho' ⊢
          refine ⟨⟨t + 1, nw ++ [_], by rw [w64_id (by omega) (by omega)]; rfl, by omega, by simp [hnl], ?_, rfl, .inl ⟨rfl, by rw [← List.append_assoc]; exact ho'⟩⟩, by dsimp only; rw [w64_id (by omega) (by omega)]; omega⟩
          have hsO : Own w' s bk 5 1 (C q) := by
            rw [List.append_assoc] at ho'
            exact Own_trunc ho' hos'.n hos'.nc
          have := hA2.upd hS hd hs hX hsO
          have e : (fun i => if i = q then C q else C i) = C := by funext i; by_cases e : i = q <;> simp [e]
          rwa [e] at this
      · refine Own_app2 (m := 1) (ho.ext hE) hsrc rfl (by simp [Value.oneCell']) rfl (by omega) (by omega) (fun w' hX hz ho' => ?_) fin
        refine ⟨⟨t + 1, nw ++ [_], by rw [w64_id (by omega) (by omega)]; rfl, by omega, by simp [hnl], ⟨hA2.ext.xtb hX hk1, hA2.row.xtb hX (Ne.symm hk2), fun i si d' h1 h2 => (hA2.own i si d' h1 h2).xtb hX fun e => hk3 i (by rw [h2, e])⟩, by show one.n + 1 = _; omega, .inr ⟨k', by rw [← List.append_assoc]; exact ho', hk1, hk2, hk3⟩⟩, by dsimp only; rw [w64_id (by omega) (by omega)]; omega⟩
    · refine hA1.ix hs fun b2 hb2 => ldL_at (i := 0) hb2 ⟨s, rfl, ?_⟩
      refine apz_i (k := 600) (hA1.own q s d hs hd) (by omega) fun r v2 hsame hz2 hoo hO2 hrn => ?_
      have hA2 : Ap w0 v2 a0 kl ss ds C := by
        have hw := hA1.ext.1
        refine ⟨⟨by omega, fun j hj => ?_, hoo.1.trans hA1.ext.os, hoo.2.trans hA1.ext.out⟩, Own_same hA1.row (hsame kl hA1.row.lt fun e => (hS.ge q kl (by rw [hd, e])).2 rfl), fun i si d' h1 h2 => ?_⟩
        · rw [hsame j (by omega) (fun e => by have := (hS.ge q j (by rw [hd, e])).1; omega), hA1.ext.2 j hj]
        · by_cases e : i = q
          · subst e
            rw [hs] at h1; rw [hd] at h2; cases h1; cases h2
            exact hO2
          · have ho := hA1.own i si d' h1 h2
            cases d' with
            | none => exact ho
            | some bi =>
              have ho' : Own v1 si bi 5 1 (C i) := ho
              exact Own_same ho' (hsame bi ho'.lt fun e2 => e (hS.inj i q bi h2 (by rw [hd, e2])))
      refine hA2.ix hs fun b3 hb3 => ldL_at (i := 0) hb3 ⟨s, rfl, fun _ => hA2.ix hs fun b4 hb4 => ldL_at (i := 0) hb4 ⟨s, rfl, fun _ => ?_, fun hne => ?_⟩, fun hne => ?_⟩
      · exact ⟨⟨q + 1, by rw [w64_id (by omega) (by omega)]; rfl, by omega, hA2⟩, by dsimp only; rw [w64_id (by omega) (by omega)]; omega⟩
      · exact absurd (by rw [w64_id (by omega) (by omega)]; omega) hne
      · exact absurd (by rw [w64_id (by omega) (by omega)]; omega) hne
  -- all are looked at
  refine ⟨fun _ i v' => v' = v ∧ ∃ q : Nat, i = q ∧ q ≤ ss.length, fun _ i _ => (ss.length - i).toNat, ⟨rfl, 0, rfl, by omega⟩, ?_⟩
  rintro _ _ v' ⟨rfl, p, rfl, hp⟩
  refine ⟨fun hlt => ?_, fun hge2 => k _ hA.ext⟩
  obtain ⟨s, hs⟩ : ∃ s, ss[p]? = some s := ⟨_, List.getElem?_eq_getElem (by omega)⟩
  obtain ⟨d, hd⟩ : ∃ d, ds[p]? = some d := ⟨_, List.getElem?_eq_getElem (by omega)⟩
  have hsz := hS.sz s (List.mem_of_getElem? hs)
  refine ⟨fun _ j v2 => v2 = v' ∧ ∃ t : Nat, j = t ∧ t ≤ s.n, fun _ j _ => (s.n - j).toNat, ⟨rfl, 0, rfl, by omega⟩, ?_⟩
  rintro _ _ v2 ⟨rfl, t, rfl, ht⟩
  refine hA.ix hs fun b hb => ldL_at (i := 0) hb ⟨s, rfl, fun hlt2 => hA.ix hs fun b2 hb2 => ldL_at (i := 0) hb2 ⟨s, rfl, ?_⟩, fun hge3 => ⟨⟨rfl, p + 1, by rw [w64_id (by omega) (by omega)]; rfl, by omega⟩, by dsimp only; rw [w64_id (by omega) (by omega)]; omega⟩⟩
  have ho := hA.own p s d hs hd
  have hon := ho.n
  cases d with
  | none => obtain ⟨rfl, _⟩ := ho; exact absurd hlt2 (show ¬ ((t : Int) < ((0 : Nat) : Int)) by omega)
  | some bk =>
    have ho' : Own v2 s bk 5 1 (C p) := ho
    obtain ⟨c, hc⟩ : ∃ c, (C p)[t]? = some c := ⟨_, List.getElem?_eq_getElem (by omega)⟩
    have hcm := hM p (by omega) t c hc
    subst hcm
    exact ho'.ixS (by omega) ⟨_, ho'.cellS hc, fun _ => ⟨⟨rfl, t + 1, by rw [w64_id (by omega) (by omega)]; rfl, by omega⟩, by dsimp only; rw [w64_id (by omega) (by omega)]; omega⟩, fun hne => absurd rfl hne⟩
end Go.Proofs.Ytmmkhlalhalomaa
