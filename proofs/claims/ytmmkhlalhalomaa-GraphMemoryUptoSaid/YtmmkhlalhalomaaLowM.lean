import Derived.Test.YtmmkhlalhalomaaLowR
set_option linter.unusedVariables false
set_option linter.unusedSectionVars false
set_option linter.unusedSimpArgs false
/-! Maps as lists of pairs. -/
namespace Go.Low
open Go
open Go.MapKept (IsKey)
/-- a kind of keys -/
structure KeyKind (κ : Type) [DecidableEq κ] where
  td : TypeDesc
  val : κ → Value
  key : ∀ x, IsKey td (val x)
  is : ∀ x y, keyIs (val x) (val y) = decide (x = y)
def kInt : KeyKind Int := ⟨.int .i64, .int .i64, fun _ => rfl, fun x y => by
  show (IntKind.i64 == IntKind.i64 && x == y) = decide (x = y)
  by_cases h : x = y <;> simp [h]⟩
def kStr : KeyKind ByteArray := ⟨.string, .string, fun _ => trivial, fun x y => rfl⟩
def aget {κ α : Type} [DecidableEq κ] : List (κ × α) → κ → Option α
  | [], _ => none
  | (k, v) :: r, x => if k = x then some v else aget r x
def aput {κ α : Type} [DecidableEq κ] : List (κ × α) → κ → α → List (κ × α)
  | [], x, y => [(x, y)]
  | (k, v) :: r, x, y => if k = x then (k, y) :: r else (k, v) :: aput r x y
section
variable {κ α : Type} [DecidableEq κ]
theorem aget_put (es : List (κ × α)) (x : κ) (y : α) (z : κ) : aget (aput es x y) z = if z = x then some y else aget es z := by
  induction es with
  | nil => simp only [aput, aget]; by_cases h : x = z <;> simp [h, Ne.symm, eq_comm]
  | cons e r ih =>
    obtain ⟨k, v⟩ := e
    simp only [aput]
    by_cases h : k = x
    · subst h
      simp only [if_true, aget]
      by_cases h2 : k = z
      · simp [h2]
      · simp [h2, Ne.symm h2]
    · simp only [if_neg h, aget, ih]
      by_cases h2 : k = z
      · subst h2; simp [h]
      · simp [h2]
structure MapAt (w : World) (b : Nat) (kk : KeyKind κ) (mv : α → Value) (es : List (κ × α)) : Prop where
  obj : ∃ arr c, w.heap[b]? = some (.map arr c) ∧ arr.toList.map (fun e => (e.key, e.val)) = es.map (fun e => (kk.val e.1, mv e.2)) ∧ (arr.toList.map (·.born)).Nodup ∧ ∀ e ∈ arr.toList, e.born < c
  nodup : (es.map (·.1)).Nodup
variable {w w' : World} {b B : Nat} {kk : KeyKind κ} {mv : α → Value} {es : List (κ × α)}
theorem MapAt.lt (h : MapAt w b kk mv es) : b < w.heap.size := by
  obtain ⟨arr, c, h1, _⟩ := h.obj
  exact (Array.getElem?_eq_some_iff.1 h1).1
theorem MapAt.xtb (h : MapAt w b kk mv es) (x : XtB B w w') (hB : b ≠ B) : MapAt w' b kk mv es := by
  have hlt := h.lt
  obtain ⟨⟨arr, c, h1, h2⟩, h3⟩ := h
  exact ⟨⟨arr, c, by rw [x.2 b hlt hB]; exact h1, h2⟩, h3⟩
theorem MapAt.ext (h : MapAt w b kk mv es) (x : Ext w w') : MapAt w' b kk mv es := by
  have hlt := h.lt
  obtain ⟨⟨arr, c, h1, h2⟩, h3⟩ := h
  exact ⟨⟨arr, c, by rw [x.2 b hlt]; exact h1, h2⟩, h3⟩
theorem mgetI_of (kk : KeyKind κ) (mv : α → Value) (x : κ) : ∀ (l : List MapEntry) (es : List (κ × α)) (i : Nat), l.map (fun e => (e.key, e.val)) = es.map (fun e => (kk.val e.1, mv e.2)) → (mgetI l (kk.val x) i).map (·.2) = (aget es x).map mv
  | [], [], _, _ => rfl
  | [], _ :: _, _, h => by simp at h
  | _ :: _, [], _, h => by simp at h
  | e :: l, (k, v) :: es, i, h => by
    simp only [List.map_cons, List.cons.injEq, Prod.mk.injEq] at h
    obtain ⟨⟨h1, h2⟩, h3⟩ := h
    simp only [mgetI, h1, kk.is, aget]
    by_cases e : k = x
    · simp [e, h2]
    · simp only [e, decide_false, Bool.false_eq_true, if_false]
      exact mgetI_of kk mv x l es (i + 1) h3
theorem MapAt.mes (h : MapAt w b kk mv es) : ∃ arr, mes w kk.td (some b) arr ∧ (∀ x, mget arr (kk.val x) = (aget es x).map mv) ∧ arr.size = es.length := by
  obtain ⟨⟨arr, c, h1, h2, _⟩, h3⟩ := h
  refine ⟨arr, ⟨.inr ⟨b, c, rfl, h1⟩, fun e he => ?_⟩, fun x => mgetI_of kk mv x _ es 0 h2, ?_⟩
  · have : (e.key, e.val) ∈ arr.toList.map (fun e => (e.key, e.val)) := List.mem_map.2 ⟨e, he, rfl⟩
    rw [h2] at this
    obtain ⟨p, _, hp⟩ := List.mem_map.1 this
    have := (Prod.mk.inj hp).1
    rw [← this]
    exact kk.key _
  · have := congrArg List.length h2
    simpa using this
theorem lk_i {x : κ} {z : α} {K : α → Prop} (h : MapAt w b kk mv es) (hK : K ((aget es x).getD z)) : lk w kk.td (some b) (kk.val x) mv z K := by
  obtain ⟨arr, h1, h2, _⟩ := h.mes
  refine ⟨arr, _, h1, ?_, hK⟩
  rw [h2]
  cases aget es x <;> rfl
theorem lkk_i {x : κ} {z : α} {K : α → Bool → Prop} (h : MapAt w b kk mv es) (hK : K ((aget es x).getD z) (aget es x).isSome) : lkk w kk.td (some b) (kk.val x) mv z K := by
  obtain ⟨arr, h1, h2, _⟩ := h.mes
  refine ⟨arr, (aget es x).getD z, h1, ?_, ?_⟩
  · rw [h2]; cases aget es x <;> rfl
  · rw [h2]; cases hq : aget es x <;> rw [hq] at hK <;> exact hK
theorem lm_i {K : Int → Prop} (h : MapAt w b kk mv es) (hK : K es.length) : lm w kk.td (some b) K := by
  obtain ⟨arr, h1, _, h3⟩ := h.mes
  exact ⟨arr, h1, by rw [h3]; exact hK⟩
theorem mk_i {K : Nat → World → Prop} (kk : KeyKind κ) (mv : α → Value) (hK : MapAt (w.alloc (.map #[] 0)) w.heap.size kk mv [] → Ext w (w.alloc (.map #[] 0)) → K w.heap.size (w.alloc (.map #[] 0))) : mk w K :=
  hK ⟨⟨#[], 0, by rw [heap_alloc, if_pos rfl], rfl, List.nodup_nil, fun e he => by simp at he⟩, List.nodup_nil⟩ ((Ext.refl w).alloc _)
theorem aput_keys (es : List (κ × α)) (x : κ) (y : α) : (aput es x y).map (·.1) = if x ∈ es.map (·.1) then es.map (·.1) else es.map (·.1) ++ [x] := by
  induction es with
  | nil => simp [aput]
  | cons e r ih =>
    obtain ⟨k, v⟩ := e
    simp only [aput]
    by_cases h : k = x
    · subst h; simp
    · simp only [if_neg h, List.map_cons, ih, List.mem_cons, Ne.symm h, false_or]
      split <;> simp
theorem aput_nodup {es : List (κ × α)} {x : κ} {y : α} (h : (es.map (·.1)).Nodup) : ((aput es x y).map (·.1)).Nodup := by
  rw [aput_keys]
  split
  · exact h
  · rename_i hx
    rw [List.nodup_append]
    exact ⟨h, by simp, fun a ha b hb e => hx (by rw [List.mem_singleton.1 hb] at e; exact e ▸ ha)⟩
theorem put_list (kk : KeyKind κ) (mv : α → Value) (x : κ) (y : α) (c : Nat) : ∀ (l : List MapEntry) (es : List (κ × α)) (i : Nat), l.map (fun e => (e.key, e.val)) = es.map (fun e => (kk.val e.1, mv e.2)) →
    (∀ j u, mgetI l (kk.val x) i = some (j, u) → ∃ q, j = i + q ∧ (l.modify q fun (e : MapEntry) => ({ e with key := kk.val x, val := mv y } : MapEntry)).map (fun (e : MapEntry) => (e.key, e.val)) = (aput es x y).map (fun e => (kk.val e.1, mv e.2))) ∧
    (mgetI l (kk.val x) i = none → (l ++ [({ key := kk.val x, val := mv y, born := c } : MapEntry)]).map (fun (e : MapEntry) => (e.key, e.val)) = (aput es x y).map (fun e => (kk.val e.1, mv e.2)))
  | [], [], i, _ => ⟨fun j u h => by simp [mgetI] at h, fun _ => rfl⟩
  | [], _ :: _, _, h => by simp at h
  | _ :: _, [], _, h => by simp at h
  | e :: l, (k, v) :: es, i, h => by
    simp only [List.map_cons, List.cons.injEq, Prod.mk.injEq] at h
    obtain ⟨⟨h1, h2⟩, h3⟩ := h
    have ih := put_list kk mv x y c l es (i + 1) h3
    simp only [mgetI, h1, kk.is, aput]
    by_cases hk : k = x
    · subst hk
      refine ⟨fun j u hj => ?_, fun hn => by simp at hn⟩
      simp at hj
      refine ⟨0, by omega, ?_⟩
      simp [h3]
    · simp only [hk, decide_false, Bool.false_eq_true, if_false]
      refine ⟨fun j u hj => ?_, fun hn => ?_⟩
      · obtain ⟨q, hq, he⟩ := ih.1 j u hj
        refine ⟨q + 1, by omega, ?_⟩
        simp only [List.modify_succ_cons, List.map_cons, he, h1, h2]
      · have := ih.2 hn
        simp only [List.cons_append, List.map_cons, h1, h2]
        rw [this]
theorem born_modify (l : List MapEntry) (q : Nat) (k v : Value) : (l.modify q fun e => { e with key := k, val := v }).map (·.born) = l.map (·.born) := by
  induction l generalizing q with
  | nil => cases q <;> rfl
  | cons e r ih =>
    cases q with
    | zero => rfl
    | succ q => simp only [List.modify_succ_cons, List.map_cons, ih]
theorem mu_i {x : κ} {y : α} {K : World → Prop} (h : MapAt w b kk mv es) (k : ∀ w', MapAt w' b kk mv (aput es x y) → XtB b w w' → w'.heap.size = w.heap.size → K w') : mu w kk.td (some b) (kk.val x) (mv y) K := by
  have hlt := h.lt
  obtain ⟨⟨arr, c, h1, h2, h3, h4⟩, h5⟩ := h
  refine ⟨b, arr, c, rfl, h1, fun e he => ?_, ?_⟩
  · have : (e.key, e.val) ∈ arr.toList.map (fun e => (e.key, e.val)) := List.mem_map.2 ⟨e, he, rfl⟩
    rw [h2] at this
    obtain ⟨p, _, hp⟩ := List.mem_map.1 this
    have := (Prod.mk.inj hp).1
    rw [← this]
    exact kk.key _
  · have hp := put_list kk mv x y c arr.toList es 0 h2
    have hX : ∀ o, XtB b w (w.put b o) := fun o => XtB.put (b := ⟨b, 0, none⟩) o rfl
    have hbl : ∀ o, (w.put b o).heap[b]? = some o := fun o => by rw [heap_put, if_pos ⟨rfl, hlt⟩]
    refine k _ ⟨?_, aput_nodup h5⟩ (hX _) (by simp)
    unfold mset
    cases hq : mgetI arr.toList (kk.val x) 0 with
    | none =>
      refine ⟨_, _, hbl _, ?_, ?_, ?_⟩
      · rw [Array.toList_push]; exact hp.2 hq
      · rw [Array.toList_push, List.map_append, List.nodup_append]
        refine ⟨h3, by simp, fun a ha d hd e => ?_⟩
        obtain ⟨m, hm, rfl⟩ := List.mem_map.1 ha
        have := h4 m hm
        simp at hd
        omega
      · intro e he
        rw [Array.toList_push] at he
        rcases List.mem_append.1 he with he | he
        · have := h4 e he; omega
        · rw [List.mem_singleton.1 he]; exact Nat.lt_succ_self _
    | some p =>
      obtain ⟨j, u⟩ := p
      obtain ⟨q, hq', he⟩ := hp.1 j u hq
      have : j = q := by omega
      subst this
      refine ⟨_, _, hbl _, ?_, ?_, ?_⟩
      · rw [Array.toList_modify]; exact he
      · rw [Array.toList_modify, born_modify]; exact h3
      · intro e he2
        rw [Array.toList_modify] at he2
        have : e.born ∈ (arr.toList.modify j fun e => { e with key := kk.val x, val := mv y }).map (·.born) := List.mem_map.2 ⟨e, he2, rfl⟩
        rw [born_modify] at this
        obtain ⟨m, hm, hb⟩ := List.mem_map.1 this
        rw [← hb]
        exact h4 m hm
/-! ### walks over a map -/
def IterAt (w : World) (r b : Nat) (kk : KeyKind κ) (mv : α → Value) (es : List (κ × α)) (dn : List κ) (left : Nat) : Prop :=
  ∃ (arr : Array MapEntry) (c : Nat) (seen : Array Nat) (since c0 : Nat), since ≤ c ∧ w.heap[r]? = some (.mapIter (some b) since seen c0) ∧ w.heap[b]? = some (.map arr c) ∧ arr.toList.map (fun e => (e.key, e.val)) = es.map (fun e => (kk.val e.1, mv e.2)) ∧ (arr.toList.map (·.born)).Nodup ∧
    (∀ e ∈ arr.toList, e.born < since) ∧ since ≤ c0 ∧ left = (leftOf arr seen).size ∧ ∀ e ∈ arr.toList, seen.contains e.born = true → ∃ x ∈ dn, e.key = kk.val x
def EntAt (w : World) (r b : Nat) (kk : KeyKind κ) (mv : α → Value) (x : κ) (v : α) : Prop :=
  ∃ (arr : Array MapEntry) (c : Nat) (seen : Array Nat) (since : Nat) (e : MapEntry), w.heap[r]? = some (.mapIter (some b) since (seen.push e.born) c) ∧ w.heap[b]? = some (.map arr c) ∧ e ∈ arr.toList ∧ (arr.toList.map (·.born)).Nodup ∧ e.key = kk.val x ∧ e.val = mv v
theorem IterAt.xtb {r left : Nat} {dn : List κ} (h : IterAt w r b kk mv es dn left) (x : XtB B w w') (hr : r ≠ B) (hb : b ≠ B) : IterAt w' r b kk mv es dn left := by
  obtain ⟨arr, c, seen, since, c0, h0, h1, h2, h3⟩ := h
  exact ⟨arr, c, seen, since, c0, h0, by rw [x.2 r (Array.getElem?_eq_some_iff.1 h1).1 hr]; exact h1, by rw [x.2 b (Array.getElem?_eq_some_iff.1 h2).1 hb]; exact h2, h3⟩
theorem IterAt.ext {r left : Nat} {dn : List κ} (h : IterAt w r b kk mv es dn left) (x : Ext w w') : IterAt w' r b kk mv es dn left := by
  obtain ⟨arr, c, seen, since, c0, h0, h1, h2, h3⟩ := h
  exact ⟨arr, c, seen, since, c0, h0, by rw [x.2 r (Array.getElem?_eq_some_iff.1 h1).1]; exact h1, by rw [x.2 b (Array.getElem?_eq_some_iff.1 h2).1]; exact h2, h3⟩
theorem rgm_i {K : Nat → World → Prop} (h : MapAt w b kk mv es) (hK : ∀ w', IterAt w' w.heap.size b kk mv es [] es.length → Ext w w' → w'.heap.size = w.heap.size + 1 → K w.heap.size w') : rgm w (some b) K := by
  have hlt := h.lt
  obtain ⟨⟨arr, c, h1, h2, h3, h4⟩, h5⟩ := h
  refine ⟨arr, c, fun h => (by cases h), fun b' hb' => (by cases hb'; exact h1), hK _ ⟨arr, c, #[], c, c, Nat.le_refl _, by rw [heap_alloc, if_pos rfl], by rw [heap_alloc, if_neg (by omega)]; exact h1, h2, h3, h4, Nat.le_refl _, ?_, fun e _ he => by simp at he⟩ ((Ext.refl w).alloc _) (by simp)⟩
  have : leftOf arr #[] = arr := by simp [leftOf]
  rw [this]
  have := congrArg List.length h2
  simpa using this.symm
theorem pair_mem {arr : Array MapEntry} {e : MapEntry} (h2 : arr.toList.map (fun e => (e.key, e.val)) = es.map (fun e => (kk.val e.1, mv e.2))) (he : e ∈ arr.toList) : ∃ x v, (x, v) ∈ es ∧ e.key = kk.val x ∧ e.val = mv v := by
  have : (e.key, e.val) ∈ arr.toList.map (fun e => (e.key, e.val)) := List.mem_map.2 ⟨e, he, rfl⟩
  rw [h2] at this
  obtain ⟨p, hp, hpe⟩ := List.mem_map.1 this
  have := Prod.mk.inj hpe
  exact ⟨p.1, p.2, hp, this.1.symm, this.2.symm⟩
theorem nxm_i {r left : Nat} {dn : List κ} {Kd : World → Prop} {Km : κ → α → World → Prop} (h : IterAt w r b kk mv es dn left) (hrb : r ≠ b) (kd : (∀ x v, (x, v) ∈ es → x ∈ dn) → Kd w)
    (km : ∀ x v w' left', (x, v) ∈ es → XtB r w w' → w'.heap.size = w.heap.size → IterAt w' r b kk mv es (x :: dn) left' → left' < left → EntAt w' r b kk mv x v → Km x v w') : nxm w ⟨r, 0, none⟩ kk.val mv Kd Km := by
  obtain ⟨arr, c, seen, since, c0, hsc, h1, h2, h3, h4, h5, h6, rfl, h8⟩ := h
  have hr := (Array.getElem?_eq_some_iff.1 h1).1
  refine ⟨b, since, seen, c0, arr, c, rfl, h1, h2, h5, h6, fun h0 => kd fun x v hx => ?_, fun e he => ?_⟩
  · have : (kk.val x, mv v) ∈ es.map (fun e => (kk.val e.1, mv e.2)) := List.mem_map.2 ⟨(x, v), hx, rfl⟩
    rw [← h3] at this
    obtain ⟨e, he, hee⟩ := List.mem_map.1 this
    obtain ⟨y, hy, hk⟩ := h8 e he (all_seen arr seen h0 e he)
    have hk2 := (Prod.mk.inj hee).1
    have h9 := kk.is x y
    rw [← hk2, hk, kk.is] at h9
    rw [hk] at hk2
    have : keyIs (kk.val y) (kk.val x) = true := by rw [hk2, kk.is]; simp
    rw [kk.is] at this
    have : y = x := by simpa using this
    rw [← this]; exact hy
  · obtain ⟨hmem, hns⟩ := mem_left he
    obtain ⟨x, v, hxv, hk, hv⟩ := pair_mem h3 hmem
    refine ⟨x, v, hk, hv, fun w1 hw1 => ?_⟩
    have hh : w1.heap = w.heap := by rcases hw1 with rfl | rfl <;> rfl
    have hX : XtB r w (Go.ChangeMaps.setBlock w1 r (.mapIter (some b) since (seen.push e.born) c)) := ⟨by simp [Go.ChangeMaps.setBlock, hh], fun k hk1 hk2 => by
      show (w1.heap.setIfInBounds r _)[k]? = _
      rw [Array.getElem?_setIfInBounds_ne (Ne.symm hk2), hh], by rcases hw1 with rfl | rfl <;> rfl, by rcases hw1 with rfl | rfl <;> rfl⟩
    have hir : (Go.ChangeMaps.setBlock w1 r (.mapIter (some b) since (seen.push e.born) c)).heap[r]? = some (.mapIter (some b) since (seen.push e.born) c) := by
      show (w1.heap.setIfInBounds r _)[r]? = _
      rw [Array.getElem?_setIfInBounds_self_of_lt (by rw [hh]; exact hr)]
    have hbm : (Go.ChangeMaps.setBlock w1 r (.mapIter (some b) since (seen.push e.born) c)).heap[b]? = some (.map arr c) := by
      rw [hX.2 b (Array.getElem?_eq_some_iff.1 h2).1 (Ne.symm hrb)]; exact h2
    refine km x v _ _ hxv hX (by simp [Go.ChangeMaps.setBlock, hh]) ⟨arr, c, seen.push e.born, since, c, hsc, hir, hbm, h3, h4, h5, hsc, rfl, fun e' he' hs => ?_⟩ (left_shrinks arr seen e he) ⟨arr, c, seen, since, e, hir, hbm, hmem, h4, hk, hv⟩
    simp only [Array.contains_push, Bool.or_eq_true, beq_iff_eq] at hs
    rcases hs with hs | hs
    · obtain ⟨y, hy, hyk⟩ := h8 e' he' hs
      exact ⟨y, List.mem_cons_of_mem _ hy, hyk⟩
    · have f1 := find_born e' arr.toList h4 he'
      have f2 := find_born e arr.toList h4 hmem
      rw [hs] at f1
      rw [f1] at f2
      have : e' = e := Option.some.inj f2
      rw [this]
      exact ⟨x, List.mem_cons_self, hk⟩
theorem enm_i {r : Nat} {x : κ} {v : α} {K : κ → α → Prop} (h : EntAt w r b kk mv x v) (hK : K x v) : enm w ⟨r, 0, none⟩ kk.val mv K := by
  obtain ⟨arr, c, seen, since, e, h1, h2, h3, h4, h5, h6⟩ := h
  exact ⟨b, since, seen, arr, c, e, x, v, rfl, h1, h2, h3, h4, h5, h6, hK⟩
end
/-- a slice of ints that is built from nil -/
def OwnN (w : World) (s : Sl) (k e sz : Nat) (cs : List Value) : Prop := (s = ⟨none, 0, 0⟩ ∧ cs = []) ∨ Own w s k e sz cs
section
variable {w w' : World} {B : Nat}
theorem OwnN.app {s : Sl} {k e sz bts m : Nat} {cs new : List Value} {z : Array Value} {src : Value} {K : Sl → World → Prop} (h : OwnN w s k e sz cs) (hs : srcAt w src sz m new) (hl : new.length = m * sz) (h1 : ∀ v ∈ new, v.oneCell' = true) (hz : z.size = sz) (hm : 0 < m)
    (hb : (s.n + m) * bts ≤ 140737488355328) (h63 : s.n + m < 9223372036854775808)
    (hK : ∀ s' w' k', (k' = k ∧ w'.heap.size = w.heap.size ∨ w.heap.size = k' ∧ w'.heap.size = w.heap.size + 1) → XtB k w w' → Own w' s' k' e sz (cs ++ new) → s'.n = s.n + m → K s' w') : app w e sz bts z s.p s.n s.c src K := by
  rcases h with ⟨rfl, rfl⟩ | h
  · refine ⟨m, new, hs, h1, fun hle => absurd hle (by simp only; omega), fun _ => ⟨hb, h63, [], by simp, fun _ => rfl, fun b hb => (by cases hb), fun cap hc hc' => ?_⟩⟩
    refine hK _ _ w.heap.size (.inr ⟨rfl, by simp⟩) ((show XtB k w w.drew from ⟨Nat.le_refl _, fun _ _ _ => rfl, rfl, rfl⟩).alloc _) ⟨rfl, ⟨(Builtin.zeroCells z (cap - (0 + m))).toList, ?_, ?_⟩, ?_, hc, hc'⟩ rfl
    · have : ((([] : List Value) ++ new).toArray ++ Builtin.zeroCells z (cap - (0 + m))) = (([] ++ new) ++ (Builtin.zeroCells z (cap - (0 + m))).toList).toArray := by
        apply Array.ext'; simp
      rw [this]
      exact Blk.new (w := w.drew)
    · rw [length_zeroCells, hz]
      simp only [List.nil_append, hl]
      rw [← Nat.add_mul]; congr 1; simp only at hc; omega
    · simp only [List.nil_append, hl]; congr 1; omega
  · exact h.app hs hl h1 hz hb h63 hK
end
end Go.Low
