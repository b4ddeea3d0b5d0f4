import Derived.Test.YtmmkhlalhalomaaGrC2
set_option linter.unusedVariables false
set_option linter.unusedSimpArgs false
set_option maxRecDepth 100000
namespace Go.Proofs.Ytmmkhlalhalomaa
open Go Go.Low
open Go.ChangeMaps (setBlock)
abbrev badSet : ByteArray := ⟨#[47, 0]⟩
def hasBad (s : ByteArray) : Bool := s.data.toList.contains 0 || s.data.toList.contains 47
theorem Ext_setBlock {w0 w : World} (h : Ext w0 w) {k : Nat} (o : Obj) (hk : w0.heap.size ≤ k) : Ext w0 (setBlock w k o) := Ext.put h o hk
theorem heap_setBlock {w : World} {k : Nat} {o : Obj} (h : k < w.heap.size) : (setBlock w k o).heap[k]? = some o := by
  have := heap_put w k o k
  rw [if_pos ⟨rfl, h⟩] at this
  exact this
theorem get_eq {s : ByteArray} {i : Nat} (h : i < s.size) : s.get! i = s[i] := by
  show s.data[i]! = s.data[i]
  exact getElem!_pos s.data i h
theorem decode_spec {s : ByteArray} {p : Nat} (hp : p < s.size) : 1 ≤ (Utf8.decode s p).2 ∧ p + (Utf8.decode s p).2 ≤ s.size ∧ (∀ j (hj : j < s.size), p ≤ j → j < p + (Utf8.decode s p).2 → s[j].toNat < 128 → j = p ∧ (Utf8.decode s p).1 = s[j].toNat) ∧ ((Utf8.decode s p).1 < 128 → (Utf8.decode s p).1 = s[p].toNat) ∧ (Utf8.decode s p).1 < 1114112 := by
  have g0 := get_eq hp
  simp only [Utf8.decode, Nat.add_zero, g0]
  have hb := s[p].toNat_lt
  by_cases h1 : s[p].toNat < 128
  · rw [if_pos h1]
    exact ⟨Nat.le_refl _, by simp only; omega, fun j hj h2 h3 _ => by
      have : j = p := by simp only at h3; omega
      subst this; exact ⟨rfl, rfl⟩, fun _ => rfl, by simp only; omega⟩
  rw [if_neg h1]
  have err : 1 ≤ ((Utf8.runeError, 1) : Nat × Nat).2 ∧ p + ((Utf8.runeError, 1) : Nat × Nat).2 ≤ s.size ∧ (∀ j (hj : j < s.size), p ≤ j → j < p + ((Utf8.runeError, 1) : Nat × Nat).2 → s[j].toNat < 128 → j = p ∧ ((Utf8.runeError, 1) : Nat × Nat).1 = s[j].toNat) ∧ (((Utf8.runeError, 1) : Nat × Nat).1 < 128 → ((Utf8.runeError, 1) : Nat × Nat).1 = s[p].toNat) ∧ ((Utf8.runeError, 1) : Nat × Nat).1 < 1114112 := by
    refine ⟨Nat.le_refl _, by simp only; omega, fun j hj h2 h3 h4 => ?_, fun h => by simp [Utf8.runeError] at h, by simp [Utf8.runeError]⟩
    have : j = p := by simp only at h3; omega
    subst this; exact absurd h4 h1
  have cont : ∀ k, (decide (p + k < s.size) && (s.get! (p + k)).toNat / 64 == 2) = true → ∃ h : p + k < s.size, 128 ≤ s[p + k].toNat := by
    intro k hk
    simp only [Bool.and_eq_true, decide_eq_true_eq, beq_iff_eq] at hk
    exact ⟨hk.1, by have := hk.2; rw [get_eq hk.1] at this; omega⟩
  split
  · rename_i h2
    simp only [Bool.and_eq_true] at h2
    obtain ⟨q1, q1'⟩ := cont 1 (by simpa using h2.2)
    split
    · rename_i h3
      refine ⟨by simp, by simp only; omega, fun j hj h4 h5 h6 => ?_, fun h => by simp only at h; omega, by simp only; omega⟩
      simp only at h5
      exfalso
      rcases (show j = p ∨ j = p + 1 by omega) with e | e
      · subst e; exact h1 h6
      · subst e; omega
    · exact err
  · split
    · rename_i h2
      simp only [Bool.and_eq_true] at h2
      obtain ⟨q1, q1'⟩ := cont 1 (by simpa using h2.1.2)
      obtain ⟨q2, q2'⟩ := cont 2 (by simpa using h2.2)
      split
      · rename_i h3
        simp only [Bool.and_eq_true, decide_eq_true_eq] at h3
        refine ⟨by simp, by simp only; omega, fun j hj h4 h5 h6 => ?_, fun h => by simp only at h; omega, by simp only; omega⟩
        simp only at h5
        exfalso
        rcases (show j = p ∨ j = p + 1 ∨ j = p + 2 by omega) with e | e | e
        · subst e; exact h1 h6
        · subst e; omega
        · subst e; omega
      · exact err
    · split
      · rename_i h2
        simp only [Bool.and_eq_true] at h2
        obtain ⟨q1, q1'⟩ := cont 1 (by simpa using h2.1.1.2)
        obtain ⟨q2, q2'⟩ := cont 2 (by simpa using h2.1.2)
        obtain ⟨q3, q3'⟩ := cont 3 (by simpa using h2.2)
        split
        · rename_i h3
          simp only [Bool.and_eq_true, decide_eq_true_eq] at h3
          refine ⟨by simp, by simp only; omega, fun j hj h4 h5 h6 => ?_, fun h => by simp only at h; omega, ?_⟩
          · simp only at h5
            exfalso
            rcases (show j = p ∨ j = p + 1 ∨ j = p + 2 ∨ j = p + 3 by omega) with e | e | e | e
            · subst e; exact h1 h6
            · subst e; omega
            · subst e; omega
            · subst e; omega
          · have := h3.2
            simp only [Utf8.valid, Bool.or_eq_true, Bool.and_eq_true, decide_eq_true_eq] at this
            simp only
            omega
        · exact err
      · exact err
theorem encode_spec {r : Int} (h : 128 ≤ r) (hv : Utf8.valid r = true) : (∃ y x, Utf8.encode r = ⟨#[y, x]⟩ ∧ x.toNat ≠ 0) ∨ 3 ≤ (Utf8.encode r).size ∧ (Utf8.encode r).size ≤ 4 := by
  have e : Utf8.encode r = if r.toNat < 0x80 then ⟨#[UInt8.ofNat r.toNat]⟩ else if r.toNat < 0x800 then ⟨#[UInt8.ofNat (0xC0 + r.toNat / 64), UInt8.ofNat (0x80 + r.toNat % 64)]⟩
    else if r.toNat < 0x10000 then ⟨#[UInt8.ofNat (0xE0 + r.toNat / 4096), UInt8.ofNat (0x80 + r.toNat / 64 % 64), UInt8.ofNat (0x80 + r.toNat % 64)]⟩
    else ⟨#[UInt8.ofNat (0xF0 + r.toNat / 262144), UInt8.ofNat (0x80 + r.toNat / 4096 % 64), UInt8.ofNat (0x80 + r.toNat / 64 % 64), UInt8.ofNat (0x80 + r.toNat % 64)]⟩ := by
    unfold Utf8.encode
    simp only [hv, if_true]
  rw [e, if_neg (by omega)]
  split
  · refine .inl ⟨_, _, rfl, ?_⟩
    simp
    omega
  · right
    split
    · exact ⟨by simp [ByteArray.size], by simp [ByteArray.size]⟩
    · exact ⟨by simp [ByteArray.size], by simp [ByteArray.size]⟩
theorem C_ValidRune {w : World} {r : Int} {K : Bool → World → Prop} (k : K (Utf8.valid r) w) : cl1 Try.prog 56 [.int .i32 r] w Value.bool K := by
  have hv : Utf8.valid r = decide ((0 ≤ r ∧ r < 55296) ∨ (57344 ≤ r ∧ r ≤ 1114111)) := by simp [Utf8.valid]
  rw [hv] at k
  refine T_unicode_utf8_ValidRune r ⟨fun h1 => ⟨fun h2 => ?_, fun h2 => ⟨fun h3 => ⟨fun h4 => ?_, fun h4 => ?_⟩, fun h3 => ?_⟩⟩, fun h1 => ⟨fun h3 => ⟨fun h4 => ?_, fun h4 => ?_⟩, fun h3 => ?_⟩⟩
  · rwa [decide_eq_true (by omega)] at k
  · rwa [decide_eq_true (by omega)] at k
  · rwa [decide_eq_false (by omega)] at k
  · rwa [decide_eq_false (by omega)] at k
  · omega
  · omega
  · rwa [decide_eq_false (by omega)] at k
theorem idx_bad {c : UInt8} : (0 ≤ Lib.indexByte badSet.data.toList c) ↔ (c = 47 ∨ c = 0) := by
  have := Lib.contains_iff_indexByte badSet.data.toList c
  refine (decide_eq_true_iff (p := 0 ≤ Lib.indexByte badSet.data.toList c)).symm.trans ?_
  rw [← this]
  simp [badSet]
theorem C_IndexRune {w : World} {r : Int} {K : Int → World → Prop} (h0 : 0 ≤ r) (hr : r < 1114112) (k : ∀ y w', Ext w w' → (0 ≤ y ↔ r = 47 ∨ r = 0) → K y w') : cl1 Try.prog 52 [.string badSet, .int .i32 r] w (Value.int .i64) K := by
  have no : ∀ {w'}, Ext w w' → ¬ (r = 47 ∨ r = 0) → K (-1) w' := fun hE hn => k _ _ hE ⟨fun h => absurd h (by decide), fun h => absurd h hn⟩
  have hsz : badSet.size = 2 := rfl
  refine T_strings_IndexRune badSet r ⟨fun _ => ⟨fun h1 => C_IndexByte (k _ _ (Ext.refl w) ?_), fun h1 => ⟨fun h2 => ?_, fun h2 => C_ValidRune ⟨fun h3 => no (Ext.refl w) (by omega), fun h3 => ?_⟩⟩⟩, fun h => absurd h0 h⟩
  · rw [idx_bad]
    have hw : IntKind.u8.wrap r = r := by
      simp [IntKind.wrap, IntKind.bits, IntKind.signed]
      omega
    rw [hw]
    obtain ⟨m, rfl⟩ : ∃ m : Nat, r = m := ⟨r.toNat, by omega⟩
    have hm : m < 128 := by omega
    constructor
    · intro h
      rcases h with h | h
      · left; have := congrArg UInt8.toNat h; simp at this; omega
      · right; have := congrArg UInt8.toNat h; simp at this; omega
    · intro h
      rcases h with h | h
      · left; have : m = 47 := by omega
        subst this; rfl
      · right; have : m = 0 := by omega
        subst this; rfl
  · -- the error's rune
    refine ⟨fun _ v => Ext w v ∧ ∃ p, v.heap[w.heap.size]? = some (.stringIter badSet p) ∧ p ≤ 2, fun _ v => 2 - (match v.heap[w.heap.size]? with | some (.stringIter _ p) => p | _ => 0), ⟨(Ext.refl w).alloc _, 0, by rw [heap_alloc, if_pos rfl], by omega⟩, ?_⟩
    rintro _ v ⟨hE, p, hp, hp2⟩
    have hlt : w.heap.size < v.heap.size := (Array.getElem?_eq_some_iff.1 hp).1
    refine ⟨badSet, p, rfl, hp, fun _ => no hE (by omega), fun hlt' => ⟨fun h3 => ?_, fun h3 => ⟨⟨Ext_setBlock hE _ (Nat.le_refl _), _, heap_setBlock hlt, ?_⟩, ?_⟩⟩⟩
    · exfalso
      rcases (show p = 0 ∨ p = 1 by omega) with e | e
      · subst e; revert h3; decide
      · subst e; revert h3; decide
    · have := (decode_spec hlt').2.1; omega
    · have h4 := (decode_spec hlt').1
      dsimp only
      rw [heap_setBlock hlt, hp]
      dsimp only
      have h5 : p < 2 := hlt'
      exact Nat.sub_lt_sub_left h5 (Nat.lt_add_of_pos_right h4)
  · simp at h3
    rcases encode_spec (by omega) h3 with ⟨y, x, he, hx⟩ | ⟨e1, e2⟩
    · rw [he]
      have hs2 : (⟨#[y, x]⟩ : ByteArray).size = 2 := rfl
      have hw : w64 (((⟨#[y, x]⟩ : ByteArray).size : Int) - 1) = ((1 : Nat) : Int) := by rw [hs2]; rfl
      rw [hw]
      refine ⟨fun _ i _ v => Ext w v ∧ i = ((1 : Nat) : Int), fun _ _ _ _ => 0, ⟨Ext.refl w, rfl⟩, ?_⟩
      rintro _ i _ v ⟨hE, rfl⟩
      refine ⟨fun hlt => ?_, fun _ => no hE (by omega)⟩
      refine ⟨_, fun _ _ h => h, dr_i (sx_i (j := 1) (by decide) (sx_i (j := 1) (by rw [hs2]; decide) ⟨fun h4 => ?_, fun h4 => dr_i ?_⟩))⟩
      · exfalso
        apply hx
        have : ((0 : Nat) : Int) = (x.toNat : Int) := h4
        omega
      · refine ⟨by decide, by decide, by decide, sx_i (j := 1) (by rw [hs2]; decide) (C_IndexByte ⟨fun _ => no (hE.drew.drew) (by omega), fun h5 => absurd (by
          show (-1 : Int) < 0
          decide) h5⟩)⟩
    · have hw : w64 (((Utf8.encode r).size : Int) - 1) = (((Utf8.encode r).size - 1 : Nat) : Int) := by rw [w64_id (by omega) (by omega)]; omega
      refine ⟨fun _ i _ v => Ext w v ∧ i = (((Utf8.encode r).size - 1 : Nat) : Int), fun _ _ _ _ => 0, ⟨Ext.refl w, hw⟩, ?_⟩
      rintro _ i _ v ⟨hE, rfl⟩
      exact ⟨fun hlt => absurd hlt (by omega), fun _ => no hE (by omega)⟩
theorem C_IndexAny_short {w : World} {s : ByteArray} {K : Int → World → Prop} (hs : s.size ≤ 8) (k : ∀ y w', Ext w w' → (0 ≤ y ↔ hasBad s = true) → K y w') : cl1 Try.prog 50 [.string s, .string badSet] w (Value.int .i64) K := by
  refine T_strings_IndexAny s badSet ⟨fun h => absurd h (by decide), fun _ => ⟨fun h => absurd h (by decide), fun _ => ?_⟩⟩
  refine T_strings_shouldUseASCIISet _ ⟨fun h => by simp at h; omega, fun _ => ?_⟩
  refine ⟨fun _ v => Ext w v ∧ ∃ p, v.heap[w.heap.size]? = some (.stringIter s p) ∧ p ≤ s.size ∧ ∀ j (hj : j < s.size), j < p → s[j] ≠ 0 ∧ s[j] ≠ 47, fun _ v => s.size - (match v.heap[w.heap.size]? with | some (.stringIter _ p) => p | _ => 0), ⟨(Ext.refl w).alloc _, 0, by rw [heap_alloc, if_pos rfl], by omega, fun j _ h => absurd h (by omega)⟩, ?_⟩
  rintro _ v ⟨hE, p, hp, hp2, hno⟩
  have hlt : w.heap.size < v.heap.size := (Array.getElem?_eq_some_iff.1 hp).1
  refine ⟨s, p, rfl, hp, fun hge => k _ _ hE ⟨fun h => absurd h (by decide), fun h => ?_⟩, fun hlt' => ?_⟩
  · rw [hasBad, no_byte fun j hj => (hno j hj (by omega)).1, no_byte fun j hj => (hno j hj (by omega)).2] at h
    cases h
  obtain ⟨d1, d2, d3, d4, d5⟩ := decode_spec hlt'
  have hE2 : Ext w (setBlock v w.heap.size (.stringIter s (p + (Utf8.decode s p).2))) := Ext_setBlock hE _ (Nat.le_refl _)
  refine C_IndexRune (by omega) (by omega) fun y w' hE3 hy => ⟨fun h => k _ _ (hE2.trans hE3) ⟨fun _ => ?_, fun _ => by omega⟩, fun h => ⟨⟨hE2.trans hE3, _, ?_, d2, fun j hj hjp => ?_⟩, ?_⟩⟩
  · rcases hy.1 h with e | e
    · have := d4 (by omega)
      rw [hasBad, has_byte (c := 47) hlt' (UInt8.toNat_inj.1 (show s[p].toNat = 47 by omega))]
      simp
    · have := d4 (by omega)
      rw [hasBad, has_byte (c := 0) hlt' (UInt8.toNat_inj.1 (show s[p].toNat = 0 by omega))]
      simp
  · rw [hE3.2 _ (by simpa [setBlock] using hlt)]
    exact heap_setBlock hlt
  · by_cases hj2 : j < p
    · exact hno j hj hj2
    · have hn : ¬ (((Utf8.decode s p).1 : Int) = 47 ∨ ((Utf8.decode s p).1 : Int) = 0) := fun h' => h (hy.2 h')
      constructor
      · intro e
        have := d3 j hj (by omega) hjp (by rw [e]; decide)
        rw [e] at this
        have h3 : (Utf8.decode s p).1 = 0 := this.2
        omega
      · intro e
        have := d3 j hj (by omega) hjp (by rw [e]; decide)
        rw [e] at this
        have h3 : (Utf8.decode s p).1 = 47 := this.2
        omega
  · dsimp only
    rw [hE3.2 _ (by simpa [setBlock] using hlt), heap_setBlock hlt, hp]
    dsimp only
    exact Nat.sub_lt_sub_left hlt' (Nat.lt_add_of_pos_right d1)
theorem set153 : (Try.prog.info? (Try.lays153_ren.t 116)).map (fun i => (i.zero, i.size)) = some (some (.agg (Array.replicate 256 (.bool false))), 256) := by kernel_rfl
theorem indexAny_bad (l : List UInt8) : (0 ≤ Lib.indexAny l badSet.data.toList) ↔ (l.contains 0 || l.contains 47) = true := by
  induction l with
  | nil => simp [Lib.indexAny]
  | cons b r ih =>
    have hg := Lib.indexAny_ge badSet.data.toList r
    have hb : badSet.data.toList.contains b = (b == 0 || b == 47) := by
      simp only [badSet, List.contains_cons, List.contains_nil, Bool.or_false]
      exact Bool.or_comm _ _
    rw [Lib.indexAny, hb]
    by_cases h : (b == 0 || b == 47) = true
    · rw [if_pos h]
      simp only [Bool.or_eq_true, beq_iff_eq] at h
      rcases h with h | h <;> subst h <;> simp
    · rw [if_neg h]
      simp only [Bool.or_eq_true, beq_iff_eq, not_or] at h
      have : ((b :: r).contains 0 || (b :: r).contains 47) = (r.contains 0 || r.contains 47) := by
        simp [List.contains_cons, Ne.symm h.1, Ne.symm h.2]
      rw [this, ← ih]
      split
      · rename_i h1; rw [beq_iff_eq] at h1; omega
      · rename_i h1; rw [beq_iff_eq] at h1; omega
theorem C_IndexAny {w : World} {s : ByteArray} {K : Int → World → Prop} (hs : s.size ≤ 255) (k : ∀ y w', Ext w w' → (0 ≤ y ↔ hasBad s = true) → K y w') : cl1 Try.prog 50 [.string s, .string badSet] w (Value.int .i64) K := by
  by_cases h8 : s.size ≤ 8
  · exact C_IndexAny_short h8 k
  · have hz := zero_of_info set153
    refine (Any.strings_IndexAny_long Try.lays153 hz.1 hz.2 s badSet w (by decide) (by omega) (by omega) (by decide) (fun j b hj => ?_)).mono fun e w' h => ?_
    · have : b ∈ badSet.data.toList := List.mem_of_getElem? hj
      simp [badSet] at this
      rcases this with e | e <;> subst e <;> decide
    · obtain ⟨rfl, rfl⟩ := h
      exact ⟨_, rfl, k _ _ (((Ext.refl w).alloc _).alloc _) (indexAny_bad _)⟩
theorem C_ContainsAny {w : World} {s : ByteArray} {K : Bool → World → Prop} (hs : s.size ≤ 255) (k : ∀ w', Ext w w' → K (hasBad s) w') : cl1 Try.prog 48 [.string s, .string badSet] w Value.bool K := by
  refine T_strings_ContainsAny s badSet (C_IndexAny hs fun y w' hE hy => ?_)
  have hk := k _ hE
  rwa [show hasBad s = decide (0 ≤ y) by
    cases hb : hasBad s with
    | true => rw [decide_eq_true (hy.2 hb)]
    | false => rw [decide_eq_false (by rw [hy, hb]; simp)]] at hk
theorem C_Good {w : World} {s : ByteArray} {K : Bool → World → Prop} (k : ∀ w', Ext w w' → K (good s) w') : cl1 Try.prog 45 [.string s] w Value.bool K := by
  have hz : s = ⟨#[]⟩ ↔ s.size = 0 := ⟨fun e => by rw [e]; rfl, fun e => by
    have : s.data = #[] := Array.eq_empty_of_size_eq_zero e
    rw [← this]⟩
  have no : good s = false → K false w := fun h => by rw [← h]; exact k _ (Ext.refl w)
  have g : good s = (!hasBad s && decide ((1 ≤ s.size ∧ s.size ≤ 255) ∧ s ≠ ⟨#[46]⟩ ∧ s ≠ ⟨#[46, 46]⟩)) := by
    rw [good, hasBad, Bool.not_or]
  refine T_route_Good s ⟨fun w' => w' = w ∧ s ≠ ⟨#[]⟩ ∧ s ≠ ⟨#[46]⟩ ∧ s ≠ ⟨#[46, 46]⟩, ?_, ?_⟩
  · rintro w' ⟨rfl, h1, h2, h3⟩
    have h1' : s.size ≠ 0 := fun h => h1 (hz.2 h)
    refine ⟨fun h4 => C_ContainsAny (by omega) fun w1 hE => ?_, fun h4 => no (by rw [g, decide_eq_false (by omega)]; simp)⟩
    have hk := k _ hE
    rwa [g, decide_eq_true ⟨⟨by omega, by omega⟩, h2, h3⟩, Bool.and_true] at hk
  · refine ⟨fun h1 => ⟨fun _ => no ?_, fun h => absurd h1 h⟩, fun h1 => ⟨fun h2 => ⟨fun _ => no ?_, fun h => absurd h2 h⟩, fun h2 => ⟨fun h3 => no ?_, fun h3 => ⟨rfl, h1, h2, h3⟩⟩⟩⟩
    · rw [g, decide_eq_false (by rw [hz] at h1; omega)]; simp
    · rw [g, decide_eq_false (fun h => h.2.1 h2)]; simp
    · rw [g, decide_eq_false (fun h => h.2.2 h3)]; simp
end Go.Proofs.Ytmmkhlalhalomaa
