import Derived.Test.YtmmkhlalhalomaaGrC17
set_option linter.unusedVariables false
set_option linter.unusedSimpArgs false
namespace Go.Proofs.Ytmmkhlalhalomaa
open Go Go.Low
/-! ### planting -/
def lastBelow (s : ByteArray) : Nat → Option Nat
  | 0 => none
  | n + 1 => if s.data[n]? = some 47 then some n else lastBelow s n
def lastSlash (s : ByteArray) : Option Nat := lastBelow s s.size
theorem lastBelow_lt {s : ByteArray} {n c : Nat} (h : lastBelow s n = some c) : c < n := by
  induction n with
  | zero => cases h
  | succ n ih =>
    rw [lastBelow] at h
    split at h
    · cases h; omega
    · have := ih h; omega
structure PS where
  nodes : List Nd
  ps : List (ByteArray × Int)
def pid (st : PS) (l : Ln) : Option Int := if l.peer = E0 then some ((st.nodes.length : Int) + 1) else aget st.ps l.peer
def pNd (n : Nat) (l : Ln) : Nd := ⟨(n : Int) + 1, l.kind, l.mode, l.uid, l.gid, l.mtime, l.target, l.data, []⟩
def padd (st : PS) (l : Ln) : List Nd := if l.peer = E0 then st.nodes ++ [pNd st.nodes.length l] else st.nodes
def withEnt (e : S_api_Ent) (m : Nd) : Nd := { m with ents := m.ents ++ [e] }
def pent (ns : List Nd) (par : Int) (e : S_api_Ent) : List Nd := ns.modify (par.toNat - 1) (withEnt e)
def pway (st : PS) (l : Ln) : Option (Int × ByteArray) := match lastSlash l.path with
  | none => some (1, l.path)
  | some c => (aget st.ps (l.path.extract 0 c)).map fun par => (par, l.path.extract (c + 1) l.path.size)
def pstep (i : Nat) (st : PS) (l : Ln) : Option PS := match pid st l with
  | none => none
  | some id => if i = 0 then some ⟨padd st l, aput st.ps l.path id⟩ else (pway st l).map fun x => ⟨pent (padd st l) x.1 ⟨x.2, id⟩, aput st.ps l.path id⟩
def pbuild : Nat → PS → List Ln → Option PS
  | _, st, [] => some st
  | i, st, l :: r => (pstep i st l).bind fun st' => pbuild (i + 1) st' r
def PS.nil : PS := ⟨[], []⟩
inductive PlantR (ls : List Ln) : Option (List Nd) → Prop
  | none (h : pbuild 0 PS.nil ls = Option.none) : PlantR ls Option.none
  | bad {st : PS} {o : Option (List Ln)} {e : Int} (h : pbuild 0 PS.nil ls = some st) (ht : TreeR st.nodes 1 o e) (hne : o ≠ some ls) : PlantR ls Option.none
  | fine {st : PS} (h : pbuild 0 PS.nil ls = some st) (ht : TreeR st.nodes 1 (some ls) 0) : PlantR ls (some st.nodes)
theorem PlantR.det {ls : List Ln} {o o' : Option (List Nd)} (h : PlantR ls o) (h' : PlantR ls o') : o = o' := by
  cases h with
  | none h => cases h' with
    | none _ => rfl
    | bad _ _ _ => rfl
    | fine h2 _ => rw [h] at h2; cases h2
  | bad h ht hne => cases h' with
    | none _ => rfl
    | bad _ _ _ => rfl
    | fine h2 ht2 => rw [h] at h2; cases h2; exact absurd (ht.det ht2).1 hne
  | fine h ht => cases h' with
    | none h2 => rw [h] at h2; cases h2
    | bad h2 ht2 hne => rw [h] at h2; cases h2; exact absurd (ht2.det ht).1 hne
    | fine h2 ht2 => rw [h] at h2; cases h2; rfl
/-- lines as those of a tree are -/
structure LnsOk (ls : List Ln) : Prop where
  len : ls.length ≤ 4194304
  data : ∀ l ∈ ls, l.data.length ≤ 16777216
  target : ∀ l ∈ ls, l.target.size < 4611686018427387904
  path : ∀ l ∈ ls, l.path.size < 4611686018427387904
  inj : ∀ (i j : Nat) l l', ls[i]? = some l → ls[j]? = some l' → l.path = l'.path → i = j
  hd : ∀ l, ls[0]? = some l → l.path = Dot
  nd : ∀ (i : Nat) l c, 0 < i → ls[i]? = some l → lastSlash l.path = some c → l.path.extract 0 c ≠ Dot
/-- what holds behind i lines -/
structure PInv (ls : List Ln) (i : Nat) (st : PS) : Prop where
  keys : st.ps.map (·.1) = (ls.take i).map Ln.path
  ids : ∀ x ∈ st.ps, 1 ≤ x.2 ∧ x.2 ≤ st.nodes.length
  one : 0 < i → 1 ≤ st.nodes.length
  cnt : st.nodes.length ≤ i
  ents : ∀ m ∈ st.nodes, m.ents.length ≤ i ∧ m.data.length ≤ 16777216 ∧ m.target.size < 4611686018427387904 ∧ ∀ e ∈ m.ents, e.Name.size < 4611686018427387904
theorem aget_mem_of {κ α : Type} [DecidableEq κ] {es : List (κ × α)} {x : κ} {v : α} (h : aget es x = some v) : (x, v) ∈ es := by
  induction es with
  | nil => cases h
  | cons e r ih =>
    obtain ⟨k, u⟩ := e
    simp only [aget] at h
    by_cases hk : k = x
    · rw [if_pos hk] at h; cases h; subst hk; simp
    · rw [if_neg hk] at h; exact List.mem_cons_of_mem _ (ih h)
theorem aget_none_of {κ α : Type} [DecidableEq κ] {es : List (κ × α)} {x : κ} (h : x ∉ es.map (·.1)) : aget es x = none := by
  cases hq : aget es x with
  | none => rfl
  | some v => exact absurd (List.mem_map.2 ⟨_, aget_mem_of hq, rfl⟩) h
theorem aput_fresh {κ α : Type} [DecidableEq κ] {es : List (κ × α)} {x : κ} {v : α} (h : x ∉ es.map (·.1)) : aput es x v = es ++ [(x, v)] := by
  induction es with
  | nil => rfl
  | cons e r ih =>
    obtain ⟨k, u⟩ := e
    simp only [List.map_cons, List.mem_cons, not_or] at h
    simp only [aput, if_neg (Ne.symm h.1), ih h.2, List.cons_append]
theorem LnsOk.fresh {ls : List Ln} (h : LnsOk ls) {i : Nat} {l : Ln} (hl : ls[i]? = some l) : l.path ∉ (ls.take i).map Ln.path := by
  intro hm
  obtain ⟨l', hl', e⟩ := List.mem_map.1 hm
  obtain ⟨j, hj⟩ := List.getElem?_of_mem hl'
  have hji := some_lt hj
  rw [List.length_take] at hji
  rw [List.getElem?_take_of_lt (by omega)] at hj
  have := h.inj j i l' l hj hl e
  omega
theorem padd_len {st : PS} {l : Ln} : st.nodes.length ≤ (padd st l).length ∧ (padd st l).length ≤ st.nodes.length + 1 := by
  unfold padd; split
  · simp
  · omega
theorem pent_len {ns : List Nd} {par : Int} {e : S_api_Ent} : (pent ns par e).length = ns.length := by simp [pent]
theorem extract_size_le (s : ByteArray) (a b : Nat) : (s.extract a b).size ≤ s.size := by
  simp only [ByteArray.size_extract]; omega
theorem mem_modify {α : Type} {f : α → α} {xs : List α} {n : Nat} {y : α} (h : y ∈ xs.modify n f) : y ∈ xs ∨ ∃ x ∈ xs, y = f x := by
  induction xs generalizing n with
  | nil => simp at h
  | cons a r ih =>
    cases n with
    | zero =>
      simp only [List.modify_zero_cons, List.mem_cons] at h
      rcases h with h | h
      · exact .inr ⟨a, by simp, h⟩
      · exact .inl (List.mem_cons_of_mem _ h)
    | succ n =>
      simp only [List.modify_succ_cons, List.mem_cons] at h
      rcases h with h | h
      · exact .inl (by simp [h])
      · rcases ih h with h | ⟨x, hx, hy⟩
        · exact .inl (List.mem_cons_of_mem _ h)
        · exact .inr ⟨x, List.mem_cons_of_mem _ hx, hy⟩
theorem pid_range {ls : List Ln} {i : Nat} {st : PS} {l : Ln} {id : Int} (h : PInv ls i st) (hid : pid st l = some id) : 1 ≤ id ∧ id ≤ (padd st l).length := by
  unfold pid at hid
  split at hid
  · rename_i hp
    cases hid
    unfold padd
    rw [if_pos hp]
    simp only [List.length_append, List.length_singleton]
    omega
  · have := h.ids _ (aget_mem_of hid)
    have := (padd_len (st := st) (l := l)).1
    simp only at *
    omega
theorem pway_range {ls : List Ln} {i : Nat} {st : PS} {l : Ln} {x : Int × ByteArray} (h : PInv ls i st) (hi : 0 < i) (hx : pway st l = some x) : 1 ≤ x.1 ∧ x.1 ≤ st.nodes.length ∧ x.2.size ≤ l.path.size := by
  unfold pway at hx
  have := h.one hi
  split at hx
  · cases hx; exact ⟨by simp, by simp only; omega, Nat.le_refl _⟩
  · rename_i c hc
    cases hq : aget st.ps (l.path.extract 0 c) with
    | none => rw [hq] at hx; cases hx
    | some par =>
      rw [hq] at hx
      cases hx
      have := h.ids _ (aget_mem_of hq)
      exact ⟨this.1, this.2, extract_size_le _ _ _⟩
theorem PInv.step {ls : List Ln} {i : Nat} {st st' : PS} {l : Ln} (hok : LnsOk ls) (h : PInv ls i st) (hl : ls[i]? = some l) (hs : pstep i st l = some st') : PInv ls (i + 1) st' := by
  have hlm := List.mem_of_getElem? hl
  have hfr : l.path ∉ st.ps.map (·.1) := by rw [h.keys]; exact hok.fresh hl
  have hpl := padd_len (st := st) (l := l)
  have hc := h.cnt
  have hadd : ∀ m ∈ padd st l, m.ents.length ≤ i ∧ m.data.length ≤ 16777216 ∧ m.target.size < 4611686018427387904 ∧ ∀ e ∈ m.ents, e.Name.size < 4611686018427387904 := by
    intro m hm
    unfold padd at hm
    split at hm
    · rcases List.mem_append.1 hm with hm | hm
      · exact h.ents m hm
      · rw [List.mem_singleton.1 hm]
        exact ⟨by simp [pNd], hok.data l hlm, hok.target l hlm, fun e he => by simp [pNd] at he⟩
    · exact h.ents m hm
  have hone : pid st l ≠ none → 1 ≤ (padd st l).length := by
    intro hn
    unfold padd
    split
    · simp
    · rename_i hp
      unfold pid at hn
      rw [if_neg hp] at hn
      cases hq : aget st.ps l.peer with
      | none => exact absurd hq hn
      | some v => have := h.ids _ (aget_mem_of hq); omega
  unfold pstep at hs
  cases hid : pid st l with
  | none => rw [hid] at hs; cases hs
  | some id =>
    rw [hid] at hs
    have hr := pid_range h hid
    have h1 := hone (by rw [hid]; exact nofun)
    have keys' : (aput st.ps l.path id).map (·.1) = (ls.take (i + 1)).map Ln.path := by
      rw [aput_fresh hfr, take_snoc hl, List.map_append, List.map_append, h.keys]; rfl
    have ids' : ∀ n, n = (padd st l).length → ∀ x ∈ aput st.ps l.path id, 1 ≤ x.2 ∧ x.2 ≤ n := by
      intro n hn x hx
      rw [aput_fresh hfr] at hx
      rcases List.mem_append.1 hx with hx | hx
      · have := h.ids x hx; omega
      · rw [List.mem_singleton.1 hx]; simp only; omega
    simp only at hs
    split at hs
    · cases hs
      exact ⟨keys', ids' _ rfl, fun _ => h1, by simp only; omega, fun m hm => by have := hadd m hm; exact ⟨by omega, this.2⟩⟩
    · rename_i hi
      cases hw : pway st l with
      | none => rw [hw] at hs; cases hs
      | some x =>
        rw [hw] at hs
        cases hs
        have hxr := pway_range h (by omega) hw
        refine ⟨keys', ids' _ pent_len, fun _ => by simp only [pent_len]; exact h1, by simp only [pent_len]; omega, fun m hm => ?_⟩
        rcases mem_modify hm with hm | ⟨m0, hm0, rfl⟩
        · have := hadd m hm; exact ⟨by omega, this.2⟩
        · have := hadd m0 hm0
          refine ⟨by simp only [withEnt, List.length_append, List.length_singleton]; omega, this.2.1, this.2.2.1, fun e he => ?_⟩
          simp only [withEnt] at he
          rcases List.mem_append.1 he with he | he
          · exact this.2.2.2 e he
          · rw [List.mem_singleton.1 he]
            have := hok.path l hlm
            simp only; omega
theorem PInv.nil (ls : List Ln) : PInv ls 0 PS.nil := ⟨rfl, fun x hx => (by cases hx), fun h => absurd h (by omega), Nat.le_refl _, fun m hm => (by cases hm)⟩
theorem PInv.small {ls : List Ln} {st : PS} (hok : LnsOk ls) (h : PInv ls ls.length st) : Small st.nodes ∧ Fair st.nodes := by
  have := hok.len
  have hc := h.cnt
  exact ⟨⟨by omega, fun m hm => (h.ents m hm).2.1, fun m hm => by have := (h.ents m hm).1; omega⟩, ⟨fun m hm => (h.ents m hm).2.2.1, fun m hm => (h.ents m hm).2.2.2⟩⟩
end Go.Proofs.Ytmmkhlalhalomaa
