import Derived.Test.YtmmkhlalhalomaaGrM2
set_option linter.unusedVariables false
set_option linter.unusedSimpArgs false
namespace Go.Proofs.Ytmmkhlalhalomaa
open Go Go.Low
/-! ### the lines of a tree -/
abbrev E0 : ByteArray := ⟨#[]⟩
abbrev Dot : ByteArray := ⟨#[46]⟩
abbrev Sla : ByteArray := ⟨#[47]⟩
def posN (ms : List Nd) (id : Int) : Nat := (pos ms id).getD 0
structure TS where
  lines : List Ln
  fst : Nat → ByteArray
  sum : Nat
def emitLn (m : Nd) (path peer : ByteArray) : Ln := if peer = E0 then ⟨path, m.kind, m.mode, m.uid, m.gid, m.mtime, m.data, m.target, E0⟩ else ⟨path, m.kind, m.mode, m.uid, m.gid, m.mtime, [], E0, peer⟩
def TS.next (σ : TS) (k : Nat) (m : Nd) (path : ByteArray) : TS := ⟨σ.lines ++ [emitLn m path (σ.fst k)], if σ.fst k = E0 then (fun x => if x = k then path else σ.fst x) else σ.fst, σ.sum + path.size⟩
def kidPath (top : Bool) (path name : ByteArray) : ByteArray := if top = true then name else (path ++ Sla) ++ name
def kid (ms : List Nd) (top : Bool) (path : ByteArray) (e : S_api_Ent) : Nat × ByteArray := (posN ms e.Id, kidPath top path e.Name)
def kids (ms : List Nd) (top : Bool) (path : ByteArray) (es : List S_api_Ent) : List (Nat × ByteArray) := es.map (kid ms top path)
inductive Run (ms : List Nd) : List (Nat × ByteArray) → TS → Option TS → Prop
  | nil {σ : TS} : Run ms [] σ (some σ)
  | big {k : Nat} {path : ByteArray} {rest : List (Nat × ByteArray)} {σ : TS} (h : 4194304 < σ.sum + path.size) : Run ms ((k, path) :: rest) σ none
  | go {k : Nat} {path : ByteArray} {rest : List (Nat × ByteArray)} {σ : TS} {m : Nd} {r : Option TS} (hm : ms[k]? = some m) (h : σ.sum + path.size ≤ 4194304) (hr : Run ms (kids ms σ.lines.isEmpty path m.ents ++ rest) (σ.next k m path) r) : Run ms ((k, path) :: rest) σ r
theorem Run.det {ms : List Nd} {xs : List (Nat × ByteArray)} {σ : TS} {r r' : Option TS} (h : Run ms xs σ r) (h' : Run ms xs σ r') : r = r' := by
  induction h generalizing r' with
  | nil => cases h'; rfl
  | big h =>
    cases h' with
    | big _ => rfl
    | go _ h2 _ => omega
  | go hm h hr ih =>
    cases h' with
    | big h2 => omega
    | go hm2 h2 hr2 =>
      rw [hm] at hm2
      cases hm2
      exact ih hr2
theorem Run.append {ms : List Nd} {xs ys : List (Nat × ByteArray)} {σ σ1 : TS} {r : Option TS} (h : Run ms xs σ (some σ1)) (h' : Run ms ys σ1 r) : Run ms (xs ++ ys) σ r := by
  generalize ho : some σ1 = o at h
  induction h with
  | nil => cases ho; exact h'
  | big h => cases ho
  | go hm h hr ih =>
    refine .go hm h ?_
    have := ih ho
    rw [List.append_assoc] at this
    exact this
theorem Run.append_none {ms : List Nd} {xs ys : List (Nat × ByteArray)} {σ : TS} (h : Run ms xs σ none) : Run ms (xs ++ ys) σ none := by
  generalize ho : (none : Option TS) = o at h ⊢
  induction h with
  | nil => cases ho
  | big h => exact .big h
  | go hm h hr ih =>
    refine .go hm h ?_
    have := ih ho
    rw [List.append_assoc] at this
    exact this
theorem Run.sum_le {ms : List Nd} {xs : List (Nat × ByteArray)} {σ σ1 : TS} (h : Run ms xs σ (some σ1)) (h0 : σ.sum ≤ 4194304) : σ1.sum ≤ 4194304 ∧ σ.sum ≤ σ1.sum := by
  generalize ho : some σ1 = o at h
  induction h with
  | nil => cases ho; exact ⟨h0, Nat.le_refl _⟩
  | big h => cases ho
  | go hm h hr ih =>
    have := ih h ho
    simp only [TS.next] at this
    omega
/-! ### entries of a well-formed graph -/
theorem entsGo_ok {ms : List Nd} {i : Nat} : ∀ {es : List S_api_Ent} {nm : ByteArray} {p q : Par}, entsGo ms i es nm p = some q → (∀ e ∈ es, (∃ k, pos ms e.Id = some k) ∧ good e.Name = true ∧ slt e.Name nm = false ∧ e.Name ≠ nm) ∨ (∀ e ∈ es, (∃ k, pos ms e.Id = some k) ∧ good e.Name = true)
  | [], nm, p, q, h => .inl fun e he => by cases he
  | e :: r, nm, p, q, h => by
    right
    rw [entsGo] at h
    split at h
    · cases h
    · rename_i k hk
      split at h
      · rename_i hg
        simp only [Bool.and_eq_true] at hg
        intro e' he'
        rcases List.mem_cons.1 he' with rfl | he'
        · exact ⟨⟨k, hk⟩, hg.1⟩
        · split at h
          · split at h
            · cases h
            · rcases entsGo_ok h with h1 | h1
              · exact ⟨(h1 e' he').1, (h1 e' he').2.1⟩
              · exact h1 e' he'
          · rcases entsGo_ok h with h1 | h1
            · exact ⟨(h1 e' he').1, (h1 e' he').2.1⟩
            · exact h1 e' he'
      · cases h
theorem entsGo_ents {ms : List Nd} {i : Nat} {es : List S_api_Ent} {nm : ByteArray} {p q : Par} (h : entsGo ms i es nm p = some q) : ∀ e ∈ es, (∃ k, pos ms e.Id = some k) ∧ good e.Name = true := fun e he => by
  rcases entsGo_ok h with h1 | h1
  · exact ⟨(h1 e he).1, (h1 e he).2.1⟩
  · exact h1 e he
theorem nodesGo_mem {ms : List Nd} : ∀ {r : List Nd} {i : Nat} {p q : Par}, nodesGo ms r i p = some q → ∀ m ∈ r, ∃ j p' q', entsGo ms j m.ents ⟨#[]⟩ p' = some q'
  | [], i, p, q, _, m, hm => by cases hm
  | m0 :: r, i, p, q, h, m, hm => by
    rw [nodesGo] at h
    cases he : entsGo ms i m0.ents ⟨#[]⟩ p with
    | none => rw [he] at h; cases h
    | some p' =>
      rw [he] at h
      rcases List.mem_cons.1 hm with rfl | hm
      · exact ⟨i, p, p', he⟩
      · exact nodesGo_mem h m hm
theorem OkGraph.ent {ms : List Nd} (h : OkGraph ms) {m : Nd} (hm : m ∈ ms) {e : S_api_Ent} (he : e ∈ m.ents) : (∃ k, pos ms e.Id = some k) ∧ good e.Name = true := by
  obtain ⟨p, hp, _⟩ := h.par
  obtain ⟨j, p', q', h1⟩ := nodesGo_mem hp m hm
  exact entsGo_ents h1 e he
theorem good_size {s : ByteArray} (h : good s = true) : 1 ≤ s.size ∧ s.size ≤ 255 := by
  simp only [good, Bool.and_eq_true, decide_eq_true_eq] at h
  exact h.2.1
/-- what a Tree answers -/
def TS.nil : TS := ⟨[], fun _ => E0, 0⟩
inductive TreeR (ms : List Nd) (root : Int) : Option (List Ln) → Int → Prop
  | bad {e : Int} (h : Beg ms root none e) : TreeR ms root none e
  | big {k : Nat} (h : Beg ms root (some k) 0) (hr : Run ms [(k, Dot)] TS.nil none) : TreeR ms root none 142
  | fine {k : Nat} {σ : TS} (h : Beg ms root (some k) 0) (hr : Run ms [(k, Dot)] TS.nil (some σ)) : TreeR ms root (some σ.lines) 0
theorem Beg.det {ms : List Nd} {root : Int} {o o' : Option Nat} {e e' : Int} (h : Beg ms root o e) (h' : Beg ms root o' e') : o = o' ∧ e = e' := by
  cases h <;> cases h'
  all_goals first | exact ⟨rfl, rfl⟩ | contradiction | skip
  all_goals simp_all
theorem Beg.bad {ms : List Nd} {root : Int} {e : Int} (h : Beg ms root none e) : e ≠ 0 := by cases h <;> decide
theorem TreeR.det {ms : List Nd} {root : Int} {o o' : Option (List Ln)} {e e' : Int} (h : TreeR ms root o e) (h' : TreeR ms root o' e') : o = o' ∧ e = e' := by
  cases h with
  | bad h => cases h' with
    | bad h2 => exact ⟨rfl, (h.det h2).2⟩
    | big h2 _ => cases (h.det h2).1
    | fine h2 _ => cases (h.det h2).1
  | big h hr => cases h' with
    | bad h2 => cases (h.det h2).1
    | big h2 _ => exact ⟨rfl, rfl⟩
    | fine h2 hr2 => cases (h.det h2).1; cases hr.det hr2
  | fine h hr => cases h' with
    | bad h2 => cases (h.det h2).1
    | big h2 hr2 => cases (h.det h2).1; cases hr.det hr2
    | fine h2 hr2 => cases (h.det h2).1; cases hr.det hr2; exact ⟨rfl, rfl⟩
theorem TreeR.some_iff {ms : List Nd} {root : Int} {o : Option (List Ln)} {e : Int} (h : TreeR ms root o e) : (e = 0 ↔ o.isSome = true) := by
  cases h with
  | bad h => have := h.bad; simp [this]
  | big h hr => simp
  | fine h hr => simp
end Go.Proofs.Ytmmkhlalhalomaa
