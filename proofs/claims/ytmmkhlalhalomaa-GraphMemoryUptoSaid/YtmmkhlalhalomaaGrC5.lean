import Derived.Test.YtmmkhlalhalomaaGrC4
set_option linter.unusedVariables false
set_option linter.unusedSimpArgs false
set_option maxRecDepth 100000
namespace Go.Proofs.Ytmmkhlalhalomaa
open Go Go.Low
/-! the place of an Id -/
def Rising (ms : List Nd) : Prop := ∀ (i j : Nat) m m', i < j → ms[i]? = some m → ms[j]? = some m' → m.id < m'.id
def pos (ms : List Nd) (id : Int) : Option Nat := ms.findIdx? fun m => decide (m.id = id)
theorem pos_get {ms : List Nd} {id : Int} {j : Nat} (h : pos ms id = some j) : ∃ m, ms[j]? = some m ∧ m.id = id := by
  obtain ⟨hj, h1, _⟩ := List.findIdx?_eq_some_iff_getElem.1 h
  exact ⟨ms[j], List.getElem?_eq_getElem hj, by simpa using h1⟩
theorem pos_none {ms : List Nd} {id : Int} (h : ∀ (j : Nat) m, ms[j]? = some m → m.id ≠ id) : pos ms id = none := by
  rw [pos, List.findIdx?_eq_none_iff]
  intro m hm
  obtain ⟨j, hj⟩ := List.getElem?_of_mem hm
  simpa using h j m hj
theorem pos_some {ms : List Nd} {id : Int} {j : Nat} {m : Nd} (hr : Rising ms) (h : ms[j]? = some m) (hid : m.id = id) : pos ms id = some j := by
  cases hp : pos ms id with
  | none =>
    rw [pos, List.findIdx?_eq_none_iff] at hp
    have := hp m (List.mem_of_getElem? h)
    simp [hid] at this
  | some k =>
    obtain ⟨m', hk, hid'⟩ := pos_get hp
    rcases Nat.lt_trichotomy k j with hlt | e | hlt
    · have := hr _ _ _ _ hlt hk h; omega
    · rw [e]
    · have := hr _ _ _ _ hlt h hk; omega
def posI (ms : List Nd) (id : Int) : Int := match pos ms id with | some j => j | none => -1
theorem mid_eq {a b : Nat} (h : a < b) (hb : b < 4611686018427387904) : w64 ((a : Int) + (w64 (Int.tdiv (w64 ((b : Int) - a)) 2))) = ((a + (b - a) / 2 : Nat) : Int) := by
  have h1 : w64 ((b : Int) - a) = ((b - a : Nat) : Int) := by rw [w64_id (by omega) (by omega)]; omega
  have h2 : Int.tdiv ((b - a : Nat) : Int) 2 = (((b - a) / 2 : Nat) : Int) := rfl
  have h3 : w64 (((b - a) / 2 : Nat) : Int) = (((b - a) / 2 : Nat) : Int) := w64_id (by omega) (by omega)
  rw [h1, h2, h3, w64_id (by omega) (by omega)]
  omega
theorem GraphX.node {w : World} {s : Sl} {xs : List S_api_Node} {ms : List Nd} (h : GraphX w s xs ms) {j : Nat} (hj : j < ms.length) : ∃ x m, xs[j]? = some x ∧ ms[j]? = some m ∧ NodeAt w x m := by
  have hl := h.len
  obtain ⟨x, hx⟩ : ∃ x, xs[j]? = some x := ⟨_, List.getElem?_eq_getElem (by omega)⟩
  obtain ⟨m, hm⟩ : ∃ m, ms[j]? = some m := ⟨_, List.getElem?_eq_getElem hj⟩
  exact ⟨x, m, hx, hm, h.at_ j x m hx hm⟩
theorem NodeAt.id {w : World} {x : S_api_Node} {m : Nd} (h : NodeAt w x m) : x.Id = m.id := by rw [h.hd]; rfl
theorem NodeAt.kind {w : World} {x : S_api_Node} {m : Nd} (h : NodeAt w x m) : x.Kind = m.kind := by rw [h.hd]; rfl
theorem GraphX.n {w : World} {s : Sl} {xs : List S_api_Node} {ms : List Nd} (h : GraphX w s xs ms) : s.n = ms.length := by rw [← h.len]; exact h.row.n
theorem C_At {w : World} {g : S_api_Graph} {xs : List S_api_Node} {ms : List Nd} {id : Int} {K : Int → World → Prop} (h : GraphX w g.Nodes xs ms) (hr : Rising ms) (hlen : ms.length ≤ 16777216)
    (k : ∀ w', Ext w w' → K (posI ms id) w') : cl1 Try.prog 20 [S_api_Graph.v g, .int .i64 id] w (Value.int .i64) K := by
  refine T_valiseref14_At g id (al_i fun hB hE => ldL_at hB.all ⟨g.Nodes, rfl, ?_⟩)
  have hn := h.n
  have k' : ∀ r, posI ms id = r → K r (w.alloc (.cells (S_api_Graph.cells g).toArray 24)) := fun r hr => by rw [← hr]; exact k _ hE
  refine ⟨fun lo hi v => v = w.alloc (.cells (S_api_Graph.cells g).toArray 24) ∧ ∃ a b : Nat, lo = a ∧ hi = b ∧ a ≤ b ∧ b ≤ ms.length ∧ (∀ (i : Nat) m, i < a → ms[i]? = some m → m.id < id) ∧ (∀ (i : Nat) m, b ≤ i → ms[i]? = some m → id ≤ m.id), fun lo hi _ => (hi - lo).toNat,
    ⟨rfl, 0, ms.length, rfl, by rw [hn], by omega, by omega, fun i m hi => absurd hi (by omega), fun i m hi hm => by have := some_lt hm; omega⟩, ?_⟩
  rintro _ _ v ⟨rfl, a, b, rfl, rfl, hab, hb, hlo, hhi⟩
  refine ⟨fun hlt => ⟨by decide, ldL_at hB.all ⟨g.Nodes, rfl, ?_⟩⟩, fun hge => ldL_at hB.all ⟨g.Nodes, rfl, fun hin => ?_, fun hin => ?_⟩⟩
  · rw [mid_eq (by omega) (by omega)]
    obtain ⟨x, m, hx, hm, hxm⟩ := h.node (j := a + (b - a) / 2) (by omega)
    refine (h.ext hE).row.ix hx fun c hc => ldN_at hc ⟨x.Id, rfl, fun hl => ⟨⟨rfl, a + (b - a) / 2 + 1, b, by rw [w64_id (by omega) (by omega)]; rfl, rfl, by omega, hb, fun i m' hi hm' => ?_, hhi⟩, ?_⟩, fun hl => ⟨⟨rfl, a, a + (b - a) / 2, rfl, rfl, by omega, by omega, hlo, fun i m' hi hm' => ?_⟩, ?_⟩⟩
    · rw [hxm.id] at hl
      by_cases e : i = a + (b - a) / 2
      · subst e; rw [hm] at hm'; cases hm'; exact hl
      · have := hr i (a + (b - a) / 2) m' m (by omega) hm' hm; omega
    · dsimp only; rw [w64_id (by omega) (by omega)]; omega
    · rw [hxm.id] at hl
      by_cases e : i = a + (b - a) / 2
      · subst e; rw [hm] at hm'; cases hm'; omega
      · have := hr (a + (b - a) / 2) i m m' (by omega) hm hm'; omega
    · dsimp only; omega
  · obtain ⟨x, m, hx, hm, hxm⟩ := h.node (j := a) (by omega)
    refine ldL_at hB.all ⟨g.Nodes, rfl, (h.ext hE).row.ix hx fun c hc => ldN_at hc ⟨x.Id, rfl, fun he => k' _ ?_, fun hne => k' _ ?_⟩⟩
    · rw [posI, pos_some hr hm (by rw [← hxm.id]; exact he)]
    · rw [posI, pos_none fun j m' hj => ?_]
      rw [hxm.id] at hne
      by_cases h1 : j < a
      · have := hlo j m' h1 hj; omega
      · by_cases e : j = a
        · subst e; rw [hm] at hj; cases hj; exact hne
        · have := hhi a m (by omega) hm
          have := hr a j m m' (by omega) hm hj
          omega
  · refine k' _ ?_
    rw [posI, pos_none fun j m' hj => ?_]
    have := some_lt hj
    have := hlo j m' (by omega) hj
    omega
end Go.Proofs.Ytmmkhlalhalomaa
