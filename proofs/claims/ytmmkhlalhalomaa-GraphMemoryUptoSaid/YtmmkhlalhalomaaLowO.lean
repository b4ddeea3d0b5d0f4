import Derived.Test.YtmmkhlalhalomaaRows
import Derived.Test.YtmmkhlalhalomaaLowM
import Derived.WalkKit
import Derived.ProofKit
import Derived.OpenShut
import Derived.JoinedCond
set_option linter.unusedVariables false
set_option linter.unusedSectionVars false
set_option linter.unusedSimpArgs false
/-! What a reading gives: rows, texts, numbers, and how much of them there is; and what stays as it read. -/
namespace Go.Proofs.Ytmmkhlalhalomaa
open Go Go.Low Go.ChangeShapes Go.WideShapes Go.ChangeAt Go.RowKit
/-- whatever reads as data of type t: its cells are f a, it is b, of weight at most its bulk -/
def Opens (P : Program) (t : TypeId) {α β : Type} (f : α → List Value) (R : World → α → β → Prop) (wt : β → Nat) : Prop :=
  ∀ {H : Type} {enc : TypeId × Value → H} {w : World} {n : Nat} {cs : List Value} {x : DataW H × List MemPlace}, DataW.trod enc P w 0 (fun _ => true) true n t cs = some x → ∃ a b, cs = f a ∧ R w a b ∧ wt b ≤ Rows.uptoBulk x.1
theorem bulk_one {H : Type} (d : DataW H) : 1 ≤ Rows.uptoBulk d := by
  cases d with
  | lit l => cases l <;> simp [Rows.uptoBulk]
  | nil => simp [Rows.uptoBulk]
  | ptr d => simp [Rows.uptoBulk]
  | slice elems spare => simp [Rows.uptoBulk]
  | agg parts => simp [Rows.uptoBulk]
  | iface t d => simp [Rows.uptoBulk]
  | map entries => simp [Rows.uptoBulk]
  | held h => simp [Rows.uptoBulk]
section
variable {P : Program} {t e : TypeId}
theorem op_int {k : IntKind} (ht : P.underlying t = some (.int k)) : Opens P t (fun i : Int => [.int k i]) (fun _ (a b : Int) => a = b ∧ (Lit.int k b).wf = true) (fun _ => 1) := fun h => by
  obtain ⟨n, rfl, rfl, hw⟩ := DataW.trod_int ht h
  exact ⟨n, n, rfl, ⟨rfl, hw⟩, by simp [Rows.uptoBulk]⟩
theorem op_bool (ht : P.underlying t = some .bool) : Opens P t (fun i : Bool => [.bool i]) (fun _ (a b : Bool) => a = b) (fun _ => 1) := fun {H enc w n cs x} h => by
  cases n with
  | zero => simp [DataW.trod] at h
  | succ n =>
    unfold DataW.trod at h
    rw [ht] at h
    split at h <;> simp_all
    rw [← h]
    simp [Rows.uptoBulk]
theorem op_u8 (ht : P.underlying t = some (.int .u8)) : Opens P t u8 (fun _ (a b : UInt8) => a = b) (fun _ => 1) := fun h => by
  obtain ⟨n, rfl, rfl, hw⟩ := DataW.trod_int ht h
  have : 0 ≤ n ∧ n ≤ 255 := by simpa [Lit.wf, IntKind.min, IntKind.max, IntKind.signed, IntKind.bits] using hw
  refine ⟨UInt8.ofNat n.toNat, _, ?_, rfl, by simp [Rows.uptoBulk]⟩
  simp only [u8, UInt8.toNat_ofNat']
  congr 2
  omega
theorem op_str (ht : P.underlying t = some .string) : Opens P t (fun s : ByteArray => [.string s]) (fun _ (a b : ByteArray) => a = b) (fun s => s.size + 1) := fun h => by
  obtain ⟨s, rfl, rfl, hw⟩ := DataW.trod_string ht h
  refine ⟨s, s, rfl, rfl, ?_⟩
  simp only [Rows.uptoBulk]
  have : s.data.toList.length = s.size := by rw [Array.length_toList]; rfl
  omega
/-- a row whose elements are what bs says -/
def RowX {α β : Type} (sz : Nat) (f : α → List Value) (R : World → α → β → Prop) (w : World) (s : Sl) (bs : List β) : Prop :=
  ∃ xs : List α, Row w s sz f xs ∧ xs.length = bs.length ∧ ∀ (i : Nat) a b, xs[i]? = some a → bs[i]? = some b → R w a b
theorem bulk_sum {H : Type} {β : Type} {wt : β → Nat} : ∀ {ds : List (DataW H)} {bs : List β}, ds.length = bs.length → (∀ (i : Nat) d b, ds[i]? = some d → bs[i]? = some b → wt b ≤ Rows.uptoBulk d) → (bs.map wt).sum ≤ Rows.uptoBulkAll ds
  | [], [], _, _ => by simp [Rows.uptoBulkAll]
  | [], _ :: _, h, _ => by simp at h
  | _ :: _, [], h, _ => by simp at h
  | d :: ds, b :: bs, hl, h => by
    have h0 := h 0 d b rfl rfl
    have := bulk_sum (ds := ds) (bs := bs) (by simpa using hl) fun i d' b' h1 h2 => h (i + 1) d' b' (by simpa using h1) (by simpa using h2)
    simp only [List.map_cons, List.sum_cons, Rows.uptoBulkAll]
    omega
theorem cellsAt_of {w : World} {b : Addr} {cs : List Value} : ∀ {i : Nat}, (∀ (j : Nat) v, cs[j]? = some v → w.cell? (b.add (i + j)) = some v) → CellsAt w b i cs := by
  induction cs with
  | nil => intro i _; trivial
  | cons c r ih =>
    intro i h
    exact ⟨h 0 c rfl, ih fun j v hj => by have := h (j + 1) v (by simpa using hj); rw [show i + 1 + j = i + (j + 1) by omega]; exact this⟩
theorem exists_list {α : Type} {p : Nat → α → Prop} : ∀ n : Nat, (∀ i, i < n → ∃ a, p i a) → ∃ l : List α, l.length = n ∧ ∀ (i : Nat) a, l[i]? = some a → p i a
  | 0, _ => ⟨[], rfl, fun i a h => by simp at h⟩
  | n + 1, h => by
    obtain ⟨l, hl, hp⟩ := exists_list n fun i hi => h i (by omega)
    obtain ⟨a, ha⟩ := h n (by omega)
    refine ⟨l ++ [a], by simp [hl], fun i b hb => ?_⟩
    by_cases hi : i < l.length
    · rw [List.getElem?_append_left hi] at hb; exact hp i b hb
    · rw [List.getElem?_append_right (by omega)] at hb
      have : i - l.length = 0 := by
        have := (List.getElem?_eq_some_iff.1 hb).1; simp at this; omega
      rw [this] at hb
      cases hb
      have : i = n := by omega
      rw [this]; exact ha
theorem flat_get {α : Type} {f : α → List Value} {sz : Nat} (hf : ∀ x, (f x).length = sz) : ∀ {xs : List α} {j : Nat} {v : Value}, (xs.flatMap f)[j]? = some v → ∃ (i : Nat) (k : Nat) (x : α), xs[i]? = some x ∧ (f x)[k]? = some v ∧ j = i * sz + k ∧ k < sz
  | [], j, v, h => by simp at h
  | x :: r, j, v, h => by
    simp only [List.flatMap_cons] at h
    by_cases hj : j < (f x).length
    · rw [List.getElem?_append_left hj] at h
      exact ⟨0, j, x, rfl, h, by omega, by rw [← hf x]; exact hj⟩
    · rw [List.getElem?_append_right (by omega)] at h
      obtain ⟨i, k, y, h1, h2, h3, h4⟩ := flat_get hf h
      have := hf x
      exact ⟨i + 1, k, y, by simpa using h1, h2, by rw [Nat.add_mul]; omega, h4⟩
theorem op_slice {α β : Type} {f : α → List Value} {R : World → α → β → Prop} {wt : β → Nat} {sz : Nat} (ht : P.underlying t = some (.slice e)) (hsz : P.cellsOf e = sz) (hf : ∀ x, (f x).length = sz) (he : Opens P e f R wt) :
    Opens P t (fun s : Sl => [Sl.v s]) (RowX sz f R) (fun bs => (bs.map wt).sum + 1) := fun {H enc w n cs x} h => by
  rcases DataW.trod_slice ht h with ⟨rfl, rfl⟩ | ⟨a, len, cap, elems, rest, m, _, rfl, rfl, _, hlc, hcm, hel, hall, _⟩
  · exact ⟨⟨none, 0, 0⟩, [], rfl, ⟨[], ⟨rfl, Nat.le_refl _, by decide, fun _ => rfl, fun x hx => (by cases hx), fun b hb => (by cases hb)⟩, rfl, fun i a b h => by simp at h⟩, by simp [Rows.uptoBulk]⟩
  · have key : ∀ i, i < len → ∃ p : α × β, w.cells? 0 (a.add (i * sz)) sz = some (f p.1) ∧ R w p.1 p.2 ∧ ∃ y, elems[i]? = some y ∧ wt p.2 ≤ Rows.uptoBulk y.1 := by
      intro i hi
      have h1 := hall i hi
      rw [hsz] at h1
      obtain ⟨y, hy⟩ : ∃ y, elems[i]? = some y := ⟨_, List.getElem?_eq_getElem (by omega)⟩
      rw [hy, Option.bind_eq_some_iff] at h1
      obtain ⟨cs', hc, ht'⟩ := h1
      obtain ⟨a', b', rfl, hR, hw⟩ := he ht'
      exact ⟨(a', b'), hc, hR, y, hy, hw⟩
    obtain ⟨l, hl, hp⟩ := exists_list len key
    refine ⟨⟨some a, len, cap⟩, l.map (·.2), rfl, ⟨l.map (·.1), ⟨by simp [hl], hlc, ?_, fun h => (by cases h), fun x _ => hf x, fun b hb => ?_⟩, by simp, fun i a' b' h1 h2 => ?_⟩, ?_⟩
    · have : maxLen = 9223372036854775807 := by decide
      show cap < _
      omega
    · cases hb
      refine cellsAt_of fun j v hj => ?_
      obtain ⟨i, k, y, h1, h2, rfl, hk⟩ := flat_get hf hj
      rw [List.getElem?_map, Option.map_eq_some_iff] at h1
      obtain ⟨p, hpi, rfl⟩ := h1
      obtain ⟨hc, _⟩ := hp i p hpi
      obtain ⟨_, _, hcell⟩ := World.cells?_some hc
      have := hcell k hk
      rw [h2, add_add] at this
      rw [Nat.zero_add]; exact this
    · rw [List.getElem?_map, Option.map_eq_some_iff] at h1 h2
      obtain ⟨p, hpi, rfl⟩ := h1
      obtain ⟨q, hqi, rfl⟩ := h2
      rw [hpi] at hqi
      cases hqi
      exact (hp i p hpi).2.1
    · simp only [Rows.uptoBulk]
      have := bulk_sum (wt := wt) (ds := elems.map (·.1)) (bs := l.map (·.2)) (by simp [hl, hel]) fun i d b h1 h2 => by
        rw [List.getElem?_map, Option.map_eq_some_iff] at h1 h2
        obtain ⟨y, hy, rfl⟩ := h1
        obtain ⟨p, hpi, rfl⟩ := h2
        obtain ⟨_, _, y', hy', hw⟩ := hp i p hpi
        rw [hy] at hy'
        cases hy'
        exact hw
      omega
/-- a struct's fields -/
theorem open_fields {fs : Array Field} {H : Type} {enc : TypeId × Value → H} {w : World} {n : Nat} {cs : List Value} {x : DataW H × List MemPlace} (ht : P.underlying t = some (.struct fs)) (h : DataW.trod enc P w 0 (fun _ => true) true n t cs = some x) :
    ∃ (xs : List (DataW H × List MemPlace)) (m : Nat), x.1 = .agg (xs.map (·.1)) ∧ cs.length = P.cellsOf t ∧ xs.length = fs.size ∧ ∀ (i ty off s : Nat) y, xs[i]? = some y → (fs[i]?).map (fun f => (f.type, f.offset)) = some (ty, off) → P.cellsOf ty = s → DataW.trod enc P w 0 (fun _ => true) true m ty ((cs.drop off).take s) = some y := by
  obtain ⟨xs, m, _, rfl, hl, hlen, hf⟩ := DataW.trod_struct ht h
  refine ⟨xs, m, rfl, hl, hlen, fun i ty off s y hy hfi hs => ?_⟩
  rw [Option.map_eq_some_iff] at hfi
  obtain ⟨f, hfi, he⟩ := hfi
  cases he
  have := hf i f hfi
  rw [hy, hs] at this
  exact this
end
/-! ### behind the call -/
theorem same_of_ext {W W' : World} (h : Ext W W') {p : MemPlace} (hp : p.block < W.heap.size) : W.sameAt W' p := by
  cases p with
  | cell b off =>
    have := h.2 b hp
    simp only [World.sameAt, World.cell?, this]
  | map b => exact h.2 b hp
theorem again_of_ext {H : Type} {enc : TypeId × Value → H} {P : Program} {W W' : World} (h : Ext W W') : ∀ {ts : List TypeId} {vs : List Value} {ds : List (DataW H)} {ps : List MemPlace}, DataW.TrodAll enc P W 0 (fun _ => true) true ts vs ds ps → (∀ p ∈ ps, p.block < W.heap.size) → DataW.TrodAll enc P W' 0 (fun _ => true) true ts vs ds ps
  | [], [], [], _, hh, _ => hh
  | _ :: _, _ :: _, _ :: _, _, ⟨p, q, ⟨n, h1⟩, h2, e⟩, hp => ⟨p, q, ⟨n, DataW.trod_carry n _ _ _ h1 fun x hx => same_of_ext h (hp x (by rw [e]; exact List.mem_append_left _ hx))⟩, again_of_ext h h2 fun x hx => hp x (by rw [e]; exact List.mem_append_right _ hx), e⟩
theorem kept_of_ext {W W' : World} (h : Ext W W') (may : MemPlace → Prop) : W.keptBut W' may := by
  refine ⟨h.os, h.out, fun i hi => ?_⟩
  rw [h.2 i hi]
  cases hq : W.heap[i]? with
  | none => rfl
  | some o =>
    cases o with
    | cells c t fr => exact ⟨rfl, rfl, rfl, fun _ _ => rfl⟩
    | map es c => exact .inr ⟨rfl, rfl⟩
    | _ => rfl
theorem frozen_of_ext {W W' : World} (h : Ext W W') {a : Addr} (ha : a.block < W.heap.size) : W'.frozen? a = W.frozen? a := by
  simp only [World.frozen?, h.2 a.block ha]
/-- a call that leaves what was there as it was, and answers a bool -/
theorem post_of_ext {H : Type} {enc : TypeId × Value → H} {P : Program} {f : Func} {s : ChangeSpec} {apart fresh handsOn again : Bool} {W W' : World} {args : Array Value} {v : Value} {ds gs : List (DataW H)} {before pa pv : List MemPlace}
    (hW : DataW.Whole enc P f.params.toList s.vars apart W args.toList ds gs before)
    (hres : ∀ (b : Nat) (sp : Nat → Bool) (hd : Bool), DataW.TrodAll enc P W' b sp hd f.resultTypes.toList (v.resultList f.resultTypes.size) (s.fn H (ds ++ gs)).results [])
    (hargs : ∀ sp : Nat → Bool, (∀ p ∈ before, sp p.block = true) → DataW.TrodAll enc P W' 0 sp true f.params.toList args.toList (s.fn H (ds ++ gs)).args pa)
    (hvars : ∀ sp : Nat → Bool, (∀ p ∈ before, sp p.block = true) → DataW.TrodVars enc P W' sp s.vars (s.fn H (ds ++ gs)).vars pv)
    (hps : before = pa ++ pv) (hE : Ext W W')
    (hok : ∀ (j : Nat) (t : TypeId) (r : Value), f.resultTypes[j]? = some t → (v.resultList f.resultTypes.size)[j]? = some r → Value.okWide P W' .any 0 t r) :
    s.post enc P f apart fresh handsOn again W args v W' := by
  have hlt := hW.lt
  have hold : ∀ p ∈ before, (fun b => decide (b < W.heap.size)) p.block = true := fun p hp => by simpa using hlt p hp
  refine ⟨ds, gs, before, [], pa, pv, hW, hres _ _ _, hargs _ hold, hvars _ hold, World.keptBut_mono (fun p hp => ⟨hp, ?_⟩) (kept_of_ext hE (· ∈ before)), fun _ => ?_⟩
  · rw [hps, List.mem_append] at hp
    exact Or.inr hp
  · obtain ⟨_, _, _, _, _, hz, hn⟩ := hW
    refine ⟨hok, _, _, ([] ++ pa) ++ pv, ⟨[] ++ pa, pv, trodAll_append (hargs _ (fun _ _ => rfl)) (hres _ _ _), hvars _ (fun _ _ => rfl), rfl, ?_, ?_⟩, ?_⟩
    · intro b off hp
      have hp' : MemPlace.cell b off ∈ before := by rw [hps]; simpa using hp
      rw [frozen_of_ext hE (hlt _ hp')]
      exact hz b off hp'
    · intro ha
      have := hn ha
      rw [hps] at this
      simpa using this
    · intro p hp _
      rw [hps]
      simpa using hp
end Go.Proofs.Ytmmkhlalhalomaa
