/- plain: words, their traces, normal forms -/
namespace Go.Proofs.YtopfcpnilblieaaGreatDoor.Tr
variable {α : Type} [DecidableEq α]

/-- Words of the same trace: the same projections on all dependent pairs. -/
def Same (D : α → α → Bool) (u v : List α) : Prop :=
  ∀ a b, D a b = true → u.filter (fun x => x == a || x == b) = v.filter (fun x => x == a || x == b)

theorem Same.refl (D : α → α → Bool) (u : List α) : Same D u u := fun _ _ _ => rfl
theorem Same.symm {D : α → α → Bool} {u v : List α} (h : Same D u v) : Same D v u := fun a b e => (h a b e).symm
theorem Same.trans {D : α → α → Bool} {u v w : List α} (h : Same D u v) (k : Same D v w) : Same D u w :=
  fun a b e => (h a b e).trans (k a b e)
theorem Same.append {D : α → α → Bool} {u v u' v' : List α} (h : Same D u v) (k : Same D u' v') : Same D (u ++ u') (v ++ v') :=
  fun a b e => by rw [List.filter_append, List.filter_append, h a b e, k a b e]
theorem Same.cons {D : α → α → Bool} {u v : List α} (h : Same D u v) (c : α) : Same D (c :: u) (c :: v) :=
  Same.append (Same.refl D [c]) h

theorem Same.of_cons {D : α → α → Bool} {u v : List α} {c : α} (h : Same D (c :: u) (c :: v)) : Same D u v := by
  intro a b e
  have := h a b e
  simp only [List.filter_cons] at this
  split at this
  · injection this
  · exact this

/-- A letter moves ahead of letters on which it does not depend. -/
theorem same_front {D : α → α → Bool} (hr : ∀ a, D a a = true) (hsym : ∀ a b, D a b = D b a) {a : α} :
    ∀ (p q : List α), (∀ b ∈ p, D a b = false) → Same D (p ++ a :: q) (a :: (p ++ q)) := by
  intro p q hp
  intro x y e
  simp only [List.filter_append, List.filter_cons]
  by_cases hax : (a == x || a == y) = true
  · have : p.filter (fun z => z == x || z == y) = [] := by
      rw [List.filter_eq_nil_iff]
      intro z hz hzz
      have h1 := hp z hz
      have h2 := hr z
      simp only [Bool.or_eq_true, beq_iff_eq] at hax hzz
      rcases hax with rfl | rfl <;> rcases hzz with rfl | rfl
      · rw [h2] at h1; cases h1
      · rw [h1] at e; cases e
      · rw [hsym, e] at h1; cases h1
      · rw [h2] at h1; cases h1
    simp [this, hax]
  · simp [hax]

/-- The letter 'a' can stand first. -/
def First (D : α → α → Bool) (u : List α) (a : α) : Prop := ∃ p q, u = p ++ a :: q ∧ ∀ b ∈ p, D a b = false

theorem Same.mem {D : α → α → Bool} (hr : ∀ a, D a a = true) {u v : List α} (h : Same D u v) {a : α} (ha : a ∈ u) : a ∈ v := by
  have := h a a (hr a)
  have h1 : a ∈ u.filter (fun x => x == a || x == a) := by simp [ha]
  rw [this] at h1
  exact (List.mem_filter.1 h1).1

theorem split_mem {a : α} : ∀ {u : List α}, a ∈ u → ∃ p q, u = p ++ a :: q ∧ a ∉ p
  | b :: u, h => by
    by_cases e : a = b
    · exact ⟨[], u, by simp [e], by simp⟩
    · obtain ⟨p, q, rfl, hp⟩ := split_mem (u := u) (by simpa [e] using h)
      exact ⟨b :: p, q, rfl, by simp [e, hp]⟩

theorem First.same {D : α → α → Bool} (hr : ∀ a, D a a = true) (hsym : ∀ a b, D a b = D b a) {u v : List α} (h : Same D u v) {a : α} (ha : First D u a) : First D v a := by
  obtain ⟨p, q, rfl, hp⟩ := ha
  have hm : a ∈ v := h.mem hr (by simp)
  obtain ⟨p', q', rfl, hp'⟩ := split_mem hm
  refine ⟨p', q', rfl, fun b hb => ?_⟩
  cases hd : D a b with
  | false => rfl
  | true =>
    exfalso
    have hk := h a b hd
    have hk2 := (same_front hr hsym p q hp) a b hd
    rw [hk2] at hk
    simp only [List.filter_cons, List.filter_append] at hk
    simp only [beq_self_eq_true, Bool.true_or, if_true] at hk
    have hne : p'.filter (fun x => x == a || x == b) ≠ [] := by
      intro e
      rw [List.filter_eq_nil_iff] at e
      exact e b hb (by simp)
    obtain ⟨c, l, hl⟩ := List.exists_cons_of_ne_nil hne
    rw [hl] at hk
    injection hk with h1 _
    have : c ∈ p'.filter (fun x => x == a || x == b) := by rw [hl]; simp
    exact hp' (h1 ▸ (List.mem_filter.1 this).1)

theorem erase_split {a : α} : ∀ (p q : List α), a ∉ p → (p ++ a :: q).erase a = p ++ q
  | [], q, _ => by simp
  | b :: p, q, h => by
    have hb : ¬ b = a := fun e => h (by simp [e])
    have hp : a ∉ p := fun hm => h (List.mem_cons_of_mem _ hm)
    show (b :: (p ++ a :: q)).erase a = b :: (p ++ q)
    rw [List.erase_cons_tail (by simpa using hb), erase_split p q hp]

theorem First.split {D : α → α → Bool} (hr : ∀ a, D a a = true) {u : List α} {a : α} (h : First D u a) : ∃ p q, u = p ++ a :: q ∧ a ∉ p ∧ (∀ b ∈ p, D a b = false) ∧ u.erase a = p ++ q := by
  obtain ⟨p, q, rfl, hp⟩ := h
  have : a ∉ p := fun hm => by have := hp a hm; rw [hr] at this; cases this
  exact ⟨p, q, rfl, this, hp, erase_split p q this⟩

theorem First.same_cons {D : α → α → Bool} (hr : ∀ a, D a a = true) (hsym : ∀ a b, D a b = D b a) {u : List α} {a : α} (h : First D u a) : Same D u (a :: u.erase a) := by
  obtain ⟨p, q, rfl, _, hp, he⟩ := h.split hr
  rw [he]
  exact same_front hr hsym p q hp

theorem Same.erase {D : α → α → Bool} (hr : ∀ a, D a a = true) (hsym : ∀ a b, D a b = D b a) {u v : List α} (h : Same D u v) {a : α} (ha : First D u a) : Same D (u.erase a) (v.erase a) :=
  Same.of_cons (c := a) (((ha.same_cons hr hsym).symm.trans h).trans ((ha.same hr hsym h).same_cons hr hsym))

theorem Same.length {D : α → α → Bool} (hr : ∀ a, D a a = true) (hsym : ∀ a b, D a b = D b a) : ∀ {u v : List α}, Same D u v → u.length = v.length
  | [], v, h => by
    cases v with
    | nil => rfl
    | cons b v => have := h.symm.mem hr (a := b) (by simp); simp at this
  | a :: u, v, h => by
    have ha : First D (a :: u) a := ⟨[], u, rfl, by simp⟩
    have h1 := h.erase hr hsym ha
    have hm : a ∈ v := h.mem hr (by simp)
    simp only [List.erase_cons_head] at h1
    have := Same.length hr hsym h1
    rw [List.length_erase_of_mem hm] at this
    have : 0 < v.length := List.length_pos_of_mem hm
    simp; omega

/-- Can the letter stand first? By a look from the front. -/
def isFirst (D : α → α → Bool) : List α → α → Bool
  | [], _ => false
  | b :: u, a => b == a || (!D b a && isFirst D u a)

theorem isFirst_iff (D : α → α → Bool) (hsym : ∀ a b, D a b = D b a) (hr : ∀ a, D a a = true) (a : α) : ∀ u, isFirst D u a = true ↔ First D u a
  | [] => by
    constructor
    · intro h; cases h
    · rintro ⟨p, q, h, _⟩; cases p <;> cases h
  | b :: u => by
    simp only [isFirst, Bool.or_eq_true, beq_iff_eq, Bool.and_eq_true, Bool.not_eq_true']
    rw [isFirst_iff D hsym hr a u]
    constructor
    · rintro (rfl | ⟨h1, p, q, rfl, hp⟩)
      · exact ⟨[], u, rfl, by simp⟩
      · refine ⟨b :: p, q, rfl, ?_⟩
        intro c hc
        rcases List.mem_cons.1 hc with rfl | hc
        · rw [hsym]; exact h1
        · exact hp c hc
    · rintro ⟨p, q, h, hp⟩
      cases p with
      | nil => left; injection h
      | cons c p =>
        injection h with h1 h2
        subst h1
        right
        exact ⟨by rw [hsym]; exact hp b (by simp), p, q, h2, fun d hd => hp d (by simp [hd])⟩

theorem isFirst_same {D : α → α → Bool} (hr : ∀ a, D a a = true) (hsym : ∀ a b, D a b = D b a) {u v : List α} (h : Same D u v) (a : α) : isFirst D u a = isFirst D v a := by
  rw [Bool.eq_iff_iff, isFirst_iff D hsym hr, isFirst_iff D hsym hr]
  exact ⟨First.same hr hsym h, First.same hr hsym h.symm⟩

theorem isFirst_head (D : α → α → Bool) (a : α) (u : List α) : isFirst D (a :: u) a = true := by simp [isFirst]

/-! ### The normal form -/
/-- The next letter: the least one that can stand first. -/
def next (D : Nat → Nat → Bool) (N : Nat) (w : List Nat) : Option Nat := (List.range N).find? (isFirst D w)

def normal (D : Nat → Nat → Bool) (N : Nat) : Nat → List Nat → List Nat
  | 0, _ => []
  | n + 1, w => match next D N w with
    | none => []
    | some a => a :: normal D N n (w.erase a)

theorem next_same {D : Nat → Nat → Bool} (hr : ∀ a, D a a = true) (hsym : ∀ a b, D a b = D b a) (N : Nat) {u v : List Nat} (h : Same D u v) : next D N u = next D N v := by
  unfold next
  congr 1
  funext a
  exact isFirst_same hr hsym h a

theorem next_some {D : Nat → Nat → Bool} {N : Nat} {w : List Nat} (hw : ∀ a ∈ w, a < N) (hne : w ≠ []) : ∃ a, next D N w = some a ∧ isFirst D w a = true := by
  cases w with
  | nil => exact absurd rfl hne
  | cons b w =>
    have hb : b ∈ List.range N := List.mem_range.2 (hw b (by simp))
    have : (next D N (b :: w)).isSome := by
      unfold next
      rw [List.find?_isSome]
      exact ⟨b, hb, isFirst_head D b w⟩
    obtain ⟨a, ha⟩ := Option.isSome_iff_exists.1 this
    exact ⟨a, ha, List.find?_some ha⟩

theorem normal_same {D : Nat → Nat → Bool} (hr : ∀ a, D a a = true) (hsym : ∀ a b, D a b = D b a) (N : Nat) : ∀ (n : Nat) {u v : List Nat}, Same D u v → normal D N n u = normal D N n v
  | 0, _, _, _ => rfl
  | n + 1, u, v, h => by
    unfold normal
    rw [next_same hr hsym N h]
    cases hv : next D N v with
    | none => rfl
    | some a =>
      have hf : First D v a := (isFirst_iff D hsym hr a v).1 (List.find?_some hv)
      exact congrArg (a :: ·) (normal_same hr hsym N n (h.erase hr hsym (hf.same hr hsym h.symm)))

theorem same_normal {D : Nat → Nat → Bool} (hr : ∀ a, D a a = true) (hsym : ∀ a b, D a b = D b a) {N : Nat} : ∀ (n : Nat) (w : List Nat), (∀ a ∈ w, a < N) → w.length ≤ n → Same D w (normal D N n w)
  | 0, w, _, hn => by
    obtain rfl : w = [] := List.eq_nil_of_length_eq_zero (by omega)
    exact Same.refl D _
  | n + 1, w, hw, hn => by
    cases w with
    | nil =>
      have : next D N [] = none := by simp [next, isFirst]
      unfold normal
      rw [this]
      exact Same.refl D _
    | cons b w =>
      obtain ⟨a, ha, hf⟩ := next_some (D := D) hw (by simp)
      unfold normal
      rw [ha]
      have hF : First D (b :: w) a := (isFirst_iff D hsym hr a _).1 hf
      obtain ⟨p, q, hs, hap, _, he⟩ := hF.split hr
      refine (hF.same_cons hr hsym).trans (Same.cons (same_normal hr hsym n _ (fun c hc => hw c (List.mem_of_mem_erase hc)) ?_) a)
      have hm : a ∈ b :: w := by rw [hs]; simp
      rw [List.length_erase_of_mem hm]
      simp at hn ⊢
      omega

theorem normal_eq_iff {D : Nat → Nat → Bool} (hr : ∀ a, D a a = true) (hsym : ∀ a b, D a b = D b a) {N n : Nat} {u v : List Nat} (hu : ∀ a ∈ u, a < N) (hv : ∀ a ∈ v, a < N) (hun : u.length ≤ n) (hvn : v.length ≤ n) :
    normal D N n u = normal D N n v ↔ Same D u v :=
  ⟨fun h => ((same_normal hr hsym n u hu hun).trans (h ▸ Same.refl D _)).trans (same_normal hr hsym n v hv hvn).symm, normal_same hr hsym N n⟩

/-! ### The Foata form: steps as predicates given by lists of sets -/
end Go.Proofs.YtopfcpnilblieaaGreatDoor.Tr
