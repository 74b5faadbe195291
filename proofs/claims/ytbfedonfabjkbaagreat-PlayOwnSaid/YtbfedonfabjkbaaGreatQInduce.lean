import Derived.Test.YtbfedonfabjkbaaGreatQSa
namespace Go.Proofs.Whorl

/-- Small and large places of numbers: 'S i' tells that the ending at i is less than the next one. -/
structure Typed (s : List Int) (S : Nat → Bool) : Prop where
  last : ∀ i, s.length ≤ i + 1 → S i = false
  step : ∀ i, i + 1 < s.length → (S i = true ↔ gd s i < gd s (i + 1) ∨ (gd s i = gd s (i + 1) ∧ S (i + 1) = true))

theorem Typed.large {s : List Int} {S : Nat → Bool} (h : Typed s S) {i : Nat} (hi : i + 1 < s.length) (hl : S i = false) :
    gd s (i + 1) < gd s i ∨ (gd s i = gd s (i + 1) ∧ S (i + 1) = false) := by
  have h1 := h.step i hi
  have h2 : ¬ (gd s i < gd s (i + 1) ∨ (gd s i = gd s (i + 1) ∧ S (i + 1) = true)) := by
    intro h3; rw [h1.2 h3] at hl; exact absurd hl (by decide)
  cases hc : S (i + 1) with
  | true => rw [hc] at h2; simp only [and_true] at h2; left; omega
  | false => rw [hc] at h2; simp only [Bool.false_eq_true, and_false, or_false] at h2; rcases Int.lt_or_eq_of_le (Int.not_lt.1 h2) with h4 | h4
             · exact .inl h4
             · exact .inr ⟨h4.symm, rfl⟩

/-- How many places below n have p. -/
def cnt (n : Nat) (p : Nat → Bool) : Nat := (List.range n).countP p

theorem nodup_le_cnt {n : Nat} {p : Nat → Bool} {a : List Nat} (hn : a.Nodup) (h : ∀ x ∈ a, x < n ∧ p x = true) : a.length ≤ cnt n p := by
  have := hn.length_le_of_subset (l₂ := (List.range n).filter p) (by
    intro x hx
    rw [List.mem_filter, List.mem_range]
    exact h x hx)
  rw [cnt, List.countP_eq_length_filter]
  exact this

/-- Distinct values at places a to b of a row, all with p, and one more that is not there. -/
theorem row_lt_cnt {n : Nat} {p : Nat → Bool} {row : List Int} {a b x : Nat} (hab : a ≤ b)
    (hd : ∀ i j, a ≤ i → i < j → j < b → gd row i ≠ gd row j)
    (h : ∀ i, a ≤ i → i < b → ∃ y : Nat, gd row i = (y : Int) ∧ y < n ∧ p y = true ∧ y ≠ x) (hx : x < n) (hp : p x = true) : b - a < cnt n p := by
  have h1 : (x :: (List.range (b - a)).map (fun i => (gd row (a + i)).toNat)).Nodup := by
    rw [List.nodup_cons]
    constructor
    · intro hm
      obtain ⟨i, hi, he⟩ := List.mem_map.1 hm
      rw [List.mem_range] at hi
      obtain ⟨y, hy, _, _, hne⟩ := h (a + i) (by omega) (by omega)
      rw [hy] at he
      omega
    · rw [List.Nodup, List.pairwise_iff_getElem]
      intro i j hi hj hij he
      simp only [List.length_map, List.length_range] at hi hj
      simp only [List.getElem_map, List.getElem_range] at he
      obtain ⟨y, hy, _⟩ := h (a + i) (by omega) (by omega)
      obtain ⟨z, hz, _⟩ := h (a + j) (by omega) (by omega)
      refine hd (a + i) (a + j) (by omega) (by omega) (by omega) ?_
      rw [hy, hz] at he ⊢
      omega
  have h2 := nodup_le_cnt (n := n) (p := p) h1 (by
    intro y hy
    rcases List.mem_cons.1 hy with rfl | hy
    · exact ⟨hx, hp⟩
    · obtain ⟨i, hi, rfl⟩ := List.mem_map.1 hy
      rw [List.mem_range] at hi
      obtain ⟨y, hy, h3, h4, _⟩ := h (a + i) (by omega) (by omega)
      rw [hy]
      simpa using ⟨h3, h4⟩)
  simp at h2
  omega

theorem gd_set {l : List Int} {i j : Nat} {x : Int} (hi : i < l.length) : gd (l.set i x) j = if i = j then x else gd l j := by
  simp only [gd, List.getD_eq_getElem?_getD, List.getElem?_set]
  by_cases h : i = j
  · subst h; simp [hi]
  · simp [h]

/-- Buckets: where they begin, how many large places each has. -/
structure Buckets (s : List Int) (S : Nat → Bool) (k : Nat) (Bs nL nS : Nat → Nat) : Prop where
  cL : ∀ c, c < k → nL c = cnt s.length (fun x => !S x && gd s x == (c : Int))
  cS : ∀ c, c < k → nS c = cnt s.length (fun x => S x && gd s x == (c : Int))
  step : ∀ c, c < k → Bs (c + 1) = Bs c + nL c + nS c
  zero : Bs 0 = 0
  all : Bs k = s.length
  range : ∀ i, i < s.length → 0 ≤ gd s i ∧ gd s i < (k : Int)

namespace Buckets
variable {s : List Int} {S : Nat → Bool} {k : Nat} {Bs nL nS : Nat → Nat}
theorem mono (h : Buckets s S k Bs nL nS) {a b : Nat} (hab : a ≤ b) (hb : b ≤ k) : Bs a ≤ Bs b := by
  induction b with
  | zero => have : a = 0 := by omega
            subst this; exact Nat.le_refl _
  | succ b ih =>
    by_cases e : a = b + 1
    · subst e; exact Nat.le_refl _
    · have := ih (by omega) (by omega)
      have := h.step b (by omega)
      omega
theorem find (h : Buckets s S k Bs nL nS) {p : Nat} (hp : p < s.length) : ∃ c, c < k ∧ Bs c ≤ p ∧ p < Bs (c + 1) := by
  have key : ∀ m, m ≤ k → p < Bs m → ∃ c, c < m ∧ Bs c ≤ p ∧ p < Bs (c + 1) := by
    intro m
    induction m with
    | zero => intro _ h0; rw [h.zero] at h0; omega
    | succ m ih =>
      intro hm hlt
      by_cases e : p < Bs m
      · obtain ⟨c, h1, h2⟩ := ih (by omega) e
        exact ⟨c, by omega, h2⟩
      · exact ⟨m, by omega, by omega, hlt⟩
  exact key k (Nat.le_refl _) (by rw [h.all]; exact hp)
theorem char (h : Buckets s S k Bs nL nS) {x : Nat} (hx : x < s.length) : ∃ c, c < k ∧ gd s x = (c : Int) := by
  have := h.range x hx
  exact ⟨(gd s x).toNat, by omega, by omega⟩
end Buckets

/-- What the order of the first pass must be. -/
structure Ord1 (s : List Int) (S : Nat → Bool) (lt : Nat → Nat → Prop) : Prop where
  irrefl : ∀ x, ¬ lt x x
  fin : ∀ y, y < s.length → lt s.length y
  ch : ∀ x y, x < s.length → y < s.length → gd s x < gd s y → lt x y
  ty : ∀ x y, x < s.length → y < s.length → gd s x = gd s y → S x = false → S y = true → lt x y
  L : ∀ x y, x < s.length → y < s.length → gd s x = gd s y → S x = false → S y = false → lt (x + 1) (y + 1) → lt x y

/-- The first pass has looked at i places of the row. -/
structure Inv1 (s : List Int) (S : Nat → Bool) (k : Nat) (Bs nL nS : Nat → Nat) (lt : Nat → Nat → Prop) (q : Nat → Nat) (i : Nat) (row : List Int) : Prop where
  len : row.length = s.length
  q1 : ∀ c, c < k → Bs c ≤ q c
  q2 : ∀ c, c < k → q c ≤ Bs c + nL c
  lar : ∀ c p, c < k → Bs c ≤ p → p < q c → ∃ x : Nat, gd row p = (x : Int) ∧ x < s.length ∧ S x = false ∧ gd s x = (c : Int)
  rest : ∀ c p, c < k → q c ≤ p → p < Bs (c + 1) → gd row p = -1 ∨ (Bs c + nL c ≤ p ∧ ∃ x : Nat, gd row p = (x : Int) ∧ x < s.length ∧ S x = true ∧ gd s x = (c : Int))
  sorted : ∀ p p' (x y : Nat), p < p' → p' < s.length → gd row p = (x : Int) → gd row p' = (y : Int) → lt x y
  lms : ∀ x, x + 1 < s.length → S x = false → S (x + 1) = true → ∃ p, p < s.length ∧ gd row p = ((x + 1 : Nat) : Int)
  placed : ∀ x, x < s.length → S x = false → ((∃ p, p < s.length ∧ gd row p = (x : Int)) ↔ (x + 1 = s.length ∨ ∃ p, p < i ∧ p < s.length ∧ gd row p = ((x + 1 : Nat) : Int)))

variable {s : List Int} {S : Nat → Bool} {k : Nat} {Bs nL nS : Nat → Nat} {lt : Nat → Nat → Prop} {q : Nat → Nat} {i : Nat} {row : List Int}

/-- What stands at a place has the place's letter. -/
theorem Inv1.where_ (hB : Buckets s S k Bs nL nS) (h : Inv1 s S k Bs nL nS lt q i row) {p x : Nat} (hp : p < s.length) (hx : gd row p = (x : Int)) :
    ∃ c, c < k ∧ Bs c ≤ p ∧ p < Bs (c + 1) ∧ x < s.length ∧ gd s x = (c : Int) ∧ ((p < q c ∧ S x = false) ∨ (q c ≤ p ∧ S x = true)) := by
  obtain ⟨c, hc, h1, h2⟩ := hB.find hp
  refine ⟨c, hc, h1, h2, ?_⟩
  by_cases e : p < q c
  · obtain ⟨y, hy, h3, h4, h5⟩ := h.lar c p hc h1 e
    obtain rfl : x = y := by rw [hx] at hy; omega
    exact ⟨h3, h5, .inl ⟨e, h4⟩⟩
  · rcases h.rest c p hc (by omega) h2 with h3 | ⟨_, y, hy, h3, h4, h5⟩
    · rw [hx] at h3; omega
    · obtain rfl : x = y := by rw [hx] at hy; omega
      exact ⟨h3, h5, .inr ⟨by omega, h4⟩⟩

/-- The first pass lays a place. -/
theorem Inv1.lay (hB : Buckets s S k Bs nL nS) (hT : Typed s S) (hO : Ord1 s S lt) (h : Inv1 s S k Bs nL nS lt q i row) (hi : i < s.length) {x c : Nat}
    (hj : gd row i = ((x + 1 : Nat) : Int)) (hS : S x = false) (hc : gd s x = (c : Int)) :
    q c < s.length ∧ Inv1 s S k Bs nL nS lt (fun d => if d = c then q c + 1 else q d) (i + 1) (row.set (q c) (x : Int)) := by
  obtain ⟨cj, hcj, hi1, hi2, hxn, hsj, hty⟩ := h.where_ hB hi hj
  have hck : c < k := by have := hB.range x (by omega); omega
  have hlarge := hT.large hxn hS
  have hnot : ¬ ∃ p, p < s.length ∧ gd row p = (x : Int) := by
    intro hp
    rcases (h.placed x (by omega) hS).1 hp with e | ⟨p, h1, h2, h3⟩
    · omega
    · exact hO.irrefl _ (h.sorted p i (x + 1) (x + 1) h1 hi h3 hj)
  have hroom : q c - Bs c < nL c := by
    rw [hB.cL c hck]
    refine row_lt_cnt (row := row) (a := Bs c) (b := q c) (x := x) (h.q1 c hck) ?_ ?_ (by omega) (by simp [hS, hc])
    · intro p p' h1 h2 h3 he
      obtain ⟨y, hy, hyn, _, _⟩ := h.lar c p hck h1 (by omega)
      have hqn : q c ≤ s.length := by
        have := h.q2 c hck; have := hB.step c hck; have := hB.mono (a := c + 1) (b := k) (by omega) (by omega); have := hB.all; omega
      exact hO.irrefl _ (h.sorted p p' y y h2 (by omega) hy (by rw [← he]; exact hy))
    · intro p h1 h2
      obtain ⟨y, hy, h3, h4, h5⟩ := h.lar c p hck h1 h2
      refine ⟨y, hy, h3, by simp [h4, h5], ?_⟩
      rintro rfl
      refine hnot ⟨p, ?_, hy⟩
      have := h.q2 c hck; have := hB.step c hck; have := hB.mono (a := c + 1) (b := k) (by omega) (by omega); have := hB.all; omega
  have hend : Bs (c + 1) ≤ s.length := by have := hB.mono (a := c + 1) (b := k) (by omega) (by omega); have := hB.all; omega
  have hst := hB.step c hck
  have hq1 := h.q1 c hck
  have hqn : q c < s.length := by omega
  have hblank : gd row (q c) = -1 := by
    rcases h.rest c (q c) hck (Nat.le_refl _) (by omega) with h1 | ⟨h1, _⟩
    · exact h1
    · omega
  have hiq : i < q c := by
    by_cases e : gd s (x + 1) < gd s x
    · have h1 : cj < c := by omega
      have := hB.mono (a := cj + 1) (b := c) (by omega) (by omega)
      omega
    · obtain ⟨h1, h2⟩ : gd s x = gd s (x + 1) ∧ S (x + 1) = false := hlarge.resolve_left e
      obtain rfl : cj = c := by omega
      rcases hty with ⟨h3, _⟩ | ⟨_, h3⟩
      · exact h3
      · rw [h2] at h3; exact absurd h3 (by decide)
  have hset : ∀ p, gd (row.set (q c) (x : Int)) p = if q c = p then (x : Int) else gd row p := fun p => gd_set (by rw [h.len]; exact hqn)
  refine ⟨hqn, ⟨by simp [h.len], ?_, ?_, ?_, ?_, ?_, ?_, ?_⟩⟩
  · intro d hd
    by_cases e : d = c
    · subst e; simp; omega
    · simp [e]; exact h.q1 d hd
  · intro d hd
    by_cases e : d = c
    · subst e; simp; omega
    · simp [e]; exact h.q2 d hd
  · intro d p hd h1 h2
    rw [hset]
    by_cases e : d = c
    · subst e
      simp only [if_true] at h2
      by_cases e' : q d = p
      · exact ⟨x, by simp [e'], by omega, hS, hc⟩
      · rw [if_neg e']
        exact h.lar d p hd h1 (by omega)
    · simp only [e, if_false] at h2
      have hne : q c ≠ p := by
        intro e'
        have := h.q2 d hd; have := hB.step d hd
        rcases Nat.lt_or_gt_of_ne e with h3 | h3
        · have := hB.mono (a := d + 1) (b := c) (by omega) (by omega); omega
        · have := hB.mono (a := c + 1) (b := d) (by omega) (by omega); omega
      rw [if_neg hne]
      exact h.lar d p hd h1 h2
  · intro d p hd h1 h2
    rw [hset]
    by_cases e : d = c
    · subst e
      simp only [if_true] at h1
      rw [if_neg (by omega)]
      exact h.rest d p hd (by omega) h2
    · simp only [e, if_false] at h1
      have := h.q1 d hd
      have hne : q c ≠ p := by
        intro e'
        rcases Nat.lt_or_gt_of_ne e with h3 | h3
        · have := hB.mono (a := d + 1) (b := c) (by omega) (by omega); omega
        · have := hB.mono (a := c + 1) (b := d) (by omega) (by omega); omega
      rw [if_neg hne]
      exact h.rest d p hd h1 h2
  · intro p p' y z hpp hp' hy hz
    rw [hset] at hy hz
    by_cases e' : q c = p'
    · rw [if_pos e'] at hz
      rw [if_neg (by omega)] at hy
      obtain rfl : z = x := by omega
      obtain ⟨d, hd, h1, h2, hyn, hsy, hyt⟩ := h.where_ hB (by omega) hy
      by_cases e : d = c
      · subst e
        have hSy : S y = false := by
          rcases hyt with ⟨_, h3⟩ | ⟨h3, _⟩
          · exact h3
          · omega
        refine hO.L y z hyn (by omega) (by omega) hSy hS ?_
        rcases (h.placed y hyn hSy).1 ⟨p, by omega, hy⟩ with e1 | ⟨p0, h3, h4, h5⟩
        · rw [e1]; exact hO.fin _ hxn
        · exact h.sorted p0 i (y + 1) (z + 1) h3 hi h5 hj
      · have : d < c := by
          rcases Nat.lt_or_gt_of_ne e with h3 | h3
          · exact h3
          · have := hB.mono (a := c + 1) (b := d) (by omega) (by omega); omega
        exact hO.ch y z hyn (by omega) (by omega)
    · rw [if_neg e'] at hz
      by_cases e : q c = p
      · rw [if_pos e] at hy
        obtain rfl : y = x := by omega
        obtain ⟨d, hd, h1, h2, hzn, hsz, hzt⟩ := h.where_ hB hp' hz
        by_cases e1 : d = c
        · subst e1
          have hSz : S z = true := by
            rcases hzt with ⟨h3, _⟩ | ⟨_, h3⟩
            · omega
            · exact h3
          exact hO.ty y z (by omega) hzn (by omega) hS hSz
        · have : c < d := by
            rcases Nat.lt_or_gt_of_ne e1 with h3 | h3
            · have := hB.mono (a := d + 1) (b := c) (by omega) (by omega); omega
            · exact h3
          exact hO.ch y z (by omega) hzn (by omega)
      · rw [if_neg e] at hy
        exact h.sorted p p' y z hpp hp' hy hz
  · intro y h1 h2 h3
    obtain ⟨p, hp, he⟩ := h.lms y h1 h2 h3
    refine ⟨p, hp, ?_⟩
    rw [hset, if_neg, he]
    rintro rfl
    rw [hblank] at he
    omega
  · intro y hy hSy
    by_cases e : y = x
    · subst e
      refine ⟨fun _ => .inr ⟨i, by omega, hi, ?_⟩, fun _ => ⟨q c, hqn, by rw [hset, if_pos rfl]⟩⟩
      rw [hset, if_neg (by omega)]; exact hj
    · constructor
      · rintro ⟨p, hp, he⟩
        rw [hset] at he
        by_cases e' : q c = p
        · rw [if_pos e'] at he; omega
        · rw [if_neg e'] at he
          rcases (h.placed y hy hSy).1 ⟨p, hp, he⟩ with h1 | ⟨p0, h1, h2, h3⟩
          · exact .inl h1
          · refine .inr ⟨p0, by omega, h2, ?_⟩
            rw [hset, if_neg (by omega)]; exact h3
      · rintro (h1 | ⟨p0, h1, h2, h3⟩)
        · obtain ⟨p, hp, he⟩ := (h.placed y hy hSy).2 (.inl h1)
          refine ⟨p, hp, ?_⟩
          rw [hset, if_neg, he]
          rintro rfl
          rw [hblank] at he
          omega
        · rw [hset, if_neg (by omega)] at h3
          have h4 : p0 ≠ i := by
            rintro rfl
            rw [hj] at h3; omega
          obtain ⟨p, hp, he⟩ := (h.placed y hy hSy).2 (.inr ⟨p0, by omega, h2, h3⟩)
          refine ⟨p, hp, ?_⟩
          rw [hset, if_neg, he]
          rintro rfl
          rw [hblank] at he
          omega

/-- The first pass passes a place by. -/
theorem Inv1.pass (h : Inv1 s S k Bs nL nS lt q i row) (hj : ∀ x : Nat, gd row i = ((x + 1 : Nat) : Int) → S x = true) :
    Inv1 s S k Bs nL nS lt q (i + 1) row := by
  refine ⟨h.len, h.q1, h.q2, h.lar, h.rest, h.sorted, h.lms, fun x hx hS => ?_⟩
  rw [h.placed x hx hS]
  constructor
  · rintro (h1 | ⟨p, h1, h2⟩)
    · exact .inl h1
    · exact .inr ⟨p, by omega, h2⟩
  · rintro (h1 | ⟨p, h1, h2, h3⟩)
    · exact .inl h1
    · refine .inr ⟨p, ?_, h2, h3⟩
      have : p ≠ i := by
        rintro rfl
        have := hj x h3
        rw [hS] at this
        exact absurd this (by decide)
      omega

/-- When all is looked at, all large places are laid. -/
theorem Inv1.all (h : Inv1 s S k Bs nL nS lt q s.length row) : ∀ x, x < s.length → S x = false → ∃ p, p < s.length ∧ gd row p = (x : Int) := by
  have key : ∀ d x, s.length - x ≤ d → x < s.length → S x = false → ∃ p, p < s.length ∧ gd row p = (x : Int) := by
    intro d
    induction d with
    | zero => intro x h1 h2; omega
    | succ d ih =>
      intro x h1 h2 h3
      by_cases e : x + 1 = s.length
      · exact (h.placed x h2 h3).2 (.inl e)
      · refine (h.placed x h2 h3).2 (.inr ?_)
        cases hS : S (x + 1) with
        | false =>
          obtain ⟨p, hp, he⟩ := ih (x + 1) (by omega) (by omega) hS
          exact ⟨p, hp, hp, he⟩
        | true =>
          obtain ⟨p, hp, he⟩ := h.lms x (by omega) h3 hS
          exact ⟨p, hp, hp, he⟩
  exact fun x => key _ x (Nat.le_refl _)

end Go.Proofs.Whorl
