import Derived.Test.YtbfedonfabjkbaaGreatQInduce
namespace Go.Proofs.Whorl

/-- All places with p are among a row's places a to b. -/
theorem cnt_le_row {n : Nat} {p : Nat → Bool} {row : List Int} {a b : Nat}
    (h : ∀ x, x < n → p x = true → ∃ i, a ≤ i ∧ i < b ∧ gd row i = (x : Int)) : cnt n p ≤ b - a := by
  rw [cnt, List.countP_eq_length_filter]
  have hn : ((List.range n).filter p).Nodup := List.nodup_range.filter _
  have := hn.length_le_of_subset (l₂ := (List.range (b - a)).map (fun i => (gd row (a + i)).toNat)) (by
    intro x hx
    rw [List.mem_filter, List.mem_range] at hx
    obtain ⟨i, h1, h2, h3⟩ := h x hx.1 hx.2
    refine List.mem_map.2 ⟨i - a, by rw [List.mem_range]; omega, ?_⟩
    rw [show a + (i - a) = i by omega, h3]
    simp)
  simpa using this

/-- What the order of the second pass must be. -/
structure Ord2 (s : List Int) (S : Nat → Bool) (lt : Nat → Nat → Prop) : Prop where
  irrefl : ∀ x, ¬ lt x x
  ch : ∀ x y, x < s.length → y < s.length → gd s x < gd s y → lt x y
  ty : ∀ x y, x < s.length → y < s.length → gd s x = gd s y → S x = false → S y = true → lt x y
  S : ∀ x y, x + 1 < s.length → y + 1 < s.length → gd s x = gd s y → S x = true → S y = true → lt (x + 1) (y + 1) → lt x y

/-- The second pass has looked at all places of the row from i on. -/
structure Inv2 (s : List Int) (S : Nat → Bool) (k : Nat) (Bs nL nS : Nat → Nat) (lt : Nat → Nat → Prop) (q : Nat → Nat) (i : Nat) (row : List Int) : Prop where
  len : row.length = s.length
  q1 : ∀ c, c < k → Bs c + nL c ≤ q c
  q2 : ∀ c, c < k → q c ≤ Bs (c + 1)
  lar : ∀ c p, c < k → Bs c ≤ p → p < Bs c + nL c → ∃ x : Nat, gd row p = (x : Int) ∧ x < s.length ∧ S x = false ∧ gd s x = (c : Int)
  blank : ∀ c p, c < k → Bs c + nL c ≤ p → p < q c → gd row p = -1
  sma : ∀ c p, c < k → q c ≤ p → p < Bs (c + 1) → ∃ x : Nat, gd row p = (x : Int) ∧ x < s.length ∧ S x = true ∧ gd s x = (c : Int)
  sorted : ∀ p p' (x y : Nat), p < p' → p' < s.length → gd row p = (x : Int) → gd row p' = (y : Int) → lt x y
  L : ∀ x, x < s.length → S x = false → ∃ p, p < s.length ∧ gd row p = (x : Int)
  placed : ∀ x, x < s.length → S x = true → ((∃ p, p < s.length ∧ gd row p = (x : Int)) ↔ (∃ p, i ≤ p ∧ p < s.length ∧ gd row p = ((x + 1 : Nat) : Int)))

variable {s : List Int} {S : Nat → Bool} {k : Nat} {Bs nL nS : Nat → Nat} {lt lt' : Nat → Nat → Prop} {q : Nat → Nat} {i : Nat} {row : List Int}

theorem Buckets.end_le (hB : Buckets s S k Bs nL nS) {c : Nat} (hc : c < k) : Bs (c + 1) ≤ s.length := by
  have := hB.mono (a := c + 1) (b := k) (by omega) (by omega); have := hB.all; omega

/-- Buckets that part do not meet. -/
theorem Buckets.apart (hB : Buckets s S k Bs nL nS) {c d p : Nat} (hc : c < k) (hd : d < k) (h1 : Bs c ≤ p) (h2 : p < Bs (c + 1)) (h3 : Bs d ≤ p) (h4 : p < Bs (d + 1)) : c = d := by
  rcases Nat.lt_trichotomy c d with h | h | h
  · have := hB.mono (a := c + 1) (b := d) (by omega) (by omega); omega
  · exact h
  · have := hB.mono (a := d + 1) (b := c) (by omega) (by omega); omega

theorem Buckets.lt_of (hB : Buckets s S k Bs nL nS) {c d p p' : Nat} (_hc : c < k) (_hd : d < k) (_h1 : Bs c ≤ p) (h2 : p < Bs (c + 1)) (h3 : Bs d ≤ p') (_h4 : p' < Bs (d + 1)) (hpp : p' ≤ p) : d ≤ c := by
  rcases Nat.lt_or_ge c d with h | h
  · have := hB.mono (a := c + 1) (b := d) (by omega) (by omega); omega
  · exact h

theorem Inv2.where_ (hB : Buckets s S k Bs nL nS) (h : Inv2 s S k Bs nL nS lt q i row) {p x : Nat} (hp : p < s.length) (hx : gd row p = (x : Int)) :
    ∃ c, c < k ∧ Bs c ≤ p ∧ p < Bs (c + 1) ∧ x < s.length ∧ gd s x = (c : Int) ∧ ((p < Bs c + nL c ∧ S x = false) ∨ (q c ≤ p ∧ S x = true)) := by
  obtain ⟨c, hc, h1, h2⟩ := hB.find hp
  refine ⟨c, hc, h1, h2, ?_⟩
  by_cases e : p < Bs c + nL c
  · obtain ⟨y, hy, h3, h4, h5⟩ := h.lar c p hc h1 e
    obtain rfl : x = y := by rw [hx] at hy; omega
    exact ⟨h3, h5, .inl ⟨e, h4⟩⟩
  · by_cases e' : p < q c
    · have := h.blank c p hc (by omega) e'
      rw [hx] at this; omega
    · obtain ⟨y, hy, h3, h4, h5⟩ := h.sma c p hc (by omega) h2
      obtain rfl : x = y := by rw [hx] at hy; omega
      exact ⟨h3, h5, .inr ⟨by omega, h4⟩⟩

/-- The second pass lays a place. -/
theorem Inv2.lay (hB : Buckets s S k Bs nL nS) (hT : Typed s S) (hO : Ord2 s S lt) (h : Inv2 s S k Bs nL nS lt q (i + 1) row) (hi : i < s.length) {x c : Nat}
    (hj : gd row i = ((x + 1 : Nat) : Int)) (hS : S x = true) (hc : gd s x = (c : Int)) :
    1 ≤ q c ∧ q c - 1 < s.length ∧ Inv2 s S k Bs nL nS lt (fun d => if d = c then q c - 1 else q d) i (row.set (q c - 1) (x : Int)) := by
  obtain ⟨cj, hcj, hi1, hi2, hxn, hsj, hty⟩ := h.where_ hB hi hj
  have hck : c < k := by have := hB.range x (by omega); omega
  have hst := hB.step c hck
  have hend := hB.end_le hck
  have hq1 := h.q1 c hck
  have hq2 := h.q2 c hck
  have hnot : ¬ ∃ p, p < s.length ∧ gd row p = (x : Int) := by
    intro hp
    obtain ⟨p, h1, h2, h3⟩ := (h.placed x (by omega) hS).1 hp
    exact hO.irrefl _ (h.sorted i p (x + 1) (x + 1) (by omega) h2 hj h3)
  have hroom : Bs (c + 1) - q c < nS c := by
    rw [hB.cS c hck]
    refine row_lt_cnt (row := row) (a := q c) (b := Bs (c + 1)) (x := x) hq2 ?_ ?_ (by omega) (by simp [hS, hc])
    · intro p p' h1 h2 h3 he
      obtain ⟨y, hy, hyn, _, _⟩ := h.sma c p hck h1 (by omega)
      exact hO.irrefl _ (h.sorted p p' y y h2 (by omega) hy (by rw [← he]; exact hy))
    · intro p h1 h2
      obtain ⟨y, hy, h3, h4, h5⟩ := h.sma c p hck h1 h2
      refine ⟨y, hy, h3, by simp [h4, h5], ?_⟩
      rintro rfl
      exact hnot ⟨p, by omega, hy⟩
  have hblank : gd row (q c - 1) = -1 := h.blank c (q c - 1) hck (by omega) (by omega)
  have hiq : q c - 1 < i := by
    rcases (hT.step x hxn).1 hS with e | ⟨h1, h2⟩
    · have h1 : c < cj := by omega
      have := hB.mono (a := c + 1) (b := cj) (by omega) (by omega)
      omega
    · obtain rfl : cj = c := by omega
      rcases hty with ⟨_, h3⟩ | ⟨h3, _⟩
      · rw [h2] at h3; exact absurd h3 (by decide)
      · omega
  have hset : ∀ p, gd (row.set (q c - 1) (x : Int)) p = if q c - 1 = p then (x : Int) else gd row p := fun p => gd_set (by rw [h.len]; omega)
  refine ⟨by omega, by omega, ⟨by simp [h.len], ?_, ?_, ?_, ?_, ?_, ?_, ?_, ?_⟩⟩
  · intro d hd
    by_cases e : d = c
    · subst e; simp; omega
    · simp [e]; exact h.q1 d hd
  · intro d hd
    by_cases e : d = c
    · subst e; simp; omega
    · simp [e]; exact h.q2 d hd
  · intro d p hd h1 h2
    have := hB.step d hd
    rw [hset, if_neg]
    · exact h.lar d p hd h1 h2
    · intro e'
      obtain rfl : d = c := hB.apart (p := p) hd hck h1 (by omega) (by omega) (by omega)
      omega
  · intro d p hd h1 h2
    rw [hset]
    have := h.q2 d hd
    by_cases e : d = c
    · subst e
      simp only [if_true] at h2
      rw [if_neg (by omega)]
      exact h.blank d p hd h1 (by omega)
    · simp only [e, if_false] at h2
      rw [if_neg]
      · exact h.blank d p hd h1 h2
      · intro e'
        exact e (hB.apart (p := p) hd hck (by omega) (by omega) (by omega) (by omega))
  · intro d p hd h1 h2
    rw [hset]
    by_cases e : d = c
    · subst e
      simp only [if_true] at h1
      by_cases e' : q d - 1 = p
      · exact ⟨x, by simp [e'], by omega, hS, hc⟩
      · rw [if_neg e']
        exact h.sma d p hd (by omega) h2
    · simp only [e, if_false] at h1
      have := h.q1 d hd
      rw [if_neg]
      · exact h.sma d p hd h1 h2
      · intro e'
        exact e (hB.apart (p := p) hd hck (by omega) (by omega) (by omega) (by omega))
  · intro p p' y z hpp hp' hy hz
    rw [hset] at hy hz
    by_cases e' : q c - 1 = p'
    · rw [if_pos e'] at hz
      rw [if_neg (by omega)] at hy
      obtain rfl : z = x := by omega
      obtain ⟨d, hd, h1, h2, hyn, hsy, hyt⟩ := h.where_ hB (by omega) hy
      have hdc : d ≤ c := hB.lt_of (p := p') (p' := p) hck hd (by omega) (by omega) h1 h2 (by omega)
      by_cases e : d = c
      · subst e
        have hSy : S y = false := by
          rcases hyt with ⟨_, h3⟩ | ⟨h3, _⟩
          · exact h3
          · omega
        exact hO.ty y z hyn (by omega) (by omega) hSy hS
      · exact hO.ch y z hyn (by omega) (by omega)
    · rw [if_neg e'] at hz
      by_cases e : q c - 1 = p
      · rw [if_pos e] at hy
        obtain rfl : y = x := by omega
        obtain ⟨d, hd, h1, h2, hzn, hsz, hzt⟩ := h.where_ hB hp' hz
        have hdc : c ≤ d := hB.lt_of (p := p') (p' := p) hd hck h1 h2 (by omega) (by omega) (by omega)
        by_cases e1 : d = c
        · subst e1
          have hSz : S z = true := by
            rcases hzt with ⟨h3, _⟩ | ⟨_, h3⟩
            · omega
            · exact h3
          obtain ⟨p0, h3, h4, h5⟩ := (h.placed z hzn hSz).1 ⟨p', hp', hz⟩
          have hz1 : z + 1 < s.length := by
            obtain ⟨_, _, _, _, h6, _⟩ := h.where_ hB h4 h5
            exact h6
          exact hO.S y z hxn hz1 (by omega) hS hSz (h.sorted i p0 (y + 1) (z + 1) (by omega) h4 hj h5)
        · exact hO.ch y z (by omega) hzn (by omega)
      · rw [if_neg e] at hy
        exact h.sorted p p' y z hpp hp' hy hz
  · intro y h1 h2
    obtain ⟨p, hp, he⟩ := h.L y h1 h2
    refine ⟨p, hp, ?_⟩
    rw [hset, if_neg, he]
    rintro rfl
    rw [hblank] at he
    omega
  · intro y hy hSy
    by_cases e : y = x
    · subst e
      refine ⟨fun _ => ⟨i, by omega, hi, ?_⟩, fun _ => ⟨q c - 1, by omega, by rw [hset, if_pos rfl]⟩⟩
      rw [hset, if_neg (by omega)]; exact hj
    · constructor
      · rintro ⟨p, hp, he⟩
        rw [hset] at he
        by_cases e' : q c - 1 = p
        · rw [if_pos e'] at he; omega
        · rw [if_neg e'] at he
          obtain ⟨p0, h1, h2, h3⟩ := (h.placed y hy hSy).1 ⟨p, hp, he⟩
          refine ⟨p0, by omega, h2, ?_⟩
          rw [hset, if_neg (by omega)]; exact h3
      · rintro ⟨p0, h1, h2, h3⟩
        rw [hset, if_neg (by omega)] at h3
        have h4 : p0 ≠ i := by
          rintro rfl
          rw [hj] at h3; omega
        obtain ⟨p, hp, he⟩ := (h.placed y hy hSy).2 ⟨p0, by omega, h2, h3⟩
        refine ⟨p, hp, ?_⟩
        rw [hset, if_neg, he]
        rintro rfl
        rw [hblank] at he
        omega

/-- The second pass passes a place by. -/
theorem Inv2.pass (h : Inv2 s S k Bs nL nS lt q (i + 1) row) (hj : ∀ x : Nat, gd row i = ((x + 1 : Nat) : Int) → S x = false) :
    Inv2 s S k Bs nL nS lt q i row := by
  refine ⟨h.len, h.q1, h.q2, h.lar, h.blank, h.sma, h.sorted, h.L, fun x hx hS => ?_⟩
  rw [h.placed x hx hS]
  constructor
  · rintro ⟨p, h1, h2⟩
    exact ⟨p, by omega, h2⟩
  · rintro ⟨p, h1, h2, h3⟩
    refine ⟨p, ?_, h2, h3⟩
    have : p ≠ i := by
      rintro rfl
      have := hj x h3
      rw [hS] at this
      exact absurd this (by decide)
    omega

/-- When all is looked at, all places are laid. -/
theorem Inv2.all (hT : Typed s S) (h : Inv2 s S k Bs nL nS lt q 0 row) : ∀ x, x < s.length → ∃ p, p < s.length ∧ gd row p = (x : Int) := by
  have key : ∀ d x, s.length - x ≤ d → x < s.length → ∃ p, p < s.length ∧ gd row p = (x : Int) := by
    intro d
    induction d with
    | zero => intro x h1 h2; omega
    | succ d ih =>
      intro x h1 h2
      cases hS : S x with
      | false => exact h.L x h2 hS
      | true =>
        have hlt : x + 1 < s.length := by
          rcases Nat.lt_or_ge (x + 1) s.length with h3 | h3
          · exact h3
          · rw [hT.last x h3] at hS; exact absurd hS (by decide)
        obtain ⟨p, hp, he⟩ := ih (x + 1) (by omega) hlt
        exact (h.placed x h2 hS).2 ⟨p, by omega, hp, he⟩
  exact fun x => key _ x (Nat.le_refl _)

/-- Distinct values among no more values: they are those. -/
theorem perm_of_subset {α : Type} [BEq α] [LawfulBEq α] {l m : List α} (hn : l.Nodup) (h : l ⊆ m) (hl : m.length ≤ l.length) : l.Perm m := by
  induction l generalizing m with
  | nil => have : m = [] := List.length_eq_zero_iff.1 (by simpa using hl)
           subst this; exact List.Perm.refl _
  | cons x l ih =>
    have hx : x ∈ m := h (List.mem_cons_self ..)
    rw [List.nodup_cons] at hn
    have h1 : l ⊆ m.erase x := by
      intro y hy
      rw [List.mem_erase_of_ne (by rintro rfl; exact hn.1 hy)]
      exact h (List.mem_cons_of_mem _ hy)
    have h2 := ih hn.2 h1 (by rw [List.length_erase_of_mem hx]; simp at hl; omega)
    exact (h2.cons x).trans (List.perm_cons_erase hx).symm

/-- A row that holds each place: as places. -/
theorem row_places {n : Nat} {row : List Int} (hl : row.length = n) (h : ∀ x, x < n → ∃ p, p < n ∧ gd row p = (x : Int)) :
    ∃ a : List Nat, row = a.map (fun x : Nat => (x : Int)) ∧ a.Perm (List.range n) := by
  have hn : ((List.range n).map (fun x : Nat => (x : Int))).Nodup := by
    rw [List.Nodup, List.pairwise_map]
    exact (List.nodup_range (n := n)).imp (fun {x y} (h : x ≠ y) => by omega)
  have hsub : (List.range n).map (fun x : Nat => (x : Int)) ⊆ row := by
    intro z hz
    obtain ⟨x, hx, rfl⟩ := List.mem_map.1 hz
    rw [List.mem_range] at hx
    obtain ⟨p, hp, he⟩ := h x hx
    rw [← he, gd_eq (by omega)]
    exact List.getElem_mem _
  have hall : ∀ z ∈ row, z ∈ (List.range n).map (fun x : Nat => (x : Int)) := by
    intro z hz
    apply Decidable.byContradiction
    intro hc
    have hsub2 : (List.range n).map (fun x : Nat => (x : Int)) ⊆ row.erase z := by
      intro y hy
      have hy' := hsub hy
      rw [List.mem_erase_of_ne]
      · exact hy'
      · rintro rfl; exact hc hy
    have := hn.length_le_of_subset hsub2
    rw [List.length_erase_of_mem hz] at this
    have : 0 < row.length := List.length_pos_of_mem hz
    simp at *
    omega
  refine ⟨row.map Int.toNat, ?_, ?_⟩
  · rw [List.map_map]
    conv => lhs; rw [← List.map_id row]
    apply List.map_congr_left
    intro z hz
    obtain ⟨x, _, rfl⟩ := List.mem_map.1 (hall z hz)
    simp
  · have h1 : (List.range n) ⊆ row.map Int.toNat := by
      intro x hx
      have := hsub (List.mem_map.2 ⟨x, hx, rfl⟩)
      exact List.mem_map.2 ⟨_, this, by simp⟩
    have h2 : (row.map Int.toNat).length ≤ (List.range n).length := by simp [hl]
    exact (perm_of_subset List.nodup_range h1 h2).symm

end Go.Proofs.Whorl
