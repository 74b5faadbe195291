import Derived.Test.YtbfedonfabjkbaaGreatQInduce4
set_option linter.unusedVariables false
namespace Go.Proofs.Whorl

variable {s : List Int} {S : Nat → Bool}

/-- A large place's ending is less than a small one's with the same number. -/
theorem slt_ty (hT : Typed s S) : ∀ (d x y : Nat), s.length - x ≤ d → x < s.length → y < s.length → gd s x = gd s y → S x = false → S y = true → Slt s x y := by
  intro d
  induction d with
  | zero => intro x y h; omega
  | succ d ih =>
    intro x y hd hx hy hc h1 h2
    refine (slt_iff hx hy).2 (.inr ⟨hc, ?_⟩)
    have hy1 : y + 1 < s.length := by
      rcases Nat.lt_or_ge (y + 1) s.length with h | h
      · exact h
      · rw [hT.last y h] at h2; exact absurd h2 (by decide)
    by_cases hx1 : x + 1 < s.length
    · rcases hT.large hx1 h1 with h3 | ⟨h3, h4⟩
      · rcases (hT.step y hy1).1 h2 with h5 | ⟨h5, _⟩ <;> exact (slt_iff hx1 hy1).2 (.inl (by omega))
      · rcases (hT.step y hy1).1 h2 with h5 | ⟨h5, h6⟩
        · exact (slt_iff hx1 hy1).2 (.inl (by omega))
        · exact ih (x + 1) (y + 1) (by omega) hx1 hy1 (by omega) h4 h6
    · exact slt_end (by omega) hy1

theorem ord1_slt (hT : Typed s S) : Ord1 s S (Slt s) where
  irrefl := slt_irrefl s
  fin y hy := slt_end (Nat.le_refl _) hy
  ch x y hx hy h := (slt_iff hx hy).2 (.inl h)
  ty x y hx hy h1 h2 h3 := slt_ty hT _ x y (Nat.le_refl _) hx hy h1 h2 h3
  L x y hx hy h1 _ _ h4 := (slt_iff hx hy).2 (.inr ⟨h1, h4⟩)

theorem ord2_slt (hT : Typed s S) : Ord2 s S (Slt s) where
  irrefl := slt_irrefl s
  ch x y hx hy h := (slt_iff hx hy).2 (.inl h)
  ty x y hx hy h1 h2 h3 := slt_ty hT _ x y (Nat.le_refl _) hx hy h1 h2 h3
  S x y hx hy h1 _ _ h4 := (slt_iff (by omega) (by omega)).2 (.inr ⟨h1, h4⟩)

/-- **Out of the first ones in order: all in order.** -/
theorem induceF_sa {k : Nat} (hn : 0 < s.length) (hR : ∀ i, i < s.length → 0 ≤ gd s i ∧ gd s i < (k : Int)) (hT : Typed s S) {first : List Nat}
    (hd : ∀ y, y ∈ first ↔ (0 < y ∧ y < s.length ∧ S y = true ∧ S (y - 1) = false)) (hf : first.Pairwise (Slt s)) :
    ∃ a : List Nat, induceF s S (countsF s k) first = a.map (fun x : Nat => (x : Int)) ∧ IsSA s a := by
  obtain ⟨a, h1, h2, h3⟩ := induceF_sorts hn hR hT (ord1_slt hT) (ord2_slt hT) (fun _ _ _ _ h => h) hd
    (hf.imp fun {x y} (h : Slt s x y) => ⟨fun e => slt_irrefl s x (by rw [← e] at h; exact h), fun _ => h⟩)
  exact ⟨a, h1, h2, h3⟩

/-! The order that the first ones induce, whatever their order is. -/
def lm (S : Nat → Bool) (x : Nat) : Bool := S x && decide (0 < x) && !S (x - 1)
theorem lm_succ (S : Nat → Bool) (x : Nat) : lm S (x + 1) = (S (x + 1) && !S x) := by simp [lm]
theorem lm_small {x : Nat} (h : lm S x = true) : S x = true := by simp [lm] at h; exact h.1.1

inductive Lt1 (s : List Int) (S : Nat → Bool) (idx : Nat → Nat) : Nat → Nat → Prop
  | fin (y : Nat) (hy : y < s.length) : Lt1 s S idx s.length y
  | ch (x y : Nat) (hx : x < s.length) (hy : y < s.length) (h : gd s x < gd s y) : Lt1 s S idx x y
  | ty (x y : Nat) (hx : x < s.length) (hy : y < s.length) (h : gd s x = gd s y) (h1 : S x = false) (h2 : S y = true) : Lt1 s S idx x y
  | lms (x y : Nat) (hx : x < s.length) (hy : y < s.length) (h : gd s x = gd s y) (h1 : lm S x = true) (h2 : lm S y = true) (h3 : idx x < idx y) : Lt1 s S idx x y
  | L (x y : Nat) (hx : x < s.length) (hy : y < s.length) (h : gd s x = gd s y) (h1 : S x = false) (h2 : S y = false) (h3 : Lt1 s S idx (x + 1) (y + 1)) : Lt1 s S idx x y

inductive Lt2 (s : List Int) (S : Nat → Bool) (idx : Nat → Nat) : Nat → Nat → Prop
  | ch (x y : Nat) (hx : x < s.length) (hy : y < s.length) (h : gd s x < gd s y) : Lt2 s S idx x y
  | ty (x y : Nat) (hx : x < s.length) (hy : y < s.length) (h : gd s x = gd s y) (h1 : S x = false) (h2 : S y = true) : Lt2 s S idx x y
  | L (x y : Nat) (h : Lt1 s S idx x y) (h1 : S x = false) (h2 : S y = false) : Lt2 s S idx x y
  | S (x y : Nat) (hx : x + 1 < s.length) (hy : y + 1 < s.length) (h : gd s x = gd s y) (h1 : S x = true) (h2 : S y = true) (h3 : Lt2 s S idx (x + 1) (y + 1)) : Lt2 s S idx x y

theorem Lt1.ne {idx : Nat → Nat} {x y : Nat} (h : Lt1 s S idx x y) : x ≠ y := by
  induction h with
  | fin y hy => omega
  | ch x y hx hy h => rintro rfl; omega
  | ty x y hx hy h h1 h2 => rintro rfl; rw [h1] at h2; exact absurd h2 (by decide)
  | lms x y hx hy h h1 h2 h3 => rintro rfl; omega
  | L x y hx hy h h1 h2 h3 ih => intro e; exact ih (by omega)

theorem Lt2.ne {idx : Nat → Nat} {x y : Nat} (h : Lt2 s S idx x y) : x ≠ y := by
  induction h with
  | ch x y hx hy h => rintro rfl; omega
  | ty x y hx hy h h1 h2 => rintro rfl; rw [h1] at h2; exact absurd h2 (by decide)
  | L x y h h1 h2 => exact h.ne
  | S x y hx hy h h1 h2 h3 ih => intro e; exact ih (by omega)

theorem ord1_idx (s : List Int) (S : Nat → Bool) (idx : Nat → Nat) : Ord1 s S (Lt1 s S idx) where
  irrefl x h := h.ne rfl
  fin y hy := .fin y hy
  ch x y hx hy h := .ch x y hx hy h
  ty x y hx hy h h1 h2 := .ty x y hx hy h h1 h2
  L x y hx hy h h1 h2 h3 := .L x y hx hy h h1 h2 h3

theorem ord2_idx (s : List Int) (S : Nat → Bool) (idx : Nat → Nat) : Ord2 s S (Lt2 s S idx) where
  irrefl x h := h.ne rfl
  ch x y hx hy h := .ch x y hx hy h
  ty x y hx hy h h1 h2 := .ty x y hx hy h h1 h2
  S x y hx hy h h1 h2 h3 := .S x y hx hy h h1 h2 h3

/-- A place's number, and its kind. -/
def cc (s : List Int) (S : Nat → Bool) (x : Nat) : Int := 2 * gd s x + if S x = true then 1 else 0
theorem cc_eq {x y : Nat} (h : cc s S x = cc s S y) : gd s x = gd s y ∧ S x = S y := by
  unfold cc at h
  cases h1 : S x <;> cases h2 : S y <;> simp [h1, h2] at h ⊢ <;> omega
theorem cc_lt {x y : Nat} (h : cc s S x < cc s S y) : gd s x < gd s y ∨ (gd s x = gd s y ∧ S x = false ∧ S y = true) := by
  unfold cc at h
  cases h1 : S x <;> cases h2 : S y <;> simp [h1, h2] at h ⊢ <;> omega
theorem cc_of_lt {x y : Nat} (h : gd s x < gd s y) : cc s S x < cc s S y := by
  unfold cc
  split <;> split <;> omega
theorem cc_of_ty {x y : Nat} (h : gd s x = gd s y) (h1 : S x = false) (h2 : S y = true) : cc s S x < cc s S y := by
  unfold cc
  simp [h1, h2]; omega
theorem cc_of_eq {x y : Nat} (h : gd s x = gd s y) (h1 : S x = S y) : cc s S x = cc s S y := by
  unfold cc
  rw [h, h1]

/-- From a place to the next first one. -/
def keyF (s : List Int) (S : Nat → Bool) : Nat → Nat → List Int
  | 0, _ => []
  | d + 1, x => cc s S x :: if lm S (x + 1) = true then [cc s S (x + 1)] else keyF s S d (x + 1)
def key (s : List Int) (S : Nat → Bool) (x : Nat) : List Int := keyF s S (s.length - x) x
def key1 (s : List Int) (S : Nat → Bool) (x : Nat) : List Int := if lm S x = true then [cc s S x] else key s S x
theorem key_eq {x : Nat} (h : x < s.length) : key s S x = cc s S x :: key1 s S (x + 1) := by
  unfold key key1
  rw [show s.length - x = (s.length - (x + 1)) + 1 by omega, keyF]
  rfl
theorem key_end {x : Nat} (h : s.length ≤ x) : key s S x = [] := by
  unfold key
  rw [show s.length - x = 0 by omega, keyF]

theorem le_cons {a b : Int} {l m : List Int} (h : a = b) (h' : l < m ∨ l = m) : a :: l < b :: m ∨ a :: l = b :: m := by
  subst h
  rcases h' with h' | h'
  · exact .inl (List.cons_lt_cons_iff.2 (.inr ⟨rfl, h'⟩))
  · exact .inr (by rw [h'])

theorem lm_lt (hT : Typed s S) {x : Nat} (h : lm S x = true) : x < s.length := by
  rcases Nat.lt_or_ge x s.length with h1 | h1
  · exact h1
  · have := lm_small h
    rw [hT.last x (by omega)] at this
    exact absurd this (by decide)

theorem key1_cons {x : Nat} (h : x < s.length) : ∃ t, key1 s S x = cc s S x :: t := by
  unfold key1
  split
  · exact ⟨_, rfl⟩
  · exact ⟨_, key_eq h⟩

theorem Lt1.key (hT : Typed s S) {idx : Nat → Nat} {x y : Nat} (h : Lt1 s S idx x y) : key1 s S x < key1 s S y ∨ key1 s S x = key1 s S y := by
  induction h with
  | fin y hy =>
    obtain ⟨t, ht⟩ := key1_cons (S := S) hy
    have : key1 s S s.length = [] := by
      unfold key1
      rw [if_neg, key_end (Nat.le_refl _)]
      intro h
      have := lm_lt hT h
      omega
    rw [this, ht]
    exact .inl (List.nil_lt_cons _ _)
  | ch x y hx hy h =>
    obtain ⟨t, ht⟩ := key1_cons (S := S) hx
    obtain ⟨t', ht'⟩ := key1_cons (S := S) hy
    rw [ht, ht']
    exact .inl (List.cons_lt_cons_iff.2 (.inl (cc_of_lt h)))
  | ty x y hx hy h h1 h2 =>
    obtain ⟨t, ht⟩ := key1_cons (S := S) hx
    obtain ⟨t', ht'⟩ := key1_cons (S := S) hy
    rw [ht, ht']
    exact .inl (List.cons_lt_cons_iff.2 (.inl (cc_of_ty h h1 h2)))
  | lms x y hx hy h h1 h2 h3 =>
    unfold key1
    rw [if_pos h1, if_pos h2, cc_of_eq h (by rw [lm_small h1, lm_small h2])]
    exact .inr rfl
  | L x y hx hy h h1 h2 h3 ih =>
    have e1 : key1 s S x = cc s S x :: key1 s S (x + 1) := by
      unfold key1
      rw [if_neg (by simp [lm, h1]), key_eq hx]; rfl
    have e2 : key1 s S y = cc s S y :: key1 s S (y + 1) := by
      unfold key1
      rw [if_neg (by simp [lm, h2]), key_eq hy]; rfl
    rw [e1, e2]
    exact le_cons (cc_of_eq h (by rw [h1, h2])) ih

theorem key1_small {x : Nat} (h : S x = true) : key1 s S (x + 1) = key s S (x + 1) := by
  unfold key1
  rw [if_neg (by simp [lm, h])]

theorem Lt2.key (hT : Typed s S) {idx : Nat → Nat} {x y : Nat} (h : Lt2 s S idx x y) : key s S x < key s S y ∨ key s S x = key s S y := by
  induction h with
  | ch x y hx hy h =>
    rw [key_eq hx, key_eq hy]
    exact .inl (List.cons_lt_cons_iff.2 (.inl (cc_of_lt h)))
  | ty x y hx hy h h1 h2 =>
    rw [key_eq hx, key_eq hy]
    exact .inl (List.cons_lt_cons_iff.2 (.inl (cc_of_ty h h1 h2)))
  | L x y h h1 h2 =>
    have := h.key hT
    unfold key1 at this
    rw [if_neg (by simp [lm, h1]), if_neg (by simp [lm, h2])] at this
    exact this
  | S x y hx hy h h1 h2 h3 ih =>
    rw [key_eq (by omega), key_eq (by omega), key1_small h1, key1_small h2]
    exact le_cons (cc_of_eq h (by rw [h1, h2])) ih

/-- What is decided within the pieces is decided. -/
theorem slt_of_key (hT : Typed s S) : ∀ (d x y : Nat), s.length - x ≤ d → x ≤ s.length → y ≤ s.length → key s S x < key s S y → Slt s x y := by
  have hcc : ∀ x y, x < s.length → y < s.length → cc s S x < cc s S y → Slt s x y := by
    intro x y hx hy h
    rcases cc_lt h with h | ⟨h, h1, h2⟩
    · exact (slt_iff hx hy).2 (.inl h)
    · exact slt_ty hT _ x y (Nat.le_refl _) hx hy h h1 h2
  intro d
  induction d with
  | zero =>
    intro x y hd hx hy h
    have : x = s.length := by omega
    subst this
    rcases Nat.lt_or_ge y s.length with h1 | h1
    · exact slt_end (Nat.le_refl _) h1
    · rw [key_end h1] at h; exact absurd h (List.not_lt_nil _)
  | succ d ih =>
    intro x y hd hx hy h
    rcases Nat.lt_or_ge y s.length with hy | hy
    · rcases Nat.lt_or_ge x s.length with hx | hx
      · rw [key_eq hx, key_eq hy, List.cons_lt_cons_iff] at h
        rcases h with h | ⟨h, h'⟩
        · exact hcc x y hx hy h
        · obtain ⟨e1, e2⟩ := cc_eq h
          refine (slt_iff hx hy).2 (.inr ⟨e1, ?_⟩)
          unfold key1 at h'
          by_cases l1 : lm S (x + 1) = true
          · have hx1 := lm_lt hT l1
            rw [if_pos l1] at h'
            by_cases l2 : lm S (y + 1) = true
            · have hy1 := lm_lt hT l2
              rw [if_pos l2, List.cons_lt_cons_iff] at h'
              rcases h' with h' | ⟨_, h'⟩
              · exact hcc _ _ hx1 hy1 h'
              · exact absurd h' (List.not_lt_nil _)
            · rw [if_neg l2] at h'
              rcases Nat.lt_or_ge (y + 1) s.length with hy1 | hy1
              · rw [key_eq hy1, List.cons_lt_cons_iff] at h'
                rcases h' with h' | ⟨h', _⟩
                · exact hcc _ _ hx1 hy1 h'
                · have e3 := (cc_eq h').2
                  rw [lm_succ] at l1 l2
                  rw [e3, e2] at l1
                  exact absurd l1 l2
              · rw [key_end hy1] at h'; exact absurd h' (List.not_lt_nil _)
          · rw [if_neg l1] at h'
            by_cases l2 : lm S (y + 1) = true
            · have hy1 := lm_lt hT l2
              rw [if_pos l2] at h'
              rcases Nat.lt_or_ge (x + 1) s.length with hx1 | hx1
              · rw [key_eq hx1, List.cons_lt_cons_iff] at h'
                rcases h' with h' | ⟨_, h'⟩
                · exact hcc _ _ hx1 hy1 h'
                · exact absurd h' (List.not_lt_nil _)
              · exact slt_end hx1 hy1
            · rw [if_neg l2] at h'
              exact ih (x + 1) (y + 1) (by omega) (by omega) (by omega) h'
      · exact slt_end hx hy
    · rw [key_end hy] at h; exact absurd h (List.not_lt_nil _)

/-- Two places whose pieces are one: the next first ones stand as far from both. -/
theorem key_same (hT : Typed s S) : ∀ (m x y : Nat), s.length - x ≤ m → x < s.length → y < s.length → x ≠ y → key s S x = key s S y →
    ∃ d, 0 < d ∧ lm S (x + d) = true ∧ lm S (y + d) = true ∧ (∀ e, 0 < e → e < d → lm S (x + e) = false ∧ lm S (y + e) = false) ∧ (∀ e, e ≤ d → gd s (x + e) = gd s (y + e)) := by
  intro m
  induction m with
  | zero => intro x y h; omega
  | succ m ih =>
    intro x y hd hx hy hne h
    rw [key_eq hx, key_eq hy, List.cons.injEq] at h
    obtain ⟨h, h'⟩ := h
    obtain ⟨e1, e2⟩ := cc_eq h
    unfold key1 at h'
    by_cases l1 : lm S (x + 1) = true
    · by_cases l2 : lm S (y + 1) = true
      · rw [if_pos l1, if_pos l2, List.cons.injEq] at h'
        refine ⟨1, by omega, l1, l2, fun e _ _ => by omega, fun e he => ?_⟩
        rcases (show e = 0 ∨ e = 1 by omega) with rfl | rfl
        · exact e1
        · exact (cc_eq h'.1).1
      · rw [if_pos l1, if_neg l2] at h'
        rcases Nat.lt_or_ge (y + 1) s.length with hy1 | hy1
        · rw [key_eq hy1, List.cons.injEq] at h'
          have e3 := (cc_eq h'.1).2
          rw [lm_succ] at l1 l2
          rw [e3, e2] at l1
          exact absurd l1 l2
        · rw [key_end hy1] at h'; exact absurd h' (by simp)
    · by_cases l2 : lm S (y + 1) = true
      · rw [if_neg l1, if_pos l2] at h'
        rcases Nat.lt_or_ge (x + 1) s.length with hx1 | hx1
        · rw [key_eq hx1, List.cons.injEq] at h'
          have e3 := (cc_eq h'.1).2
          rw [lm_succ] at l1 l2
          rw [← e3, ← e2] at l2
          exact absurd l2 l1
        · rw [key_end hx1] at h'; exact absurd h' (by simp)
      · rw [if_neg l1, if_neg l2] at h'
        rcases Nat.lt_or_ge (x + 1) s.length with hx1 | hx1
        · rcases Nat.lt_or_ge (y + 1) s.length with hy1 | hy1
          · obtain ⟨d, h1, h2, h3, h4, h5⟩ := ih (x + 1) (y + 1) (by omega) hx1 hy1 (by omega) h'
            refine ⟨d + 1, by omega, by rw [show x + (d + 1) = x + 1 + d by omega]; exact h2, by rw [show y + (d + 1) = y + 1 + d by omega]; exact h3, ?_, ?_⟩
            · intro e he1 he2
              rcases (show e = 1 ∨ 1 < e by omega) with rfl | he3
              · exact ⟨by simpa using l1, by simpa using l2⟩
              · have := h4 (e - 1) (by omega) (by omega)
                rw [show x + e = x + 1 + (e - 1) by omega, show y + e = y + 1 + (e - 1) by omega]
                exact this
            · intro e he
              rcases (show e = 0 ∨ 0 < e by omega) with rfl | he3
              · exact e1
              · have := h5 (e - 1) (by omega)
                rw [show x + e = x + 1 + (e - 1) by omega, show y + e = y + 1 + (e - 1) by omega]
                exact this
          · rw [key_end hy1, key_eq hx1] at h'; exact absurd h' (by simp)
        · rcases Nat.lt_or_ge (y + 1) s.length with hy1 | hy1
          · rw [key_end hx1, key_eq hy1] at h'; exact absurd h' (by simp)
          · omega

/-- Pieces with the same numbers that end in first ones are one. -/
theorem key_of_same (hT : Typed s S) : ∀ (d x y : Nat), 0 < d → lm S (x + d) = true → lm S (y + d) = true → (∀ e, 0 < e → e < d → lm S (x + e) = false ∧ lm S (y + e) = false) →
    (∀ e, e ≤ d → gd s (x + e) = gd s (y + e)) → key s S x = key s S y := by
  intro d
  induction d with
  | zero => intro x y h; omega
  | succ d ih =>
    intro x y _ h1 h2 h3 h4
    have hx := lm_lt hT h1
    have hy := lm_lt hT h2
    have key_ty : ∀ j, j ≤ d + 1 → S (x + (d + 1 - j)) = S (y + (d + 1 - j)) := by
      intro j
      induction j with
      | zero => intro _; rw [show d + 1 - 0 = d + 1 by omega, lm_small h1, lm_small h2]
      | succ j ihj =>
        intro hj
        have hp := ihj (by omega)
        have e1 := hT.step (x + (d + 1 - (j + 1))) (by omega)
        have e2 := hT.step (y + (d + 1 - (j + 1))) (by omega)
        rw [show x + (d + 1 - (j + 1)) + 1 = x + (d + 1 - j) by omega, h4 _ (by omega), h4 _ (by omega), hp] at e1
        rw [show y + (d + 1 - (j + 1)) + 1 = y + (d + 1 - j) by omega] at e2
        rw [Bool.eq_iff_iff, e1, e2]
    have ec : ∀ e, e ≤ d + 1 → cc s S (x + e) = cc s S (y + e) := fun e he => cc_of_eq (h4 e he) (by
      have := key_ty (d + 1 - e) (by omega)
      rw [show d + 1 - (d + 1 - e) = e by omega] at this
      exact this)
    rw [key_eq (by omega), key_eq (by omega)]
    have e0 := ec 0 (by omega)
    simp only [Nat.add_zero] at e0
    rw [e0]
    congr 1
    unfold key1
    rcases (show d = 0 ∨ 0 < d by omega) with rfl | hd
    · rw [if_pos h1, if_pos h2, ec 1 (by omega)]
    · obtain ⟨l1, l2⟩ := h3 1 (by omega) (by omega)
      rw [if_neg (by rw [l1]; decide), if_neg (by rw [l2]; decide)]
      refine ih (x + 1) (y + 1) hd (by rw [show x + 1 + d = x + (d + 1) by omega]; exact h1) (by rw [show y + 1 + d = y + (d + 1) by omega]; exact h2) ?_ ?_
      · intro e he1 he2
        rw [show x + 1 + e = x + (e + 1) by omega, show y + 1 + e = y + (e + 1) by omega]
        exact h3 (e + 1) (by omega) (by omega)
      · intro e he
        rw [show x + 1 + e = x + (e + 1) by omega, show y + 1 + e = y + (e + 1) by omega]
        exact h4 (e + 1) (by omega)

end Go.Proofs.Whorl
