namespace Go.Proofs.Whorl

/-- The number at a place; nought behind the end. -/
def gd (s : List Int) (i : Nat) : Int := s.getD i 0

theorem gd_eq {s : List Int} {i : Nat} (h : i < s.length) : gd s i = s[i] := by
  simp [gd, List.getD_eq_getElem?_getD, h]

/-- One ending is less than another. -/
def Slt (s : List Int) (i j : Nat) : Prop := s.drop i < s.drop j

theorem drop_cons {s : List Int} {i : Nat} (h : i < s.length) : s.drop i = gd s i :: s.drop (i + 1) := by
  rw [gd_eq h]; exact List.drop_eq_getElem_cons h

theorem slt_iff {s : List Int} {i j : Nat} (hi : i < s.length) (hj : j < s.length) :
    Slt s i j ↔ gd s i < gd s j ∨ (gd s i = gd s j ∧ Slt s (i + 1) (j + 1)) := by
  unfold Slt
  rw [drop_cons hi, drop_cons hj, List.cons_lt_cons_iff]

theorem slt_end {s : List Int} {i j : Nat} (hi : s.length ≤ i) (hj : j < s.length) : Slt s i j := by
  unfold Slt
  rw [List.drop_of_length_le hi, drop_cons hj]
  exact List.nil_lt_cons _ _

theorem not_slt_end {s : List Int} {i j : Nat} (hj : s.length ≤ j) : ¬ Slt s i j := by
  unfold Slt
  rw [List.drop_of_length_le hj]
  exact List.not_lt_nil _

theorem slt_irrefl (s : List Int) (i : Nat) : ¬ Slt s i i := List.lt_irrefl _
theorem slt_trans {s : List Int} {i j k : Nat} (h : Slt s i j) (h' : Slt s j k) : Slt s i k := List.lt_trans h h'
theorem slt_asymm {s : List Int} {i j : Nat} (h : Slt s i j) : ¬ Slt s j i := List.lt_asymm h

theorem drop_inj {s : List Int} {i j : Nat} (hi : i ≤ s.length) (hj : j ≤ s.length) (h : s.drop i = s.drop j) : i = j := by
  have := congrArg List.length h
  simp at this
  omega

theorem slt_total {s : List Int} {i j : Nat} (hi : i ≤ s.length) (hj : j ≤ s.length) (hne : i ≠ j) : Slt s i j ∨ Slt s j i := by
  by_cases h : Slt s i j
  · exact .inl h
  · by_cases h' : Slt s j i
    · exact .inr h'
    · exact absurd (drop_inj hi hj (List.le_antisymm (List.not_lt.1 h') (List.not_lt.1 h))) hne

/-- Places in order of their endings. -/
structure IsSA (s : List Int) (a : List Nat) : Prop where
  perm : a.Perm (List.range s.length)
  sorted : a.Pairwise (Slt s)

theorem IsSA.unique {s : List Int} {a b : List Nat} (ha : IsSA s a) (hb : IsSA s b) : a = b :=
  List.Perm.eq_of_pairwise (le := Slt s) (fun _ _ _ _ h h' => absurd h' (slt_asymm h)) ha.sorted hb.sorted (ha.perm.trans hb.perm.symm)

theorem IsSA.length {s : List Int} {a : List Nat} (h : IsSA s a) : a.length = s.length := by
  have := h.perm.length_eq; simpa using this

/-- A row sorted strictly that has all places is their order. -/
theorem IsSA.of_mem {s : List Int} {a : List Nat} (hs : a.Pairwise (Slt s)) (h1 : ∀ x ∈ a, x < s.length) (h2 : ∀ x, x < s.length → x ∈ a) : IsSA s a := by
  refine ⟨?_, hs⟩
  have hn : a.Nodup := hs.imp (fun {x y} (h : Slt s x y) (e : x = y) => slt_irrefl s x (by rw [← e] at h; exact h))
  refine (List.perm_ext_iff_of_nodup hn List.nodup_range).2 fun x => ?_
  rw [List.mem_range]
  exact ⟨h1 x, h2 x⟩

/-- Distinct values, as many as there are places below a number. -/
theorem nodup_fill {n : Nat} {a : List Nat} (hn : a.Nodup) (hl : n ≤ a.length) (h1 : ∀ x ∈ a, x < n) : ∀ x, x < n → x ∈ a := by
  intro x hx
  apply Decidable.byContradiction
  intro hc
  have h : (x :: a).Nodup := List.nodup_cons.2 ⟨hc, hn⟩
  have := h.length_le_of_subset (l₂ := List.range n) (by
    intro y hy
    rw [List.mem_range]
    rcases List.mem_cons.1 hy with rfl | hy
    · exact hx
    · exact h1 y hy)
  simp at this
  omega

end Go.Proofs.Whorl
