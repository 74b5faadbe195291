import Derived.Test.YtbfedonfabjkbaaGreatQSais
set_option linter.unusedVariables false
namespace Go.Proofs.Whorl

variable {s : List Int} {S : Nat → Bool}

theorem slt_shift : ∀ (d x y : Nat), x + d < s.length → y + d < s.length → (∀ e, e < d → gd s (x + e) = gd s (y + e)) → Slt s (x + d) (y + d) → Slt s x y := by
  intro d
  induction d with
  | zero => intro x y _ _ _ h; exact h
  | succ d ih =>
    intro x y hx hy he h
    refine (slt_iff (by omega) (by omega)).2 (.inr ⟨he 0 (by omega), ?_⟩)
    refine ih (x + 1) (y + 1) (by omega) (by omega) (fun e h1 => ?_) ?_
    · have := he (e + 1) (by omega)
      rw [show x + 1 + e = x + (e + 1) by omega, show y + 1 + e = y + (e + 1) by omega]; exact this
    · rw [show x + 1 + d = x + (d + 1) by omega, show y + 1 + d = y + (d + 1) by omega]; exact h

/-- All first places, in the text's order. -/
structure Firsts (S : Nat → Bool) (n : Nat) (first : List Nat) : Prop where
  up : first.Pairwise (· < ·)
  mem : ∀ x, x ∈ first ↔ (x < n ∧ lm S x = true)

theorem firsts_filter (S : Nat → Bool) (n : Nat) : Firsts S n ((List.range n).filter (lm S)) :=
  ⟨List.Pairwise.filter _ List.pairwise_lt_range, fun x => by rw [List.mem_filter, List.mem_range]⟩

theorem Firsts.nodup {n : Nat} {first : List Nat} (h : Firsts S n first) : first.Nodup := h.up.imp fun {x y} (h : x < y) => by omega

theorem Firsts.half {n : Nat} {first : List Nat} (h : Firsts S n first) : 2 * first.length ≤ n := by
  have h1 : (first ++ first.map (· - 1)).Nodup := by
    rw [List.nodup_append]
    refine ⟨h.nodup, ?_, ?_⟩
    · rw [List.Nodup, List.pairwise_map]
      refine h.up.imp_of_mem fun {x y} hx hy (hlt : x < y) => ?_
      have := ((h.mem x).1 hx).2
      have : 0 < x := by simp [lm] at this; omega
      omega
    · intro x hx y hy e
      subst e
      obtain ⟨z, hz, rfl⟩ := List.mem_map.1 hy
      have h2 := ((h.mem _).1 hx).2
      have h3 := ((h.mem _).1 hz).2
      have h4 := lm_small h2
      simp [lm] at h3
      rw [h3.2] at h4
      exact absurd h4 (by decide)
  have := h1.length_le_of_subset (l₂ := List.range n) (by
    intro x hx
    rw [List.mem_range]
    rcases List.mem_append.1 hx with hx | hx
    · exact ((h.mem x).1 hx).1
    · obtain ⟨z, hz, rfl⟩ := List.mem_map.1 hx
      have := ((h.mem z).1 hz).1
      omega)
  simp at this
  omega

theorem Firsts.next {n : Nat} {first : List Nat} (h : Firsts S n first) {i d : Nat} (hi : i < first.length) (hd : 0 < d) (hn : first[i] + d < n) (h1 : lm S (first[i] + d) = true)
    (h2 : ∀ e, 0 < e → e < d → lm S (first[i] + e) = false) : ∃ hi' : i + 1 < first.length, first[i + 1] = first[i] + d := by
  obtain ⟨j, hj, he⟩ := List.mem_iff_getElem.1 ((h.mem _).2 ⟨hn, h1⟩)
  have hup := List.pairwise_iff_getElem.1 h.up
  have hij : i < j := by
    rcases Nat.lt_trichotomy i j with h3 | h3 | h3
    · exact h3
    · subst h3; omega
    · have := hup j i hj hi h3; omega
  refine ⟨by omega, ?_⟩
  rcases (show i + 1 = j ∨ i + 1 < j by omega) with h3 | h3
  · subst h3; exact he
  · have e1 := hup i (i + 1) hi (by omega) (by omega)
    have e2 := hup (i + 1) j (by omega) hj h3
    have e3 := ((h.mem _).1 (List.getElem_mem (show i + 1 < first.length by omega))).2
    have e4 := h2 (first[i + 1] - first[i]) (by omega) (by omega)
    rw [show first[i] + (first[i + 1] - first[i]) = first[i + 1] by omega, e3] at e4
    exact absurd e4 (by decide)

/-- Names that tell the pieces' order. -/
def Names (s : List Int) (S : Nat → Bool) (first : List Nat) (N : List Int) : Prop :=
  N.length = first.length ∧ ∀ i j (hi : i < first.length) (hj : j < first.length), (gd N i < gd N j → key s S first[i] < key s S first[j]) ∧ (gd N i = gd N j → key s S first[i] = key s S first[j])

/-- The names' endings stand as the first ones' do. -/
theorem names_slt (hT : Typed s S) {first : List Nat} (hF : Firsts S s.length first) {N : List Int} (hN : Names s S first N) :
    ∀ (m i j : Nat) (hi : i < first.length) (hj : j < first.length), first.length - i ≤ m → Slt N i j → Slt s first[i] first[j] := by
  intro m
  induction m with
  | zero => intro i j hi hj h; omega
  | succ m ih =>
    intro i j hi hj hm h
    have hij : i ≠ j := by rintro rfl; exact slt_irrefl N i h
    have hx := ((hF.mem _).1 (List.getElem_mem hi)).1
    have hy := ((hF.mem _).1 (List.getElem_mem hj)).1
    obtain ⟨n1, n2⟩ := hN.2 i j hi hj
    rcases (slt_iff (by rw [hN.1]; exact hi) (by rw [hN.1]; exact hj)).1 h with h | ⟨h, h'⟩
    · exact slt_of_key hT _ _ _ (Nat.le_refl _) (by omega) (by omega) (n1 h)
    · have hne : first[i] ≠ first[j] := by
        intro e
        have hup := List.pairwise_iff_getElem.1 hF.up
        rcases Nat.lt_trichotomy i j with h3 | h3 | h3
        · have := hup i j hi hj h3; omega
        · exact hij h3
        · have := hup j i hj hi h3; omega
      obtain ⟨d, h1, h2, h3, h4, h5⟩ := key_same hT _ _ _ (Nat.le_refl _) hx hy hne (n2 h)
      obtain ⟨hi1, e1⟩ := hF.next hi h1 (lm_lt hT h2) h2 (fun e a b => (h4 e a b).1)
      obtain ⟨hj1, e2⟩ := hF.next hj h1 (lm_lt hT h3) h3 (fun e a b => (h4 e a b).2)
      have := ih (i + 1) (j + 1) hi1 hj1 (by omega) h'
      rw [e1, e2] at this
      exact slt_shift d _ _ (lm_lt hT h2) (lm_lt hT h3) (fun e he => h5 e (by omega)) this

/-- What is sorted by names is the first ones in order. -/
theorem names_right (hT : Typed s S) {first : List Nat} (hF : Firsts S s.length first) {N : List Int} (hN : Names s S first N) {b : List Nat} (hb : IsSA N b) :
    (b.map fun i => first.getD i 0).Pairwise (Slt s) ∧ (∀ y, y ∈ (b.map fun i => first.getD i 0) ↔ (0 < y ∧ y < s.length ∧ S y = true ∧ S (y - 1) = false)) := by
  have hlt : ∀ i ∈ b, i < first.length := fun i hi => by
    have := hb.perm.mem_iff.1 hi
    rw [List.mem_range, hN.1] at this
    exact this
  have hg : ∀ i (h : i < first.length), first.getD i 0 = first[i] := fun i h => by simp [List.getD_eq_getElem?_getD, h]
  constructor
  · rw [List.pairwise_map]
    refine hb.sorted.imp_of_mem fun {i j} hi hj h => ?_
    rw [hg i (hlt i hi), hg j (hlt j hj)]
    exact names_slt hT hF hN _ i j (hlt i hi) (hlt j hj) (Nat.le_refl _) h
  · intro y
    have hm : y ∈ (b.map fun i => first.getD i 0) ↔ y ∈ first := by
      constructor
      · intro h
        obtain ⟨i, hi, rfl⟩ := List.mem_map.1 h
        rw [hg i (hlt i hi)]
        exact List.getElem_mem _
      · intro h
        obtain ⟨i, hi, rfl⟩ := List.mem_iff_getElem.1 h
        refine List.mem_map.2 ⟨i, hb.perm.mem_iff.2 (by rw [List.mem_range, hN.1]; exact hi), hg i hi⟩
    rw [hm, hF.mem]
    simp [lm]
    constructor
    · rintro ⟨h1, ⟨h2, h3⟩, h4⟩; exact ⟨h3, h1, h2, h4⟩
    · rintro ⟨h1, h2, h3, h4⟩; exact ⟨h2, ⟨h3, h1⟩, h4⟩

/-! The names, as the code makes them. -/
def pieceF (s : List Int) (nx : Nat → Nat) (x : Nat) : List Int := (s.take (min (nx x + 1) s.length)).drop x
def partF (s : List Int) (nx : Nat → Nat) (l x : Nat) : Bool := nx x == s.length || nx l == s.length || pieceF s nx l != pieceF s nx x
/-- One place of the order: names so far, the last name, the last place (nought: none; else one more). -/
def nameStep (s : List Int) (nx : Nat → Nat) (F : Nat → Bool) (p : List Int × Int × Int) (x : Nat) : List Int × Int × Int :=
  if F x = true then
    let n := if 0 ≤ p.2.2 ∧ partF s nx p.2.2.toNat x = true then p.2.1 + 1 else p.2.1
    (p.1.set x n, n, (x : Int))
  else p

/-- The next first one. -/
structure Next (s : List Int) (S : Nat → Bool) (nx : Nat → Nat) : Prop where
  gt : ∀ x, lm S x = true → x < nx x ∧ nx x ≤ s.length
  isf : ∀ x, lm S x = true → nx x < s.length → lm S (nx x) = true
  no : ∀ x, lm S x = true → ∀ e, x < e → e < nx x → lm S e = false

theorem Next.unique {nx : Nat → Nat} (hN : Next s S nx) {x d : Nat} (hx : lm S x = true) (hd : 0 < d) (hn : x + d < s.length) (h1 : lm S (x + d) = true) (h2 : ∀ e, 0 < e → e < d → lm S (x + e) = false) : nx x = x + d := by
  rcases Nat.lt_trichotomy (nx x) (x + d) with h | h | h
  · have h3 := (hN.gt x hx).1
    have h4 := h2 (nx x - x) (by omega) (by omega)
    rw [show x + (nx x - x) = nx x by omega, hN.isf x hx (by omega)] at h4
    exact absurd h4 (by decide)
  · exact h
  · have := hN.no x hx (x + d) (by omega) h
    rw [h1] at this
    exact absurd this (by decide)

theorem pieceF_length {nx : Nat → Nat} {x : Nat} : (pieceF s nx x).length = min (nx x + 1) s.length - x := by simp [pieceF]
theorem pieceF_gd {nx : Nat → Nat} {x e : Nat} (h : x + e < min (nx x + 1) s.length) : gd (pieceF s nx x) e = gd s (x + e) := by
  rw [gd_eq (by rw [pieceF_length]; omega), gd_eq (by omega)]
  simp [pieceF]

theorem list_ext_gd {a b : List Int} (hl : a.length = b.length) (h : ∀ i, i < a.length → gd a i = gd b i) : a = b := by
  refine List.ext_getElem hl fun i h1 h2 => ?_
  rw [← gd_eq h1, ← gd_eq h2]
  exact h i h1

theorem partF_iff (hT : Typed s S) {nx : Nat → Nat} (hN : Next s S nx) {x y : Nat} (hx : lm S x = true) (hy : lm S y = true) (hne : x ≠ y) :
    partF s nx x y = false ↔ key s S x = key s S y := by
  have gx := hN.gt x hx
  have gy := hN.gt y hy
  have hxl := lm_lt hT hx
  have hyl := lm_lt hT hy
  constructor
  · intro h
    simp only [partF, Bool.or_eq_false_iff, beq_eq_false_iff_ne, ne_eq, bne_eq_false_iff_eq] at h
    obtain ⟨⟨h1, h2⟩, h3⟩ := h
    have hl : (pieceF s nx x).length = (pieceF s nx y).length := by rw [h3]
    rw [pieceF_length, pieceF_length] at hl
    refine key_of_same hT (nx x - x) x y (by omega) ?_ ?_ ?_ ?_
    · rw [show x + (nx x - x) = nx x by omega]; exact hN.isf x hx (by omega)
    · rw [show y + (nx x - x) = nx y by omega]; exact hN.isf y hy (by omega)
    · intro e h4 h5
      exact ⟨hN.no x hx _ (by omega) (by omega), hN.no y hy _ (by omega) (by omega)⟩
    · intro e he
      rw [← pieceF_gd (nx := nx) (by omega), ← pieceF_gd (nx := nx) (by omega), h3]
  · intro h
    obtain ⟨d, h1, h2, h3, h4, h5⟩ := key_same hT _ _ _ (Nat.le_refl _) hxl hyl hne h
    have e1 := hN.unique hx h1 (lm_lt hT h2) h2 (fun e a b => (h4 e a b).1)
    have e2 := hN.unique hy h1 (lm_lt hT h3) h3 (fun e a b => (h4 e a b).2)
    have l1 := lm_lt hT h2
    have l2 := lm_lt hT h3
    simp only [partF, Bool.or_eq_false_iff, beq_eq_false_iff_ne, ne_eq, bne_eq_false_iff_eq]
    refine ⟨⟨by omega, by omega⟩, ?_⟩
    refine list_ext_gd (by rw [pieceF_length, pieceF_length]; omega) fun i hi => ?_
    rw [pieceF_length] at hi
    rw [pieceF_gd (by omega), pieceF_gd (by omega)]
    exact h5 i (by omega)

/-- What holds of the names when the places 'z' are named, the last one's name being n. -/
structure Named (s : List Int) (S : Nat → Bool) (z : List Nat) (p : List Int × Int × Int) : Prop where
  len : p.1.length = s.length
  n0 : 0 ≤ p.2.1
  nz : p.2.1 < max (z.length : Int) 1
  val : ∀ x ∈ z, 0 ≤ gd p.1 x ∧ gd p.1 x ≤ p.2.1
  ord : ∀ x ∈ z, ∀ y ∈ z, (gd p.1 x < gd p.1 y → key s S x < key s S y) ∧ (gd p.1 x = gd p.1 y → key s S x = key s S y)
  last : (z = [] ∧ p.2.2 = -1) ∨ ∃ l, z.getLast? = some l ∧ p.2.2 = (l : Int) ∧ gd p.1 l = p.2.1

theorem key_le_trans {a b c : List Int} (h : a < b ∨ a = b) (h' : b < c) : a < c := by
  rcases h with h | h
  · exact List.lt_trans h h'
  · rw [h]; exact h'

theorem names_run (hT : Typed s S) {nx : Nat → Nat} (hN : Next s S nx) {F : Nat → Bool} (hF : ∀ x, F x = true → lm S x = true) :
    ∀ (l z : List Nat) (p : List Int × Int × Int), (∀ x ∈ l, x < s.length) → (∀ x ∈ z, lm S x = true) → (z ++ l).Pairwise (fun x y => x ≠ y ∧ (key s S x < key s S y ∨ key s S x = key s S y)) → Named s S z p →
      Named s S (z ++ l.filter F) (l.foldl (nameStep s nx F) p) := by
  intro l
  induction l with
  | nil => intro z p _ _ _ h; simpa using h
  | cons x l ih =>
    intro z p hl hz hp h
    rw [List.foldl_cons]
    by_cases hFx : F x = true
    · rw [List.filter_cons_of_pos hFx, show z ++ x :: l.filter F = (z ++ [x]) ++ l.filter F by simp]
      have hxl := hl x (List.mem_cons_self ..)
      have hlx := hF x hFx
      have hzx : ∀ y ∈ z, y ≠ x ∧ (key s S y < key s S x ∨ key s S y = key s S x) := fun y hy => (List.pairwise_append.1 hp).2.2 y hy x (List.mem_cons_self ..)
      refine ih (z ++ [x]) _ (fun y hy => hl y (List.mem_cons_of_mem _ hy)) ?_ (by simpa using hp) ?_
      · intro y hy
        rcases List.mem_append.1 hy with hy | hy
        · exact hz y hy
        · simp at hy; subst hy; exact hlx
      · have hset : ∀ (v : Int) y, gd (p.1.set x v) y = if x = y then v else gd p.1 y := fun v y => gd_set (by rw [h.len]; exact hxl)
        rcases h.last with ⟨hz0, hl0⟩ | ⟨w, hw, hl0, hgw⟩
        · subst hz0
          have hn := h.nz
          have hn0 := h.n0
          have e : nameStep s nx F p x = (p.1.set x p.2.1, p.2.1, (x : Int)) := by
            rw [nameStep, if_pos hFx, hl0, if_neg (by omega)]
          rw [e]
          have hn1 : p.2.1 = 0 := by simp at hn; omega
          refine ⟨by simp [h.len], hn0, by simp [hn1], ?_, ?_, .inr ⟨x, by simp, rfl, by simp only; rw [hset, if_pos rfl]⟩⟩
          · intro y hy
            simp at hy; subst hy
            simp only
            rw [hset, if_pos rfl]; omega
          · intro y hy y' hy'
            simp at hy hy'; subst hy; subst hy'
            exact ⟨fun h => by omega, fun _ => rfl⟩
        · have hwz : w ∈ z := List.mem_of_getLast? hw
          obtain ⟨hwx, hkw⟩ := hzx w hwz
          have hzw : ∀ y ∈ z, key s S y < key s S w ∨ key s S y = key s S w := by
            intro y hy
            have h1 := h.val y hy
            obtain ⟨h2, h3⟩ := h.ord y hy w hwz
            rcases Int.lt_or_eq_of_le (show gd p.1 y ≤ gd p.1 w by omega) with h4 | h4
            · exact .inl (h2 h4)
            · exact .inr (h3 h4)
          have hb := partF_iff hT hN (hz w hwz) hlx hwx
          have hzl : 0 < z.length := List.length_pos_of_mem hwz
          have hnz := h.nz
          have hn0 := h.n0
          have hzne : ∀ y ∈ z, x ≠ y := fun y hy e => (hzx y hy).1 e.symm
          by_cases hpart : partF s nx w x = true
          · have hk : key s S w < key s S x := by
              rcases hkw with h1 | h1
              · exact h1
              · rw [hb.2 h1] at hpart; exact absurd hpart (by decide)
            have e : nameStep s nx F p x = (p.1.set x (p.2.1 + 1), p.2.1 + 1, (x : Int)) := by
              rw [nameStep, if_pos hFx, hl0, Int.toNat_natCast, if_pos ⟨by omega, hpart⟩]
            rw [e]
            refine ⟨by simp [h.len], by simp only; omega, by simp only [List.length_append, List.length_singleton]; omega, ?_, ?_, .inr ⟨x, by simp, rfl, by simp only; rw [hset, if_pos rfl]⟩⟩
            · intro y hy
              simp only
              rw [hset]
              rcases List.mem_append.1 hy with hy | hy
              · rw [if_neg (hzne y hy)]; have := h.val y hy; omega
              · simp at hy; subst hy; rw [if_pos rfl]; omega
            · intro y hy y' hy'
              simp only
              rw [hset, hset]
              rcases List.mem_append.1 hy with hy1 | hy
              · rw [if_neg (hzne y hy1)]
                have hv := h.val y hy1
                rcases List.mem_append.1 hy' with hy' | hy'
                · rw [if_neg (hzne y' hy')]; exact h.ord y hy1 y' hy'
                · simp at hy'; subst hy'; rw [if_pos rfl]
                  exact ⟨fun _ => key_le_trans (hzw y hy1) hk, fun h => by omega⟩
              · simp at hy; subst hy; rw [if_pos rfl]
                rcases List.mem_append.1 hy' with hy' | hy'
                · rw [if_neg (hzne y' hy')]
                  have hv := h.val y' hy'
                  exact ⟨fun h => by omega, fun h => by omega⟩
                · simp at hy'; subst hy'; rw [if_pos rfl]
                  exact ⟨fun h => by omega, fun _ => rfl⟩
          · have hk : key s S w = key s S x := hb.1 (by simpa using hpart)
            have e : nameStep s nx F p x = (p.1.set x p.2.1, p.2.1, (x : Int)) := by
              rw [nameStep, if_pos hFx, hl0, Int.toNat_natCast, if_neg (fun h => hpart h.2)]
            rw [e]
            refine ⟨by simp [h.len], by simp only; omega, by simp only [List.length_append, List.length_singleton]; omega, ?_, ?_, .inr ⟨x, by simp, rfl, by simp only; rw [hset, if_pos rfl]⟩⟩
            · intro y hy
              simp only
              rw [hset]
              rcases List.mem_append.1 hy with hy | hy
              · rw [if_neg (hzne y hy)]; exact h.val y hy
              · simp at hy; subst hy; rw [if_pos rfl]; omega
            · intro y hy y' hy'
              simp only
              rw [hset, hset]
              rcases List.mem_append.1 hy with hy1 | hy
              · rw [if_neg (hzne y hy1)]
                rcases List.mem_append.1 hy' with hy' | hy'
                · rw [if_neg (hzne y' hy')]; exact h.ord y hy1 y' hy'
                · simp at hy'; subst hy'; rw [if_pos rfl, ← hk, ← hgw]
                  exact h.ord y hy1 w hwz
              · simp at hy; subst hy; rw [if_pos rfl]
                rcases List.mem_append.1 hy' with hy' | hy'
                · rw [if_neg (hzne y' hy'), ← hk, ← hgw]
                  exact h.ord w hwz y' hy'
                · simp at hy'; subst hy'; rw [if_pos rfl]
                  exact ⟨fun h => by omega, fun _ => rfl⟩
    · rw [List.filter_cons_of_neg hFx]
      have e : nameStep s nx F p x = p := by rw [nameStep, if_neg hFx]
      rw [e]
      refine ih z p (fun y hy => hl y (List.mem_cons_of_mem _ hy)) hz ?_ h
      refine hp.sublist ?_
      exact List.Sublist.append (List.Sublist.refl _) (List.sublist_cons_self ..)

end Go.Proofs.Whorl
