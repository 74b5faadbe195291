import Derived.Test.YtbfedonfabjkbaaGreatQInduce2
namespace Go.Proofs.Whorl

variable {s : List Int} {S : Nat → Bool} {k : Nat} {Bs nL nS : Nat → Nat} {lt lt' : Nat → Nat → Prop} {q : Nat → Nat} {i : Nat} {row : List Int}

/-- The first ones are laid from the last on: 'done' are those that are laid. -/
structure InvZ (s : List Int) (S : Nat → Bool) (k : Nat) (Bs nL nS : Nat → Nat) (lt : Nat → Nat → Prop) (q : Nat → Nat) (don : List Nat) (row : List Int) : Prop where
  len : row.length = s.length
  q1 : ∀ c, c < k → Bs c + nL c ≤ q c
  q2 : ∀ c, c < k → q c ≤ Bs (c + 1)
  blank : ∀ c p, c < k → Bs c ≤ p → p < q c → gd row p = -1
  sma : ∀ c p, c < k → q c ≤ p → p < Bs (c + 1) → ∃ x : Nat, x ∈ don ∧ gd row p = (x : Int) ∧ gd s x = (c : Int)
  sorted : ∀ p p' (x y : Nat), p < p' → p' < s.length → gd row p = (x : Int) → gd row p' = (y : Int) → lt x y
  laid : ∀ x, x ∈ don → ∃ p, p < s.length ∧ gd row p = (x : Int)

theorem InvZ.start (hB : Buckets s S k Bs nL nS) : InvZ s S k Bs nL nS lt (fun c => Bs (c + 1)) [] (List.replicate s.length (-1)) := by
  have hr : ∀ p, p < s.length → gd (List.replicate s.length (-1)) p = -1 := fun p hp => by rw [gd_eq (by simpa using hp)]; simp
  refine ⟨by simp, fun c hc => ?_, fun c _ => Nat.le_refl _, fun c p hc h1 h2 => ?_, fun c p _ h1 h2 => by omega, fun p p' x y h1 h2 h3 _ => ?_, fun x hx => by simp at hx⟩
  · have := hB.step c hc; omega
  · exact hr p (by have := hB.end_le hc; omega)
  · rw [hr p (by omega)] at h3; omega

theorem InvZ.lay (hB : Buckets s S k Bs nL nS) (hO : Ord1 s S lt) {don : List Nat} (h : InvZ s S k Bs nL nS lt q don row) {x c : Nat}
    (hd : ∀ y ∈ don, y < s.length ∧ S y = true) (hx : x < s.length) (hnd : x ∉ don) (hS : S x = true) (hc : gd s x = (c : Int)) (hlt : ∀ y ∈ don, gd s x = gd s y → lt x y) :
    1 ≤ q c ∧ q c - 1 < s.length ∧ InvZ s S k Bs nL nS lt (fun d => if d = c then q c - 1 else q d) (x :: don) (row.set (q c - 1) (x : Int)) := by
  have hck : c < k := by have := hB.range x (by omega); omega
  have hst := hB.step c hck
  have hend := hB.end_le hck
  have hq1 := h.q1 c hck
  have hq2 := h.q2 c hck
  have hroom : Bs (c + 1) - q c < nS c := by
    rw [hB.cS c hck]
    refine row_lt_cnt (row := row) (a := q c) (b := Bs (c + 1)) (x := x) hq2 ?_ ?_ hx (by simp [hS, hc])
    · intro p p' h1 h2 h3 he
      obtain ⟨y, _, hy, _⟩ := h.sma c p hck h1 (by omega)
      exact hO.irrefl _ (h.sorted p p' y y h2 (by omega) hy (by rw [← he]; exact hy))
    · intro p h1 h2
      obtain ⟨y, hm, hy, h5⟩ := h.sma c p hck h1 h2
      obtain ⟨h3, h4⟩ := hd y hm
      refine ⟨y, hy, h3, by simp [h4, h5], ?_⟩
      rintro rfl
      exact hnd hm
  have hblank : gd row (q c - 1) = -1 := h.blank c (q c - 1) hck (by omega) (by omega)
  have hset : ∀ p, gd (row.set (q c - 1) (x : Int)) p = if q c - 1 = p then (x : Int) else gd row p := fun p => gd_set (by rw [h.len]; omega)
  have where_ : ∀ p (y : Nat), p < s.length → gd row p = (y : Int) → ∃ d, d < k ∧ Bs d ≤ p ∧ p < Bs (d + 1) ∧ q d ≤ p ∧ y ∈ don ∧ gd s y = (d : Int) := by
    intro p y hp hy
    obtain ⟨d, hd1, h1, h2⟩ := hB.find hp
    by_cases e : p < q d
    · rw [h.blank d p hd1 h1 e] at hy; omega
    · obtain ⟨z, hz, h3, h4⟩ := h.sma d p hd1 (by omega) h2
      obtain rfl : z = y := by rw [hy] at h3; omega
      exact ⟨d, hd1, h1, h2, by omega, hz, h4⟩
  refine ⟨by omega, by omega, ⟨by simp [h.len], ?_, ?_, ?_, ?_, ?_, ?_⟩⟩
  · intro d hd
    by_cases e : d = c
    · subst e; simp; omega
    · simp [e]; exact h.q1 d hd
  · intro d hd
    by_cases e : d = c
    · subst e; simp; omega
    · simp [e]; exact h.q2 d hd
  · intro d p hd h1 h2
    rw [hset]
    have := h.q2 d hd
    by_cases e : d = c
    · subst e
      simp only [if_true] at h2
      rw [if_neg (by omega)]
      exact h.blank d p hd h1 (by omega)
    · simp only [e, if_false] at h2
      rw [if_neg]
      · exact h.blank d p hd h1 h2
      · intro e'
        exact e (hB.apart (p := p) hd hck (by omega) (by omega) (by omega) (by omega))
  · intro d p hd h1 h2
    rw [hset]
    by_cases e : d = c
    · subst e
      simp only [if_true] at h1
      by_cases e' : q d - 1 = p
      · exact ⟨x, List.mem_cons_self .., by simp [e'], hc⟩
      · rw [if_neg e']
        obtain ⟨y, h3, h4⟩ := h.sma d p hd (by omega) h2
        exact ⟨y, List.mem_cons_of_mem _ h3, h4⟩
    · simp only [e, if_false] at h1
      have := h.q1 d hd
      rw [if_neg]
      · obtain ⟨y, h3, h4⟩ := h.sma d p hd h1 h2
        exact ⟨y, List.mem_cons_of_mem _ h3, h4⟩
      · intro e'
        exact e (hB.apart (p := p) hd hck (by omega) (by omega) (by omega) (by omega))
  · intro p p' y z hpp hp' hy hz
    rw [hset] at hy hz
    by_cases e' : q c - 1 = p'
    · rw [if_pos e'] at hz
      rw [if_neg (by omega)] at hy
      obtain rfl : z = x := by omega
      obtain ⟨d, hd1, h1, h2, h3, hm, hsy⟩ := where_ p y (by omega) hy
      have hdc : d ≤ c := hB.lt_of (p := p') (p' := p) hck hd1 (by omega) (by omega) h1 h2 (by omega)
      by_cases e : d = c
      · subst e; omega
      · exact hO.ch y z (hd y hm).1 hx (by omega)
    · rw [if_neg e'] at hz
      by_cases e : q c - 1 = p
      · rw [if_pos e] at hy
        obtain rfl : y = x := by omega
        obtain ⟨d, hd1, h1, h2, _, hm, hsz⟩ := where_ p' z hp' hz
        have hdc : c ≤ d := hB.lt_of (p := p') (p' := p) hd1 hck h1 h2 (by omega) (by omega) (by omega)
        by_cases e1 : d = c
        · exact hlt z hm (by rw [hc, hsz, e1])
        · exact hO.ch y z hx (hd z hm).1 (by omega)
      · rw [if_neg e] at hy
        exact h.sorted p p' y z hpp hp' hy hz
  · intro y hy
    rcases List.mem_cons.1 hy with rfl | hy
    · exact ⟨q c - 1, by omega, by rw [hset, if_pos rfl]⟩
    · obtain ⟨p, hp, he⟩ := h.laid y hy
      refine ⟨p, hp, ?_⟩
      rw [hset, if_neg, he]
      rintro rfl
      rw [hblank] at he
      omega

/-- All first ones are laid; the last place of all is laid: the first pass may begin. -/
theorem InvZ.begin (hB : Buckets s S k Bs nL nS) (hT : Typed s S) (hO : Ord1 s S lt) {first : List Nat} (h : InvZ s S k Bs nL nS lt q first row)
    (hd : ∀ y, y ∈ first ↔ (0 < y ∧ y < s.length ∧ S y = true ∧ S (y - 1) = false)) (hn : 0 < s.length) {c : Nat} (hc : gd s (s.length - 1) = (c : Int)) :
    Bs c < s.length ∧ Inv1 s S k Bs nL nS lt (fun d => if d = c then Bs c + 1 else Bs d) 0 (row.set (Bs c) ((s.length - 1 : Nat) : Int)) := by
  have hS : S (s.length - 1) = false := hT.last _ (by omega)
  have hck : c < k := by have := hB.range (s.length - 1) (by omega); omega
  have hst := hB.step c hck
  have hend := hB.end_le hck
  have hroom : 0 < nL c := by
    rw [hB.cL c hck]
    have := nodup_le_cnt (n := s.length) (p := fun x => !S x && gd s x == (c : Int)) (a := [s.length - 1]) (by simp) (by
      intro x hx; simp at hx; subst hx; exact ⟨by omega, by simp [hS, hc]⟩)
    simp only [List.length_singleton] at this
    omega
  have hq1 := h.q1 c hck
  have hblank : gd row (Bs c) = -1 := h.blank c _ hck (Nat.le_refl _) (by omega)
  have hset : ∀ p, gd (row.set (Bs c) ((s.length - 1 : Nat) : Int)) p = if Bs c = p then ((s.length - 1 : Nat) : Int) else gd row p := fun p => gd_set (by rw [h.len]; omega)
  have where_ : ∀ p (y : Nat), p < s.length → gd row p = (y : Int) → ∃ d, d < k ∧ Bs d ≤ p ∧ p < Bs (d + 1) ∧ q d ≤ p ∧ y ∈ first ∧ gd s y = (d : Int) := by
    intro p y hp hy
    obtain ⟨d, hd1, h1, h2⟩ := hB.find hp
    by_cases e : p < q d
    · rw [h.blank d p hd1 h1 e] at hy; omega
    · obtain ⟨z, hz, h3, h4⟩ := h.sma d p hd1 (by omega) h2
      obtain rfl : z = y := by rw [hy] at h3; omega
      exact ⟨d, hd1, h1, h2, by omega, hz, h4⟩
  refine ⟨by omega, ⟨by simp [h.len], ?_, ?_, ?_, ?_, ?_, ?_, ?_⟩⟩
  · intro d _
    by_cases e : d = c
    · subst e; simp
    · simp [e]
  · intro d _
    by_cases e : d = c
    · subst e; simp; omega
    · simp [e]
  · intro d p hd1 h1 h2
    by_cases e : d = c
    · subst e
      simp only [if_true] at h2
      obtain rfl : p = Bs d := by omega
      exact ⟨s.length - 1, by rw [hset, if_pos rfl], by omega, hS, hc⟩
    · simp only [e, if_false] at h2; omega
  · intro d p hd1 h1 h2
    rw [hset]
    have hge : Bs d ≤ p ∧ Bs c ≠ p := by
      by_cases e : d = c
      · subst e; simp only [if_true] at h1; omega
      · simp only [e, if_false] at h1
        exact ⟨h1, fun e' => e (hB.apart (p := p) hd1 hck (by omega) (by omega) (by omega) (by omega))⟩
    rw [if_neg hge.2]
    by_cases e : p < q d
    · exact .inl (h.blank d p hd1 hge.1 e)
    · obtain ⟨y, h3, h4, h5⟩ := h.sma d p hd1 (by omega) h2
      have := h.q1 d hd1
      exact .inr ⟨by omega, y, h4, ((hd y).1 h3).2.1, ((hd y).1 h3).2.2.1, h5⟩
  · intro p p' y z hpp hp' hy hz
    rw [hset] at hy hz
    by_cases e' : Bs c = p'
    · rw [if_pos e'] at hz
      rw [if_neg (by omega)] at hy
      obtain rfl : z = s.length - 1 := by omega
      obtain ⟨d, hd1, h1, h2, h3, hm, hsy⟩ := where_ p y (by omega) hy
      have hdc : d ≤ c := hB.lt_of (p := p') (p' := p) hck hd1 (by omega) (by omega) h1 h2 (by omega)
      by_cases e : d = c
      · subst e; omega
      · exact hO.ch y _ ((hd y).1 hm).2.1 (by omega) (by omega)
    · rw [if_neg e'] at hz
      by_cases e : Bs c = p
      · rw [if_pos e] at hy
        obtain rfl : y = s.length - 1 := by omega
        obtain ⟨d, hd1, h1, h2, _, hm, hsz⟩ := where_ p' z hp' hz
        have hdc : c ≤ d := hB.lt_of (p := p') (p' := p) hd1 hck h1 h2 (by omega) (by omega) (by omega)
        by_cases e1 : d = c
        · exact hO.ty _ z (by omega) ((hd z).1 hm).2.1 (by rw [hc, hsz, e1]) hS ((hd z).1 hm).2.2.1
        · exact hO.ch _ z (by omega) ((hd z).1 hm).2.1 (by omega)
      · rw [if_neg e] at hy
        exact h.sorted p p' y z hpp hp' hy hz
  · intro y h1 h2 h3
    obtain ⟨p, hp, he⟩ := h.laid (y + 1) ((hd (y + 1)).2 ⟨by omega, h1, h3, by simpa using h2⟩)
    refine ⟨p, hp, ?_⟩
    rw [hset, if_neg, he]
    rintro rfl
    rw [hblank] at he
    omega
  · intro y hy hSy
    constructor
    · rintro ⟨p, hp, he⟩
      rw [hset] at he
      by_cases e : Bs c = p
      · rw [if_pos e] at he; left; omega
      · rw [if_neg e] at he
        obtain ⟨_, _, _, _, _, hm, _⟩ := where_ p y hp he
        rw [((hd y).1 hm).2.2.1] at hSy
        exact absurd hSy (by decide)
    · rintro (h1 | ⟨p, h1, _⟩)
      · exact ⟨Bs c, by omega, by rw [hset, if_pos rfl]; omega⟩
      · omega

/-- Between the passes: the small ones are taken out. -/
theorem Inv1.turn (hB : Buckets s S k Bs nL nS) (h : Inv1 s S k Bs nL nS lt q s.length row) (hlt : ∀ x y, S x = false → S y = false → lt x y → lt' x y)
    {row' : List Int} (hl : row'.length = s.length) (hr : ∀ p, p < s.length → gd row' p = if 0 ≤ gd row p ∧ S (gd row p).toNat = true then -1 else gd row p) :
    Inv2 s S k Bs nL nS lt' (fun c => Bs (c + 1)) s.length row' := by
  have hq : ∀ c, c < k → q c = Bs c + nL c := by
    intro c hc
    have h1 := h.q1 c hc
    have h2 := h.q2 c hc
    have h3 : cnt s.length (fun x => !S x && gd s x == (c : Int)) ≤ q c - Bs c := by
      refine cnt_le_row (row := row) ?_
      intro x hx hp
      simp only [Bool.and_eq_true, Bool.not_eq_true', beq_iff_eq] at hp
      obtain ⟨p, hp1, hp2⟩ := h.all x hx hp.1
      obtain ⟨d, hd, h4, h5, _, h6, h7⟩ := h.where_ hB hp1 hp2
      obtain rfl : d = c := by omega
      refine ⟨p, h4, ?_, hp2⟩
      rcases h7 with ⟨h7, _⟩ | ⟨_, h7⟩
      · exact h7
      · rw [hp.1] at h7; exact absurd h7 (by decide)
    rw [← hB.cL c hc] at h3
    omega
  have hlar : ∀ c p, c < k → Bs c ≤ p → p < Bs c + nL c → ∃ x : Nat, gd row' p = (x : Int) ∧ x < s.length ∧ S x = false ∧ gd s x = (c : Int) := by
    intro c p hc h1 h2
    obtain ⟨x, h3, h4, h5, h6⟩ := h.lar c p hc h1 (by rw [hq c hc]; exact h2)
    have := hB.step c hc; have := hB.end_le hc
    refine ⟨x, ?_, h4, h5, h6⟩
    rw [hr p (by omega), h3, if_neg]
    simp [h5]
  have hback : ∀ p (x : Nat), p < s.length → gd row' p = (x : Int) → gd row p = (x : Int) ∧ S x = false := by
    intro p x hp hx
    rw [hr p hp] at hx
    by_cases e : 0 ≤ gd row p ∧ S (gd row p).toNat = true
    · rw [if_pos e] at hx; omega
    · rw [if_neg e] at hx
      refine ⟨hx, ?_⟩
      rw [hx] at e
      simpa using e
  refine ⟨hl, fun c hc => by have := hB.step c hc; omega, fun c _ => Nat.le_refl _, hlar, ?_, fun c p _ h1 h2 => by omega, ?_, ?_, ?_⟩
  · intro c p hc h1 h2
    have h2' : p < Bs (c + 1) := h2
    have := hB.end_le hc
    rw [hr p (by omega)]
    rcases h.rest c p hc (by rw [hq c hc]; exact h1) h2 with h3 | ⟨_, x, h3, h4, h5, _⟩
    · rw [h3, if_neg (by omega)]
    · rw [h3, if_pos]
      simp [h5]
  · intro p p' x y h1 h2 h3 h4
    obtain ⟨h5, h6⟩ := hback p x (by omega) h3
    obtain ⟨h7, h8⟩ := hback p' y h2 h4
    exact hlt x y h6 h8 (h.sorted p p' x y h1 h2 h5 h7)
  · intro x hx hS
    obtain ⟨p, hp, he⟩ := h.all x hx hS
    refine ⟨p, hp, ?_⟩
    rw [hr p hp, he, if_neg]
    simp [hS]
  · intro x hx hS
    constructor
    · rintro ⟨p, hp, he⟩
      have := (hback p x hp he).2
      rw [hS] at this; exact absurd this (by decide)
    · rintro ⟨p, h1, h2, _⟩; omega

end Go.Proofs.Whorl
