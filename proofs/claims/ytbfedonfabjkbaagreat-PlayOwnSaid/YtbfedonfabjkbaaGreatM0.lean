/- What a call makes and what it leaves: memory told as a row of resources, each with the blocks that it stands on. -/
import Derived.WalkKit
import Derived.WalkLawsBesides
import Derived.WalkSpells
import Derived.Outline
import Derived.Lib.Hide
import Derived.Deep.LoopGhost
import Derived.KernelRfl
import Derived.OwnWalk
import Derived.Below
import Derived.Laws.AppendOwn
set_option linter.unusedVariables false
namespace Go.Proofs.Whorl
open Go.RowKit

/-- A fact that the walk does not look into. -/
structure Hd (p : Prop) : Prop where mk :: (out : p)

/-- A piece of memory: its blocks, what holds of it, that this rests on those blocks alone. -/
structure Res where
  f : Nat → Prop
  P : World → Prop
  loc : ∀ w w' : World, (∀ k, f k → w'.heap[k]? = w.heap[k]?) → P w → P w'

/-- From w0 on to w: what was there is as it was; the pieces L are new, each on blocks of its own. -/
structure Mem (w0 w : World) (L : List Res) : Prop where
  below : Below w0.heap.size w0 w
  holds : ∀ r ∈ L, r.P w ∧ ∀ k, r.f k → w0.heap.size ≤ k ∧ k < w.heap.size
  apart : L.Pairwise (fun r r' => ∀ k, r.f k → ¬ r'.f k)

theorem Mem.nil (w : World) : Mem w w [] := ⟨Below.refl _ _, by simp, List.Pairwise.nil⟩

/-- A step that turns nothing but blocks of one piece, and makes new ones. -/
structure Turn (w w' : World) (f f' : Nat → Prop) : Prop where
  os : w'.os = w.os
  tape : w'.tape = w.tape
  output : w'.output = w.output
  size : w.heap.size ≤ w'.heap.size
  block : ∀ k, k < w.heap.size → ¬ f k → w'.heap[k]? = w.heap[k]?
  foot : ∀ k, f' k → f k ∨ (w.heap.size ≤ k ∧ k < w'.heap.size)

theorem Mem.turn {w0 w w' : World} {A B : List Res} {r r' : Res} (h : Mem w0 w (A ++ r :: B)) (t : Turn w w' r.f r'.f) (hP : r'.P w') : Mem w0 w' (A ++ r' :: B) := by
  have hr := h.holds r (by simp)
  have hap := h.apart
  rw [List.pairwise_append, List.pairwise_cons] at hap
  obtain ⟨a1, ⟨a2, a3⟩, a4⟩ := hap
  have hlt : ∀ k, r.f k → w0.heap.size ≤ k ∧ k < w.heap.size := hr.2
  have other : ∀ q, q ∈ A ∨ q ∈ B → q.P w' ∧ ∀ k, q.f k → w0.heap.size ≤ k ∧ k < w'.heap.size := by
    intro q hq
    have hq' := h.holds q (by rcases hq with hq | hq <;> simp [hq])
    refine ⟨q.loc w w' (fun k hk => t.block k (hq'.2 k hk).2 ?_) hq'.1, fun k hk => ⟨(hq'.2 k hk).1, Nat.lt_of_lt_of_le (hq'.2 k hk).2 t.size⟩⟩
    rcases hq with hq | hq
    · exact a4 q hq r (List.mem_cons_self ..) k hk
    · exact fun hk' => a2 q hq k hk' hk
  have hf : ∀ k, r'.f k → w0.heap.size ≤ k ∧ k < w'.heap.size := by
    intro k hk
    rcases t.foot k hk with h1 | h1
    · exact ⟨(hlt k h1).1, Nat.lt_of_lt_of_le (hlt k h1).2 t.size⟩
    · exact ⟨Nat.le_trans h.below.size h1.1, h1.2⟩
  have hnew : ∀ q, q ∈ A ∨ q ∈ B → ∀ k, q.f k → ¬ r'.f k := by
    intro q hq k hk hk'
    have hq' := h.holds q (by rcases hq with hq | hq <;> simp [hq])
    rcases t.foot k hk' with h1 | h1
    · rcases hq with hq | hq
      · exact a4 q hq r (List.mem_cons_self ..) k hk h1
      · exact a2 q hq k h1 hk
    · have := (hq'.2 k hk).2; omega
  refine ⟨⟨t.os.trans h.below.os, t.tape.trans h.below.tape, t.output.trans h.below.output, Nat.le_trans h.below.size t.size, fun k hk => ?_⟩, ?_, ?_⟩
  · rw [t.block k (Nat.lt_of_lt_of_le hk h.below.size) (fun hk' => by have := (hlt k hk').1; omega)]
    exact h.below.block k hk
  · intro q hq
    rcases List.mem_append.1 hq with hq | hq
    · exact other q (.inl hq)
    · rcases List.mem_cons.1 hq with rfl | hq
      · exact ⟨hP, hf⟩
      · exact other q (.inr hq)
  · rw [List.pairwise_append, List.pairwise_cons]
    refine ⟨a1, ⟨fun q hq k hk hk' => hnew q (.inr hq) k hk' hk, a3⟩, fun q hq q' hq' k hk => ?_⟩
    rcases List.mem_cons.1 hq' with rfl | hq'
    · exact hnew q (.inl hq) k hk
    · exact a4 q hq q' (List.mem_cons_of_mem _ hq') k hk

/-- A piece more. -/
theorem Mem.add {w0 w w' : World} {L M : List Res} (h : Mem w0 w L) (m : Mem w w' M) : Mem w0 w' (L ++ M) := by
  refine ⟨⟨m.below.os.trans h.below.os, m.below.tape.trans h.below.tape, m.below.output.trans h.below.output, Nat.le_trans h.below.size m.below.size, fun k hk => ?_⟩, ?_, ?_⟩
  · rw [m.below.block k (Nat.lt_of_lt_of_le hk h.below.size)]
    exact h.below.block k hk
  · intro q hq
    rcases List.mem_append.1 hq with hq | hq
    · have hq' := h.holds q hq
      exact ⟨q.loc w w' (fun k hk => m.below.block k (hq'.2 k hk).2) hq'.1, fun k hk => ⟨(hq'.2 k hk).1, Nat.lt_of_lt_of_le (hq'.2 k hk).2 m.below.size⟩⟩
    · have hq' := m.holds q hq
      exact ⟨hq'.1, fun k hk => ⟨Nat.le_trans h.below.size (hq'.2 k hk).1, (hq'.2 k hk).2⟩⟩
  · rw [List.pairwise_append]
    refine ⟨h.apart, m.apart, fun q hq q' hq' k hk hk' => ?_⟩
    have := (h.holds q hq).2 k hk
    have := (m.holds q' hq').2 k hk'
    omega

/-- A piece less. -/
theorem Mem.sub {w0 w : World} {L M : List Res} (h : Mem w0 w L) (s : M.Sublist L) : Mem w0 w M :=
  ⟨h.below, fun r hr => h.holds r (s.mem hr), h.apart.sublist s⟩
theorem Mem.perm {w0 w : World} {L M : List Res} (h : Mem w0 w L) (s : M.Perm L) : Mem w0 w M :=
  ⟨h.below, fun r hr => h.holds r (s.mem_iff.1 hr), (s.pairwise_iff (fun {r r'} h k hk hk' => h k hk' hk)).2 h.apart⟩
theorem Mem.get {w0 w : World} {L : List Res} (h : Mem w0 w L) {r : Res} (hr : r ∈ L) : r.P w := (h.holds r hr).1
/-- A piece told otherwise. -/
theorem Mem.say {w0 w : World} {A B : List Res} {r r' : Res} (h : Mem w0 w (A ++ r :: B)) (hP : r'.P w) (hf : ∀ k, r'.f k → r.f k) : Mem w0 w (A ++ r' :: B) :=
  h.turn ⟨rfl, rfl, rfl, Nat.le_refl _, fun _ _ _ => rfl, fun k hk => .inl (hf k hk)⟩ hP
theorem Mem.drew {w0 w : World} {L : List Res} (h : Mem w0 w L) : Mem w0 w.drew L :=
  ⟨h.below.drew, fun r hr => ⟨r.loc w w.drew (fun _ _ => rfl) (h.holds r hr).1, (h.holds r hr).2⟩, h.apart⟩
theorem below_drewN {B : Nat} {a w : World} (h : Below B a w) (n : Nat) : Below B a (w.drewN n) := ⟨h.os, h.tape, h.output, h.size, h.block⟩
theorem Mem.drewN {w0 w : World} {L : List Res} (h : Mem w0 w L) (n : Nat) : Mem w0 (w.drewN n) L :=
  ⟨below_drewN h.below n, fun r hr => ⟨r.loc w (w.drewN n) (fun _ _ => rfl) (h.holds r hr).1, (h.holds r hr).2⟩, h.apart⟩
/-- New blocks that nobody tells of. -/
theorem Mem.alloc {w0 w : World} {L : List Res} (h : Mem w0 w L) (o : Obj) : Mem w0 (w.alloc o) L := by
  have := h.add (w' := w.alloc o) (M := []) ⟨(Below.refl _ _).alloc (Nat.le_refl _) o, by simp, List.Pairwise.nil⟩
  simpa using this
theorem Mem.from {w0 w w' : World} {L : List Res} (h : Mem w0 w L) (b : Below w.heap.size w w') : Mem w0 w' L := by
  have := h.add (w' := w') (M := []) ⟨b, by simp, List.Pairwise.nil⟩
  simpa using this
theorem Mem.cell_ {w0 w : World} {L : List Res} (h : Mem w0 w L) {a : Addr} {v : Value} (r : w0.cell? a = some v) : w.cell? a = some v := (h.below.cell (World.block_lt_of_cell? w0 a r)).trans r
theorem Mem.frozen_ {w0 w : World} {L : List Res} (h : Mem w0 w L) {a : Addr} {v : Value} (r : w0.cell? a = some v) (f : w0.frozen? a = false) : w.frozen? a = false := (h.below.frozen (World.block_lt_of_cell? w0 a r)).trans f
theorem cell_new (w : World) (cs : Array Value) (t : TypeId) (i : Nat) : (w.alloc (.cells cs t)).cell? ⟨w.heap.size, i, none⟩ = cs[i]? := by
  unfold World.cell?
  have : (w.alloc (.cells cs t)).heap[w.heap.size]? = some (.cells cs t (0, 0)) := by
    show (w.heap.push _)[w.heap.size]? = _
    simp
  simp only [this]
  rfl
theorem frozen_new (w : World) (cs : Array Value) (t : TypeId) (i : Nat) : (w.alloc (.cells cs t)).frozen? ⟨w.heap.size, i, none⟩ = false := by
  unfold World.frozen?
  have : (w.alloc (.cells cs t)).heap[w.heap.size]? = some (.cells cs t (0, 0)) := by
    show (w.heap.push _)[w.heap.size]? = _
    simp
  simp only [this]
  simp
theorem Mem.base {w0 w : World} {L : List Res} (h : Mem w0 w L) : Below w0.heap.size w0 w := h.below

/-! A slice of the call's own. -/
def own (v : Value) (e : TypeId) (size n : Nat) (xs : List Value) : Res where
  f k := v.ownBlock = some k
  P w := w.ownsRow 0 e size v n xs
  loc w w' h H := by
    obtain ⟨h1, h2⟩ := H
    refine ⟨h1, ?_⟩
    rcases h2 with h2 | ⟨g, cap, cur, hv, hb, hh, r⟩
    · exact .inl h2
    · exact .inr ⟨g, cap, cur, hv, hb, by rw [h g (by rw [hv]; rfl)]; exact hh, r⟩
theorem owns_slice {w : World} {b e size n : Nat} {v : Value} {xs : List Value} (h : w.ownsRow b e size v n xs) : ∃ A c, v = .slice A n c := by
  rcases h.2 with ⟨rfl, rfl⟩ | ⟨g, cap, cur, rfl, _⟩
  · exact ⟨none, 0, rfl⟩
  · exact ⟨_, cap, rfl⟩
/-- A block whose cells are known. -/
def obj (p : Nat) (cells : Array Value) (t : TypeId) : Res where
  f k := k = p
  P w := w.heap[p]? = some (.cells cells t (0, 0))
  loc w w' h H := by rw [h p rfl]; exact H

theorem ownsRow_zero {w : World} {b e size n : Nat} {v : Value} {xs : List Value} (h : w.ownsRow b e size v n xs) : w.ownsRow 0 e size v n xs :=
  ⟨h.1, h.2.imp id fun ⟨g, cap, cur, hv, _, r⟩ => ⟨g, cap, cur, hv, Nat.zero_le _, r⟩⟩
theorem ownsRow_base {w : World} {b e size n : Nat} {v : Value} {xs : List Value} (h : w.ownsRow 0 e size v n xs) (hb : ∀ k, v.ownBlock = some k → b ≤ k) : w.ownsRow b e size v n xs :=
  ⟨h.1, h.2.imp id fun ⟨g, cap, cur, hv, _, r⟩ => ⟨g, cap, cur, hv, hb g (by rw [hv]; rfl), r⟩⟩

/-- What a contract of the library tells, told so. -/
theorem Mem.of_owns {w w' : World} {e size n : Nat} {v : Value} {xs : List Value} (h : w'.ownsRow w.heap.size e size v n xs) (b : Below w.heap.size w w') : Mem w w' [own v e size n xs] := by
  refine ⟨b, fun r hr => ?_, List.pairwise_singleton ..⟩
  simp only [List.mem_singleton] at hr
  subst hr
  exact ⟨ownsRow_zero h, fun k hk => h.lt k hk⟩
theorem Mem.of_block {w : World} (cells : Array Value) (t : TypeId) : Mem w (w.alloc (.cells cells t)) [obj w.heap.size cells t] := by
  refine ⟨(Below.refl _ _).alloc (Nat.le_refl _) _, fun r hr => ?_, List.pairwise_singleton ..⟩
  simp only [List.mem_singleton] at hr
  subst hr
  refine ⟨?_, fun k hk => ?_⟩
  · show (w.heap.push _)[w.heap.size]? = _
    simp
  · have : k = w.heap.size := hk
    subst this
    simp

/-! What is read. -/
/-- A slice reads as numbers. -/
structure Rd (w : World) (k : IntKind) (A : Option Addr) (xs : List Int) : Prop where
  le : xs.length ≤ 9223372036854775807
  at_ : ∀ j, j < xs.length → ∃ ad, A = some ad ∧ w.cell? (ad.add j) = some (.int k (xs.getD j 0))
theorem cell_lt {w : World} {a : Addr} {v : Value} (h : w.cell? a = some v) : a.block < w.heap.size := World.block_lt_of_cell? w a h
theorem Rd.below {w w' : World} {k : IntKind} {A : Option Addr} {xs : List Int} (h : Rd w k A xs) (b : Below w.heap.size w w') : Rd w' k A xs :=
  ⟨h.le, fun j hj => by
    obtain ⟨ad, e, hc⟩ := h.at_ j hj
    exact ⟨ad, e, (b.cell (cell_lt hc)).trans hc⟩⟩
theorem Mem.rd {w0 w : World} {L : List Res} (h : Mem w0 w L) {k : IntKind} {A : Option Addr} {xs : List Int} (r : Rd w0 k A xs) : Rd w k A xs := r.below h.below
theorem Mem.cell {w0 w : World} {L : List Res} (h : Mem w0 w L) {a : Addr} {v : Value} (r : w0.cell? a = some v) : w.cell? a = some v := (h.below.cell (cell_lt r)).trans r
theorem Rd.nil (w : World) (k : IntKind) (A : Option Addr) : Rd w k A [] := ⟨by simp, fun j hj => by simp at hj⟩
theorem Rd.cell {w : World} {k : IntKind} {ad : Addr} {xs : List Int} (h : Rd w k (some ad) xs) {j : Nat} (hj : j < xs.length) : w.cell? (ad.add j) = some (.int k (xs.getD j 0)) := by
  obtain ⟨ad', e, hc⟩ := h.at_ j hj
  cases e
  exact hc
theorem Rd.cell_pos {w : World} {k : IntKind} {ad : Addr} {xs : List Int} (h : Rd w k (some ad) xs) {j : Nat} (hj : j < xs.length) (h0 : j ≠ 0) : w.cell? ⟨ad.block, ad.off + j, none⟩ = some (.int k (xs.getD j 0)) := by
  have := h.cell hj
  rwa [Addr.add, if_neg h0] at this
theorem Rd.some_ {w : World} {k : IntKind} {A : Option Addr} {xs : List Int} (h : Rd w k A xs) (hn : 0 < xs.length) : ∃ ad, A = some ad := by
  obtain ⟨ad, e, _⟩ := h.at_ 0 hn
  exact ⟨ad, e⟩
theorem add_zero_ (g j : Nat) : (⟨g, 0, none⟩ : Addr).add j = ⟨g, j, none⟩ := by unfold Addr.add; split <;> simp_all
theorem add_add (a : Addr) (i j : Nat) : (a.add i).add j = a.add (i + j) := by
  unfold Addr.add
  by_cases hi : i = 0 <;> by_cases hj : j = 0 <;> simp [hi, hj, Nat.add_assoc]

/-- What is owned is read. -/
theorem own_rd {w : World} {v : Value} {e n : Nat} {k : IntKind} {xs : List Int} (h : (own v e 1 n (xs.map (.int k))).P w) : ∃ A c, v = .slice A n c ∧ n = xs.length ∧ n ≤ c ∧ Rd w k A xs := by
  have h' : w.ownsRow 0 e 1 v n (xs.map (.int k)) := h
  have hl : xs.length = n := by have := h'.1; simpa using this
  rcases h'.2 with ⟨rfl, h0⟩ | ⟨g, cap, cur, rfl, _, hh, h1, h2, h3, h4⟩
  · subst h0
    obtain rfl : xs = [] := List.eq_nil_of_length_eq_zero hl
    exact ⟨none, 0, rfl, rfl, Nat.le_refl _, Rd.nil _ _ _⟩
  · refine ⟨_, cap, rfl, hl.symm, h1, ⟨by unfold maxLen at h2; omega, fun j hj => ⟨_, rfl, ?_⟩⟩⟩
    refine h'.cells (g := g) rfl j _ ?_
    simp [List.getD_eq_getElem?_getD, hj]

end Go.Proofs.Whorl
