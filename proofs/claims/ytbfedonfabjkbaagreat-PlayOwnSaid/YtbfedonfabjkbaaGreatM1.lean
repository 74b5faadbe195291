/- What operations turn: a store, a new slice, an append, told of the pieces of memory. -/
import Derived.Test.YtbfedonfabjkbaaGreatM0
import Derived.Test.YtbfedonfabjkbaaGreatQSais2
import Derived.Maps.AppendAt
import Derived.Laws.IdiomCopy
import Derived.Laws.MakeOwn
import Derived.Laws.OwnMore
import Derived.Laws.BytesArg
import Derived.StillTailTactics
import Derived.Deep.QuietTactic
import Derived.BigQuiet
import Derived.Laws.BytesString
set_option linter.unusedVariables false
namespace Go.Proofs.Whorl
open Go.RowKit

theorem frozen_block {w : World} {g : Nat} {t : TypeId} {cs : Array Value} (h : w.heap[g]? = some (.cells cs t (0, 0))) (i : Nat) : w.frozen? ⟨g, i, none⟩ = false := by simp [World.frozen?, h]
theorem cell_block {w : World} {g : Nat} {t : TypeId} {cs : Array Value} {fr : Nat × Nat} (h : w.heap[g]? = some (.cells cs t fr)) (i : Nat) : w.cell? ⟨g, i, none⟩ = cs[i]? := by simp [World.cell?, h]
theorem block_set {w : World} {g : Nat} {t : TypeId} {cs : Array Value} (h : w.heap[g]? = some (.cells cs t (0, 0))) (o : Nat) (v : Value) : (w.setCell ⟨g, o, none⟩ v).heap[g]? = some (.cells (cs.setIfInBounds o v) t (0, 0)) := by
  simp [World.setCell, Array.getElem?_modify, h]
theorem setCells_far {g : Nat} : ∀ (vs : List Value) (o : Nat) {w : World} (k : Nat), k ≠ g → (w.setCells g o vs).heap[k]? = w.heap[k]?
  | [], _, _, _, _ => rfl
  | v :: r, o, w, k, hk => by
    rw [World.setCells, setCells_far r (o + 1) k hk]
    exact Below.heap_setCell w ⟨g, o, none⟩ v k hk
theorem setCells_same (g : Nat) : ∀ (vs : List Value) (o : Nat) (w : World), (w.setCells g o vs).os = w.os ∧ (w.setCells g o vs).tape = w.tape ∧ (w.setCells g o vs).output = w.output ∧ (w.setCells g o vs).heap.size = w.heap.size
  | [], _, _ => ⟨rfl, rfl, rfl, rfl⟩
  | v :: r, o, w => by
    obtain ⟨h1, h2, h3, h4⟩ := setCells_same g r (o + 1) (w.setCell ⟨g, o, none⟩ v)
    rw [World.setCells]
    exact ⟨h1, h2, h3, by rw [h4]; simp [World.setCell]⟩
theorem setCells_row {g : Nat} {e : TypeId} : ∀ (vs : List Value) (o : Nat) (w : World) (cur : Array Value), w.heap[g]? = some (.cells cur e (0, 0)) → o + vs.length ≤ cur.size →
    ∃ cur', (w.setCells g o vs).heap[g]? = some (.cells cur' e (0, 0)) ∧ cur'.size = cur.size ∧ cur'.toList = cur.toList.take o ++ vs ++ cur.toList.drop (o + vs.length)
  | [], o, w, cur, h, _ => ⟨cur, h, rfl, by simp⟩
  | v :: r, o, w, cur, h, hl => by
    have h2 := block_set h o v
    simp only [List.length_cons] at hl
    obtain ⟨cur', h3, h4, h5⟩ := setCells_row r (o + 1) (w.setCell ⟨g, o, none⟩ v) _ h2 (by simp; omega)
    refine ⟨cur', h3, by rw [h4]; simp, ?_⟩
    rw [h5, Array.toList_setIfInBounds]
    have hlt : o < cur.toList.length := by rw [Array.length_toList]; omega
    rw [List.take_set, List.take_succ_eq_append_getElem hlt, List.set_append_right _ _ (by rw [List.length_take]; omega), List.length_take, Nat.min_eq_left (by omega), Nat.sub_self]
    simp only [List.set_cons_zero, List.length_cons]
    rw [List.drop_set_of_lt (by omega), show o + 1 + r.length = o + (r.length + 1) by omega]
    simp

theorem run_store_seg {P : Program} {w : World} {g o : Nat} {e : TypeId} {cur : Array Value} (t : TypeId) (u : Value) (seg : List Value) (hh : w.heap[g]? = some (.cells cur e (0, 0))) (hu : u.cells.toList = seg) (ht : (P.info? t).map (·.size) = some seg.length)
    (hfit : o + seg.length ≤ cur.size) (h1 : ∀ q ∈ seg, q.oneCell' = true) : (Instr.storeAt t (.pointer (some ⟨g, o, none⟩)) u).run P w = .ok () (w.setCells g o seg) := by
  obtain ⟨i, hi, hsz⟩ := Option.map_eq_some_iff.1 ht
  have hc : u.cells.size = i.size := by rw [hsz, ← hu, Array.length_toList]
  have hst := run_storeCells_cells (P := P) g o seg 0 w (fun j hj => by rw [cell_block hh]; simp; omega) (fun j _ => frozen_block hh _) h1
  simp only [Nat.add_zero] at hst
  simp [Instr.storeAt, Instr.sureAddr, storeVar, sizeOf, typeInfo, hi, hc, hu, hst]

section
variable {P : Program} {ops : Array Oper} {rest : List Oper} {o : Oper} {a : Act} {Q : Exit → Act → World → Prop}

/-- Gates: they fail at once at any other operation. -/
theorem gate_store {w : World} {t : TypeId} {p : Tmp} {v : Operand} (_ho : o.op = .store t (.tmp p) v) (h : wpList P ops Q (o :: rest) a w) : wpList P ops Q (o :: rest) a w := h
theorem gate_dst {w : World} {d : Tmp} (_ho : o.dst = some d) (h : wpList P ops Q (o :: rest) a w) : wpList P ops Q (o :: rest) a w := h

/-- A store into a block: the world turns just there. -/
theorem wpList_store_seg {w : World} (hgd : o.guard = none) {t : TypeId} {p x : Operand} (ho : o.op = .store t p x) (hN : o.dst = none) {g k : Nat} {e : TypeId} {cur : Array Value} {u : Value} {seg : List Value}
    (hp : a.eval p = .pointer (some ⟨g, k, none⟩)) (hx : a.eval x = u) (hh : w.heap[g]? = some (.cells cur e (0, 0))) (hu : u.cells.toList = seg) (ht : (P.info? t).map (·.size) = some seg.length) (hfit : k + seg.length ≤ cur.size) (h1 : ∀ q ∈ seg, q.oneCell' = true)
    (h : wpList P ops Q rest a (w.setCells g k seg)) : wpList P ops Q (o :: rest) a w := by
  refine wpList_plain hgd fun K hK => ?_
  have hrun := run_store_seg (P := P) t u seg hh hu ht hfit h1
  unfold Oper.wp execOp
  simp only [ho, hp, hx, Sem.run_bind, Sem.run_pure, Result.andThen_ok, hrun]
  show K (a.put o.dst undef) _
  rw [hN]
  exact hK a _ h

theorem set_mid {α : Type} (xs : List α) (j : Nat) (u : α) (hj : j < xs.length) : xs.take j ++ [u] ++ xs.drop (j + 1) = xs.set j u := by
  rw [List.set_eq_take_append_cons_drop, if_pos hj]; simp

/-- 'xs[j] = u', an own slice of one cell an element. -/
theorem mem_store {w0 w : World} (A : List Res) {B : List Res} {v : Value} {e n : Nat} {xs : List Value} (hm : Mem w0 w (A ++ own v e 1 n xs :: B)) (hgd : o.guard = none) {t : TypeId} {p x : Operand} (ho : o.op = .store t p x) (hN : o.dst = none) {g j c : Nat} {u : Value}
    (hv : v = .slice (some ⟨g, 0, none⟩) n c) (hp : a.eval p = .pointer (some ⟨g, j, none⟩)) (hx : a.eval x = u) (hu : u.cells.toList = [u]) (ht : (P.info? t).map (·.size) = some 1) (hj : j < n) (h1 : u.oneCell' = true)
    (h : ∀ w', Mem w0 w' (A ++ own v e 1 n (xs.set j u) :: B) → wpList P ops Q rest a w') : wpList P ops Q (o :: rest) a w := by
  have hown : w.ownsRow 0 e 1 v n xs := hm.get (r := own v e 1 n xs) (by simp)
  obtain ⟨hl, hown⟩ := hown
  rcases hown with ⟨hv', _⟩ | ⟨g', cap, cur, hv', hb, hh, hnc, hcm, hcs, htk⟩
  · rw [hv] at hv'; cases hv'
  · rw [hv] at hv'
    injection hv' with ha _ hc
    injection ha with ha
    injection ha with hg
    subst hg; subst hc
    refine wpList_store_seg (cur := cur) (e := e) (g := g) (k := j) (seg := [u]) hgd ho hN hp hx hh hu ht (by simp; omega) (by simpa using h1) (h _ ?_)
    obtain ⟨cur', c1, c2, c3⟩ := setCells_row [u] j w cur hh (by simp; omega)
    obtain ⟨s1, s2, s3, s4⟩ := setCells_same g [u] j w
    refine hm.turn ⟨s1, s2, s3, by rw [s4]; exact Nat.le_refl _, fun k _ hk => setCells_far _ _ k (fun e => hk (by rw [hv, e]; rfl)), fun k hk => .inl hk⟩ ?_
    refine ⟨by rw [List.length_set]; exact hl, .inr ⟨g, c, cur', hv, hb, c1, hnc, hcm, by rw [c2]; exact hcs, ?_⟩⟩
    rw [c3, Nat.mul_one]
    have hlc : cur.toList.length = c := by rw [Array.length_toList, hcs, Nat.mul_one]
    have : cur.toList.take j ++ [u] ++ cur.toList.drop (j + [u].length) = cur.toList.set j u := set_mid _ _ _ (by omega)
    rw [this, List.take_set, ← htk, Nat.mul_one]

/-- A store into a block of cells that are known. -/
theorem mem_store_obj {w0 w : World} (A : List Res) {B : List Res} {g : Nat} {cells : Array Value} {e : TypeId} (hm : Mem w0 w (A ++ obj g cells e :: B)) (hgd : o.guard = none) {t : TypeId} {p x : Operand} (ho : o.op = .store t p x) (hN : o.dst = none) {j : Nat} {u : Value}
    (hp : a.eval p = .pointer (some ⟨g, j, none⟩)) (hx : a.eval x = u) (hu : u.cells.toList = [u]) (ht : (P.info? t).map (·.size) = some 1) (hj : j < cells.size) (h1 : u.oneCell' = true)
    (h : ∀ w', Mem w0 w' (A ++ obj g (cells.setIfInBounds j u) e :: B) → wpList P ops Q rest a w') : wpList P ops Q (o :: rest) a w := by
  have hh : w.heap[g]? = some (.cells cells e (0, 0)) := hm.get (r := obj g cells e) (by simp)
  refine wpList_store_seg (cur := cells) (e := e) (g := g) (k := j) (seg := [u]) hgd ho hN hp hx hh hu ht (by simp; omega) (by simpa using h1) (h _ ?_)
  obtain ⟨s1, s2, s3, s4⟩ := setCells_same g [u] j w
  refine hm.turn ⟨s1, s2, s3, by rw [s4]; exact Nat.le_refl _, fun k _ hk => setCells_far _ _ k hk, fun k hk => .inl hk⟩ ?_
  exact block_set hh j u

/-- 'make([]T, n)'. -/
theorem mem_make {w0 w : World} {L : List Res} (hm : Mem w0 w L) (hgd : o.guard = none) (l c : Operand) (t : TypeId) (hop : o.op = Op.makeSlice t l c) (e : TypeId) (z : Value) (bytes : Nat) (h1 : P.underlying t = some (.slice e))
    (hinfo : (P.info? e).map (fun i => (i.zero, i.size, i.bytes)) = some (some z, 1, bytes)) (hz : z.cells = #[z]) (n : Nat) (kl kc : IntKind) (hl : a.eval l = .int kl (n : Int)) (hc : a.eval c = .int kc (n : Int)) (b2 : bytes * n ≤ 281474976710656) (b3 : n ≤ 9223372036854775807)
    (h : ∀ w' g, Mem w0 w' (L ++ [own (.slice (some ⟨g, 0, none⟩) n n) e 1 n (List.replicate n z)]) → wpList P ops Q rest (a.put o.dst (.slice (some ⟨g, 0, none⟩) n n)) w') :
    wpList P ops Q (o :: rest) a w := by
  obtain ⟨i, hi, hz0, hz1, hz2⟩ := info_parts hinfo
  refine wpList_make_full w hgd l c t hop w.heap.size e i z 1 h1 hi hz0 hz1 kl kc _ _ n hl hc rfl rfl (by rw [hz2]; exact b2) (by unfold maxLen; exact b3) (Nat.le_refl _) fun w' hown hg => ?_
  refine h w' _ (hm.add (Mem.of_owns (by rw [hz, Nat.mul_one, toList_madeCells_one] at hown; exact hown) ?_))
  exact ⟨hg.os, hg.tape, hg.output, hg.size, fun k hk => hg.block k hk (by simp)⟩

/-- append: an own slice, and cells that lie somewhere. -/
theorem mem_append {w0 w : World} (A : List Res) {B : List Res} {v : Value} {e size n : Nat} {xs : List Value} (hm : Mem w0 w (A ++ own v e size n xs :: B)) (hgd : o.guard = none) (s x : Operand) (t : TypeId)
    (ho : o.op = .call { callee := .builtin .append, args := #[s, x], argTypes := #[t, t] }) (z : Value) (bytes : Nat) (ht : P.underlying t = some (.slice e)) (hinfo : (P.info? e).map (fun i => (i.zero, i.size, i.bytes)) = some (some z, size, bytes)) (hz : z.cells.size = size) (hsz : 0 < size)
    (hs : a.eval s = v) (ad : Addr) (m c : Nat) (news : List Value) (hx : a.eval x = .slice (some ad) m c) (hl : news.length = m * size) (hnews : ∀ j u, news[j]? = some u → w.cell? (ad.add j) = some u) (h1 : ∀ u ∈ news, u.oneCell' = true)
    (h63 : n + m ≤ 9223372036854775807) (hbytes : (n + m) * bytes ≤ 140737488355328)
    (h : ∀ w' A' c', Mem w0 w' (A ++ own (.slice A' (n + m) c') e size (n + m) (xs ++ news) :: B) → wpList P ops Q rest (a.put o.dst (.slice A' (n + m) c')) w') : wpList P ops Q (o :: rest) a w := by
  obtain ⟨i, hi, hz0, hz1, hz2⟩ := info_parts hinfo
  have hown : w.ownsRow 0 e size v n xs := hm.get (r := own v e size n xs) (by simp)
  refine wpList_append_own_at w hgd s x t ho 0 e i z size bytes ht hi hz0 hz1 hz2 hz hsz v n xs hs hown ad m c news hx hl hnews h1 (by unfold maxLen; exact h63) hbytes (Nat.zero_le _) fun v' w' hown' hg _ hat => ?_
  obtain ⟨A', c', rfl⟩ := owns_slice hown'
  refine h w' A' c' (hm.turn ⟨hg.os, hg.tape, hg.output, hg.size, fun k hk hf => hg.block k hk (fun e => hf e.symm), fun k hk => ?_⟩ hown')
  rcases hat with hat | hat
  · refine .inl ?_
    show v.ownBlock = some k
    rw [← hat]
    exact hk
  · have : (Value.slice A' (n + m) c').ownBlock = some k := hk
    rw [hat] at this
    injection this with this
    subst this
    exact .inr ⟨Nat.le_refl _, (hown'.lt _ hat).2⟩

/-- append(v, x): the variadic's box has just been laid. -/
theorem mem_append1 {w0 w : World} (A : List Res) {B : List Res} {v : Value} {e n : Nat} {xs : List Value} {y : Value} {te : TypeId} (hm : Mem w0 w (A ++ own v e 1 n xs :: B)) (hgd : o.guard = none) (s x : Operand) (t : TypeId)
    (ho : o.op = .call { callee := .builtin .append, args := #[s, x], argTypes := #[t, t] }) (z : Value) (bytes : Nat) (ht : P.underlying t = some (.slice e)) (hinfo : (P.info? e).map (fun i => (i.zero, i.size, i.bytes)) = some (some z, 1, bytes)) (hz : z.cells.size = 1)
    (hs : a.eval s = v) (hx : a.eval x = .slice (some ⟨w.heap.size, 0, none⟩) 1 1) (h1 : y.oneCell' = true)
    (hbytes : (n + 1) * bytes ≤ 140737488355328) (hb0 : 0 < bytes)
    (h : ∀ w' A' c', Mem w0 w' (A ++ own (.slice A' (n + 1) c') e 1 (n + 1) (xs ++ [y]) :: B) → wpList P ops Q rest (a.put o.dst (.slice A' (n + 1) c')) w') : wpList P ops Q (o :: rest) a (w.alloc (.cells #[y] te)) := by
  refine mem_append A (hm.alloc _) hgd s x t ho z bytes ht hinfo hz (by omega) hs ⟨w.heap.size, 0, none⟩ 1 1 [y] hx rfl ?_ (by simpa using h1) ?_ hbytes h
  · intro j u hu
    rw [add_zero_, cell_new]
    simpa using hu
  · have := Nat.le_mul_of_pos_right (n + 1) hb0
    omega
end

theorem Mem.set_obj {w0 w : World} (A : List Res) {B : List Res} {g : Nat} {cells : Array Value} {e : TypeId} (hm : Mem w0 w (A ++ obj g cells e :: B)) (j : Nat) (u : Value) : Mem w0 (w.setCell ⟨g, j, none⟩ u) (A ++ obj g (cells.setIfInBounds j u) e :: B) := by
  have hh : w.heap[g]? = some (.cells cells e (0, 0)) := hm.get (r := obj g cells e) (by simp)
  obtain ⟨s1, s2, s3, s4⟩ := setCells_same g [u] j w
  refine hm.turn ⟨s1, s2, s3, by show _ ≤ (w.setCells g j [u]).heap.size; rw [s4]; exact Nat.le_refl _, fun k _ hk => setCells_far [u] j k hk, fun k hk => .inl hk⟩ ?_
  exact block_set hh j u
/-- '[]T{}'. -/
theorem mem_lit0 {w0 w : World} {L : List Res} (hm : Mem w0 w L) (e : TypeId) (size g : Nat) (hg : g = w.heap.size) : Mem w0 (w.alloc (.cells #[] e)) (L ++ [own (.slice (some ⟨g, 0, none⟩) 0 0) e size 0 []]) := by
  subst hg
  refine hm.add (Mem.of_owns ⟨by simp, .inr ⟨w.heap.size, 0, #[], rfl, Nat.le_refl _, ?_, Nat.le_refl _, Nat.zero_le _, by simp, by simp⟩⟩ ((Below.refl _ _).alloc (Nat.le_refl _) _))
  show (w.heap.push _)[w.heap.size]? = _
  simp
/-- What is read, as cells. -/
theorem Rd.news {w : World} {k : IntKind} {ad : Addr} {xs : List Int} (h : Rd w k (some ad) xs) : ∀ j u, (xs.map (Value.int k))[j]? = some u → w.cell? (ad.add j) = some u := by
  intro j u hu
  have hj : j < xs.length := by
    rcases Nat.lt_or_ge j xs.length with h1 | h1
    · exact h1
    · rw [List.getElem?_eq_none (by simpa using h1)] at hu; cases hu
  rw [h.cell hj]
  rw [List.getElem?_map, List.getElem?_eq_getElem hj] at hu
  simp only [Option.map_some, Option.some.injEq] at hu
  rw [← hu]
  simp [List.getD_eq_getElem?_getD, hj]
theorem ints_one (k : IntKind) (xs : List Int) : ∀ u ∈ xs.map (Value.int k), u.oneCell' = true := by
  intro u hu
  obtain ⟨x, _, rfl⟩ := List.mem_map.1 hu
  rfl

theorem map_set_int (k : IntKind) (xs : List Int) (j : Nat) (v : Int) : (xs.map (Value.int k)).set j (Value.int k v) = (xs.set j v).map (Value.int k) := by rw [List.map_set]
theorem int_cell {k : IntKind} {xs : List Int} {j : Nat} (h : j < xs.length) : (xs.map (Value.int k))[j]? = some (.int k (gd xs j)) := by
  rw [List.getElem?_map, List.getElem?_eq_getElem h, gd_eq h]; rfl


/-- Bytes read, as a string. -/
theorem conv_rd {P : Program} {w : World} {A : Option Addr} {xs : List Int} (h : Rd w .u8 A xs) (src dst e : TypeId) (c : Nat) (hs : P.underlying src = some (.slice e)) (he : P.underlying e = some (.int .u8)) (hd : P.underlying dst = some .string) :
    (convert src dst (.slice A xs.length c)).run P w = .ok (.string (strOfNums xs)) w := by
  cases A with
  | none =>
    have h0 : xs = [] := by
      cases xs with
      | nil => rfl
      | cons x xs => obtain ⟨ad, h, _⟩ := h.at_ 0 (by simp); cases h
    subst h0
    exact run_convert_bytes_nil w src e hs he _ _ dst hd
  | some a =>
    have hl : (loadCells a xs.length).run P w = .ok (xs.map (Value.int .u8)).toArray w := by
      have := run_loadCells_list (P := P) w a (xs.map (Value.int .u8)) h.news
      simpa using this
    rw [run_convert_bytes_string w src dst e _ xs.length c hs he hd, run_bytesToString w _ xs.length c xs hl, foldl_push_bytes]
    simp [strOfNums, ByteArray.empty, ByteArray.emptyWithCapacity]
    rfl

/-- Which piece of a row. -/
theorem m0 {r : Res} {l : List Res} : r ∈ r :: l := List.mem_cons_self ..
theorem m1 {a r : Res} {l : List Res} : r ∈ a :: r :: l := List.mem_cons_of_mem _ m0
theorem m2 {a b r : Res} {l : List Res} : r ∈ a :: b :: r :: l := List.mem_cons_of_mem _ m1
theorem m3 {a b c r : Res} {l : List Res} : r ∈ a :: b :: c :: r :: l := List.mem_cons_of_mem _ m2
theorem m4 {a b c d r : Res} {l : List Res} : r ∈ a :: b :: c :: d :: r :: l := List.mem_cons_of_mem _ m3

/-- A cell of what is owned. -/
theorem own_cell {w : World} {v : Value} {e n g c : Nat} {xs : List Value} (h : (own v e 1 n xs).P w) (hv : v = .slice (some ⟨g, 0, none⟩) n c) {j : Nat} {u : Value} (hj : xs[j]? = some u) : w.cell? ⟨g, j, none⟩ = some u := by
  have h' : w.ownsRow 0 e 1 v n xs := h
  have := h'.cells (g := g) (by rw [hv]; rfl) j u hj
  rwa [add_zero_] at this
theorem Mem.own_cell {w0 w : World} {L : List Res} (hm : Mem w0 w L) {v : Value} {e n g c : Nat} {xs : List Value} (hr : own v e 1 n xs ∈ L) (hv : v = .slice (some ⟨g, 0, none⟩) n c) {j : Nat} {u : Value} (hj : xs[j]? = some u) : w.cell? ⟨g, j, none⟩ = some u :=
  Whorl.own_cell (hm.get hr) hv hj
/-- The shape of what is owned, where there is an element. -/
theorem own_form {w : World} {A : Option Addr} {c e size n : Nat} {xs : List Value} (h : (own (.slice A n c) e size n xs).P w) (hn : 0 < n) : ∃ g, A = some ⟨g, 0, none⟩ := by
  have h' : w.ownsRow 0 e size (.slice A n c) n xs := h
  rcases h'.2 with ⟨hv, h0⟩ | ⟨g, cap, cur, hv, _⟩
  · omega
  · injection hv with hv; exact ⟨g, hv⟩
theorem Mem.form {w0 w : World} {L : List Res} (hm : Mem w0 w L) {A : Option Addr} {c e size n : Nat} {xs : List Value} (hr : own (.slice A n c) e size n xs ∈ L) (hn : 0 < n) : ∃ g, A = some ⟨g, 0, none⟩ := own_form (hm.get hr) hn
theorem Mem.obj_cell {w0 w : World} {L : List Res} (hm : Mem w0 w L) {g : Nat} {cells : Array Value} {e : TypeId} (hr : obj g cells e ∈ L) (i : Nat) : w.cell? ⟨g, i, none⟩ = cells[i]? := cell_block (hm.get hr) i
theorem Mem.obj_frozen {w0 w : World} {L : List Res} (hm : Mem w0 w L) {g : Nat} {cells : Array Value} {e : TypeId} (hr : obj g cells e ∈ L) (i : Nat) : w.frozen? ⟨g, i, none⟩ = false := frozen_block (hm.get hr) i
theorem Mem.own_rd {w0 w : World} {L : List Res} (hm : Mem w0 w L) {v : Value} {e n : Nat} {k : IntKind} {xs : List Int} (hr : own v e 1 n (xs.map (.int k)) ∈ L) : ∃ A c, v = .slice A n c ∧ n = xs.length ∧ n ≤ c ∧ Rd w k A xs := Whorl.own_rd (hm.get hr)
theorem Mem.own_rd' {w0 w : World} {L : List Res} (hm : Mem w0 w L) {A : Option Addr} {c e n : Nat} {k : IntKind} {xs : List Int} (hr : own (.slice A n c) e 1 n (xs.map (.int k)) ∈ L) : n = xs.length ∧ n ≤ c ∧ Rd w k A xs := by
  obtain ⟨A', c', hv, h1, h2, h3⟩ := hm.own_rd hr
  injection hv with ha _ hc
  subst ha; subst hc
  exact ⟨h1, h2, h3⟩


/-! A region that draws: one operation. -/
section
variable {P : Program} {ops : Array Oper} {w : World} {Q : Act → Prop} {a : Act} {o : Oper} {rest : List Oper}
/-- The walk through a region, behind a name that nothing looks into. -/
structure WS (P : Program) (ops : Array Oper) (w : World) (Q : Act → Prop) (l : List Oper) (a : Act) : Prop where mk :: (out : wpStill P ops w Q l a)
theorem ws_nil (h : Q a) : WS P ops w Q [] a := ⟨h⟩
theorem ws_none (hg : o.guard = none) (h : ∀ K : Act → Prop, (∀ a, WS P ops w Q rest a → K a) → o.still P a w K) : WS P ops w Q (o :: rest) a := by
  constructor
  unfold wpStill
  rw [if_pos (by unfold Region.wanted; rw [hg])]
  exact h _ (fun _ h => h.out)
theorem ws_skip (hw : Region.wanted o (yielded ops a.tmps) = false) (h : WS P ops w Q rest (a.put o.dst undef)) : WS P ops w Q (o :: rest) a := by
  constructor
  unfold wpStill
  rw [hw]
  exact h.out
theorem ws_want (hw : Region.wanted o (yielded ops a.tmps) = true) (h : WS P ops w Q ({ o with guard := none } :: rest) a) : WS P ops w Q (o :: rest) a := by
  constructor
  have h1 := h.out
  unfold wpStill at h1 ⊢
  rw [hw, if_pos rfl]
  exact h1
end

end Go.Proofs.Whorl
