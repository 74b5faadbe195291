/- A desk: what its small methods answer. -/
import Derived.Test.YtbfedonfabjkbaaGreatM1
import Derived.Deep.RegionHeld3
import Derived.Deep.RegionWith
import Derived.Test.YtbfedonfabjkbaaGreatShelf
import Derived.Test.YtbfedonfabjkbaaGreatQSais2
set_option linter.unusedVariables false
namespace Go.Proofs.Whorl
open Go.RowKit

/-- bytes.Clone, nil too. -/
theorem clone_any (A : Option Addr) (c : Nat) (xs : List Int) (w : World) (hr : Rd w .u8 A xs) (hn : xs.length ≤ 140737488355328) :
    Calls Tryz.prog 57 #[.slice A xs.length c] w fun e w' => ∃ A' c', e = .returned (.slice A' xs.length c') ∧ Mem w w' [own (.slice A' xs.length c') 5 1 xs.length (xs.map (.int .u8))] := by
  cases A with
  | none =>
    have h0 : xs = [] := by
      cases xs with
      | nil => rfl
      | cons x xs => obtain ⟨ad, h, _⟩ := hr.at_ 0 (by simp); cases h
    subst h0
    refine (Tryz.bytes_Clone_nil _ _ _).mono ?_
    rintro e w' ⟨rfl, rfl⟩
    exact ⟨none, 0, rfl, Mem.of_owns (World.ownsRow_nil _ _ _ _) (Below.refl _ _)⟩
  | some a =>
    refine (Tryz.bytes_Clone_at a xs.length c xs w rfl hn fun i hi => ?_).mono ?_
    · obtain ⟨ad, h, hc⟩ := hr.at_ i hi
      cases h
      exact hc
    · rintro e w' ⟨v, rfl, h1, _, h2⟩
      obtain ⟨A', c', rfl⟩ := owns_slice h1
      exact ⟨A', c', rfl, Mem.of_owns h1 h2⟩

set_option maxRecDepth 100000 in
set_option maxHeartbeats 400000 in
theorem new_any (w : World) : Calls Tryz.prog 29 #[] w fun e w' => e = .returned (.pointer (some ⟨w.heap.size, 0, none⟩)) ∧ w.alloc (.cells #[.slice none 0 0, .slice none 0 0] 102) = w' := by
  go_enter Tryz.func29, Tryz.ntmps29
  go_wp2
  go_ret
  exact ⟨rfl, rfl⟩

set_option maxRecDepth 100000 in
set_option maxHeartbeats 400000 in
theorem depth_nil (w : World) : Calls Tryz.prog 33 #[.pointer none] w fun e w' => e = .returned (.int .i64 0) ∧ w = w' := by
  go_enter Tryz.func33, Tryz.ntmps33
  go_wp2
  go_ret
  exact ⟨rfl, rfl⟩

set_option maxRecDepth 100000 in
set_option maxHeartbeats 400000 in
theorem depth_any (d : Nat) (A : Option Addr) (n c : Nat) (w : World) (hp : w.cell? ⟨d, 1, none⟩ = some (.slice A n c)) : Calls Tryz.prog 33 #[.pointer (some ⟨d, 0, none⟩)] w fun e w' => e = .returned (.int .i64 n) ∧ w = w' := by
  go_enter Tryz.func33, Tryz.ntmps33
  go_wp2
  go_ret
  exact ⟨rfl, rfl⟩

set_option maxRecDepth 100000 in
set_option maxHeartbeats 400000 in
theorem text_nil (w : World) : Calls Tryz.prog 32 #[.pointer none] w fun e w' => e = .returned (.slice none 0 0) ∧ w = w' := by
  go_enter Tryz.func32, Tryz.ntmps32
  go_wp2
  go_ret
  exact ⟨rfl, rfl⟩

set_option maxRecDepth 100000 in
set_option maxHeartbeats 400000 in
theorem text_any (d : Nat) (A : Option Addr) (c : Nat) (xs : List Int) (w : World) (hp : w.cell? ⟨d, 0, none⟩ = some (.slice A xs.length c)) (hr : Rd w .u8 A xs) (hn : xs.length ≤ 140737488355328) :
    Calls Tryz.prog 32 #[.pointer (some ⟨d, 0, none⟩)] w fun e w' => ∃ A' c', e = .returned (.slice A' xs.length c') ∧ Mem w w' [own (.slice A' xs.length c') 5 1 xs.length (xs.map (.int .u8))] := by
  have HR := Hd.mk hr
  have HN := Hd.mk hn
  clear hr hn
  go_enter Tryz.func32, Tryz.ntmps32
  go_wp2_with (go_at_call 57; refine (clone_any _ _ xs _ HR.out HN.out).mono ?_; rintro e w' ⟨A', c', rfl, hm⟩; have HM := Hd.mk hm; clear hm)
  go_ret
  exact ⟨_, _, rfl, HM.out⟩


set_option maxRecDepth 100000 in
set_option maxHeartbeats 400000 in
/-- A nil desk does nothing. -/
theorem do_nil (K N t s o z : Int) (A : Option Addr) (c n : Nat) (w : World) : Calls Tryz.prog 30 #[.pointer none, .agg #[.int .i64 K, .slice A n c, .int .i64 N, .int .i64 t, .int .i64 s, .int .i64 o, .int .i64 z]] w fun e w' => e = .returned (.int .i64 1) ∧ Mem w w' [] := by
  go_enter Tryz.func30, Tryz.ntmps30
  go_wp2_with fail
  go_ret
  exact ⟨rfl, (Mem.nil w).alloc _⟩

set_option maxRecDepth 100000 in
set_option maxHeartbeats 400000 in
theorem do_set (d : Nat) (A : Option Addr) (c : Nat) (xs : List Int) (N t s o z : Int) (tv pv : Value) (w : World) (h0 : w.cell? ⟨d, 0, none⟩ = some tv) (f0 : w.frozen? ⟨d, 0, none⟩ = false) (h1 : w.cell? ⟨d, 1, none⟩ = some pv) (f1 : w.frozen? ⟨d, 1, none⟩ = false)
    (hr : Rd w .u8 A xs) (hn : xs.length ≤ 100000) :
    Calls Tryz.prog 30 #[.pointer (some ⟨d, 0, none⟩), .agg #[.int .i64 1, .slice A xs.length c, .int .i64 N, .int .i64 t, .int .i64 s, .int .i64 o, .int .i64 z]] w fun e w' => e = .returned (.int .i64 0) ∧
      ∃ w1 A' c', Mem w w1 [own (.slice A' xs.length c') 5 1 xs.length (xs.map (.int .u8))] ∧ w' = (w1.setCell ⟨d, 0, none⟩ (.slice A' xs.length c')).setCell ⟨d, 1, none⟩ (.slice none 0 0) := by
  have HR := Hd.mk hr
  clear hr
  go_enter Tryz.func30, Tryz.ntmps30
  go_wp2_with (go_at_call 57; refine (clone_any _ _ xs _ (HR.out.below ((Below.refl _ _).alloc (Nat.le_refl _) _)) (by omega)).mono ?_; rintro e w1 ⟨A', c', rfl, hm⟩; have hm1 := ((Mem.nil w).alloc _).add hm; have g0 := hm1.cell_ h0; have g1 := hm1.cell_ h1; have k0 := hm1.frozen_ h0 f0; have k1 := hm1.frozen_ h1 f1; have HM := Hd.mk hm1; clear hm hm1)
  go_ret
  exact ⟨rfl, w1, A', c', HM.out, rfl⟩

set_option maxRecDepth 100000 in
set_option maxHeartbeats 400000 in
/-- Nothing to undo. -/
theorem undo_empty (d : Nat) (A K : Option Addr) (c n m : Nat) (w : World) (h1 : w.cell? ⟨d, 1, none⟩ = some (.slice A 0 c)) :
    Calls Tryz.prog 62 #[.pointer (some ⟨d, 0, none⟩), .slice K n m] w fun e w' => e = .returned (.int .i64 6) ∧ w = w' := by
  go_enter Tryz.func62, Tryz.ntmps62
  go_wp2
  go_ret
  exact ⟨rfl, rfl⟩

set_option maxRecDepth 100000 in
set_option maxHeartbeats 400000 in
theorem do_back_empty (d : Nat) (A B : Option Addr) (c n m : Nat) (N t s o z : Int) (w : World) (h1 : w.cell? ⟨d, 1, none⟩ = some (.slice B 0 m)) :
    Calls Tryz.prog 30 #[.pointer (some ⟨d, 0, none⟩), .agg #[.int .i64 3, .slice A n c, .int .i64 N, .int .i64 t, .int .i64 s, .int .i64 o, .int .i64 z]] w fun e w' => e = .returned (.int .i64 6) ∧ Mem w w' [] := by
  have hlt := cell_lt h1
  go_enter Tryz.func30, Tryz.ntmps30
  go_wp2_with (go_at_call 62; refine (undo_empty _ _ _ _ _ _ _ ((((Mem.nil w).alloc _).alloc _).cell_ h1)).mono ?_; rintro e w1 ⟨rfl, rfl⟩)
  go_ret
  exact ⟨rfl, ((Mem.nil w).alloc _).alloc _⟩

set_option maxRecDepth 100000 in
set_option maxHeartbeats 400000 in
theorem known31_any (w : World) : Calls Tryz.prog 35 #[] w fun e w' => e = .returned (.bool true) ∧ Mem w w' [] := by
  have c0 : (w.alloc (.cells #[.slice none 0 0, .slice none 0 0] 102)).cell? ⟨w.heap.size, 0, none⟩ = some (.slice none 0 0) := by rw [cell_new]; rfl
  have c1 : (w.alloc (.cells #[.slice none 0 0, .slice none 0 0] 102)).cell? ⟨w.heap.size, 1, none⟩ = some (.slice none 0 0) := by rw [cell_new]; rfl
  have C0 := Hd.mk c0
  have C1 := Hd.mk c1
  clear c0 c1
  go_enter Tryz.func35, Tryz.ntmps35
  go_wp2_with (first
    | (go_at_call 29; refine (new_any _).mono ?_; rintro e w1 ⟨rfl, rfl⟩)
    | (go_at_call 30; refine (do_back_empty _ _ none _ _ 0 _ _ _ _ _ _ C1.out).mono ?_; rintro e w2 ⟨rfl, hm⟩; have HM := Hd.mk (((Mem.nil w).alloc _).add hm); have D0 := Hd.mk (hm.cell_ C0.out); have D1 := Hd.mk (hm.cell_ C1.out); clear hm)
    | (go_at_call 33; refine (depth_any _ none 0 _ _ D1.out).mono ?_; rintro e w3 ⟨rfl, rfl⟩)
    | (go_at_call 32; refine (text_any _ none _ [] _ D0.out (Rd.nil _ _ _) (by simp)).mono ?_; rintro e w4 ⟨A', c', rfl, hm⟩; have HM' := Hd.mk (HM.out.add hm); clear hm))
  go_ret
  exact ⟨rfl, HM'.out.sub (List.nil_sublist _)⟩

theorem info5 : (Tryz.prog.info? 5).map (fun i => (i.zero, i.size, i.bytes)) = some (some (.int .u8 0), 1, 1) := by kernel_rfl
theorem size5 : (Tryz.prog.info? 5).map (·.size) = some 1 := by kernel_rfl

/-- OpSet, told of the desk's block. -/
theorem do_set_mem {w0 w : World} (X : List Res) {Y : List Res} (d : Nat) (A : Option Addr) (c : Nat) (xs : List Int) (N t s o z : Int) (tv pv : Value) (hm : Mem w0 w (X ++ obj d #[tv, pv] 102 :: Y)) (hr : Rd w .u8 A xs) (hn : xs.length ≤ 100000) :
    Calls Tryz.prog 30 #[.pointer (some ⟨d, 0, none⟩), .agg #[.int .i64 1, .slice A xs.length c, .int .i64 N, .int .i64 t, .int .i64 s, .int .i64 o, .int .i64 z]] w fun e w' => e = .returned (.int .i64 0) ∧
      ∃ A' c', Mem w0 w' (X ++ obj d #[.slice A' xs.length c', .slice none 0 0] 102 :: Y ++ [own (.slice A' xs.length c') 5 1 xs.length (xs.map (.int .u8))]) := by
  have h0 := hm.obj_cell (g := d) (cells := #[tv, pv]) (e := 102) (by simp) 0
  have h1 := hm.obj_cell (g := d) (cells := #[tv, pv]) (e := 102) (by simp) 1
  have f0 := hm.obj_frozen (g := d) (cells := #[tv, pv]) (e := 102) (by simp) 0
  have f1 := hm.obj_frozen (g := d) (cells := #[tv, pv]) (e := 102) (by simp) 1
  refine (do_set d A c xs N t s o z tv pv w h0 f0 h1 f1 hr hn).mono ?_
  rintro e w' ⟨rfl, w1, A', c', hm1, rfl⟩
  refine ⟨rfl, A', c', ?_⟩
  have h2 := hm.add hm1
  rw [List.append_assoc] at h2 ⊢
  exact (h2.set_obj X 0 (.slice A' xs.length c')).set_obj X 1 (.slice none 0 0)

theorem own_keep {w wa wb : World} {L : List Res} {d : Nat} {A : Option Addr} {c : Nat} {ad : Addr} {k : Nat} {xs : List Int}
    (h : wa.cell? ⟨d, 0, none⟩ = some (.slice A xs.length c) ∧ Hd (Rd wa .u8 A xs) ∧ Hd (Rd wa .u8 (some ad) xs) ∧ Hd (Mem w wa []) ∧ (convert 22 9 (.slice (some ad) xs.length k)).run Tryz.prog wa = .ok (.string (strOfNums xs)) wa) (m : Mem wa wb L) :
    wb.cell? ⟨d, 0, none⟩ = some (.slice A xs.length c) ∧ Hd (Rd wb .u8 A xs) ∧ Hd (Rd wb .u8 (some ad) xs) ∧ Hd (Mem w wb []) ∧ (convert 22 9 (.slice (some ad) xs.length k)).run Tryz.prog wb = .ok (.string (strOfNums xs)) wb :=
  ⟨m.cell_ h.1, ⟨m.rd h.2.1.out⟩, ⟨m.rd h.2.2.1.out⟩, ⟨(h.2.2.2.1.out.add m).sub (List.nil_sublist _)⟩, conv_rd (m.rd h.2.2.1.out) 22 9 5 k Tryz.underlying22 Tryz.underlying5 Tryz.underlying9⟩

theorem text_own {w wa : World} {d : Nat} {A : Option Addr} {c : Nat} {ad : Addr} {k : Nat} {xs : List Int}
    (h : wa.cell? ⟨d, 0, none⟩ = some (.slice A xs.length c) ∧ Hd (Rd wa .u8 A xs) ∧ Hd (Rd wa .u8 (some ad) xs) ∧ Hd (Mem w wa []) ∧ (convert 22 9 (.slice (some ad) xs.length k)).run Tryz.prog wa = .ok (.string (strOfNums xs)) wa) (hn : xs.length ≤ 100) :
    Calls Tryz.prog 32 #[.pointer (some ⟨d, 0, none⟩)] wa fun e wb => ∃ A' c', e = .returned (.slice A' xs.length c') ∧
      (wb.cell? ⟨d, 0, none⟩ = some (.slice A xs.length c) ∧ Hd (Rd wb .u8 A xs) ∧ Hd (Rd wb .u8 (some ad) xs) ∧ Hd (Mem w wb []) ∧ (convert 22 9 (.slice (some ad) xs.length k)).run Tryz.prog wb = .ok (.string (strOfNums xs)) wb) ∧
      (convert 22 9 (.slice A' xs.length c')).run Tryz.prog wb = .ok (.string (strOfNums xs)) wb := by
  refine (text_any d A c xs wa h.1 h.2.1.out (by omega)).mono ?_
  rintro e wb ⟨A', c', rfl, hm⟩
  exact ⟨A', c', rfl, own_keep h hm, conv_rd (hm.own_rd' (k := .u8) m0).2.2 22 9 5 c' Tryz.underlying22 Tryz.underlying5 Tryz.underlying9⟩

set_option maxRecDepth 100000 in
set_option maxHeartbeats 1000000 in
theorem playOwn_any (A : Option Addr) (c : Nat) (xs : List Int) (w : World) (hr : Rd w .u8 A xs) (h1 : 1 ≤ xs.length) (h2 : xs.length ≤ 100) :
    Calls Tryz.prog 13 #[.slice A xs.length c] w fun e w' => e = .returned (.bool true) ∧ Mem w w' [] := by
  obtain ⟨ad, rfl⟩ := hr.some_ (by omega)
  have HR := Hd.mk hr
  clear hr
  go_enter Tryz.func13, Tryz.ntmps13
  go_wp2_with (first
    | (go_at_call 29; refine (new_any _).mono ?_; rintro e w1 ⟨rfl, rfl⟩; have HM0 := Hd.mk (Mem.of_block (w := w) #[.slice none 0 0, .slice none 0 0] 102))
    | ((with_reducible refine gate_dst (d := 18) rfl ?_); at_builtin; refine mem_append [_] (mem_lit0 HM0.out 5 1 (w.heap.size + 1) (by simp)) rfl _ _ 22 rfl (.int .u8 0) 1 Tryz.underlying22 info5 rfl (by omega) rfl ad xs.length c (xs.map (.int .u8)) rfl (by simp) (((HM0.out.alloc _).rd HR.out).news) (ints_one _ _) (by omega) (by omega) ?_; intro w2 A2 c2 hm; rw [Nat.zero_add] at hm; have HM2 : Hd (Mem w w2 [obj w.heap.size #[.slice none 0 0, .slice none 0 0] 102, own (.slice A2 xs.length c2) 5 1 xs.length (xs.map (.int .u8))]) := Hd.mk hm; clear hm)
    | (go_at_call 30; refine (do_set_mem [] _ _ _ xs _ _ _ _ _ _ _ HM2.out (HM2.out.own_rd' (k := .u8) m1).2.2 (by omega)).mono ?_; rintro e w3 ⟨rfl, A3, c3, hm⟩; have HM3 : Hd (Mem w w3 [obj w.heap.size #[.slice A3 xs.length c3, .slice none 0 0] 102, own (.slice A2 xs.length c2) 5 1 xs.length (xs.map (.int .u8)), own (.slice A3 xs.length c3) 5 1 xs.length (xs.map (.int .u8))]) := Hd.mk hm; clear hm; obtain ⟨g2, rfl⟩ := HM3.out.form m1 (by omega); have i0 := HM3.out.own_cell (j := 0) m1 rfl (int_cell (by omega)); obtain ⟨x0, hx0⟩ : ∃ x, x = gd xs 0 := ⟨_, rfl⟩; rw [← hx0] at i0; have HX0 := Hd.mk hx0; clear hx0)
    | ((with_reducible refine gate_store (t := 5) (p := 32) rfl ?_); refine mem_store (u := .int .u8 (bits .xor .u8 x0 255)) (j := 0) [_] HM3.out rfl rfl rfl rfl rfl (by go_simp) rfl size5 (by omega) rfl ?_; intro w5 hm; rw [map_set_int] at hm; have HM5 : Hd (Mem w w5 [obj w.heap.size #[.slice A3 xs.length c3, .slice none 0 0] 102, own (.slice (some ⟨g2, 0, none⟩) xs.length c2) 5 1 xs.length ((xs.set 0 (bits .xor .u8 x0 255)).map (.int .u8)), own (.slice A3 xs.length c3) 5 1 xs.length (xs.map (.int .u8))]) := Hd.mk hm; clear hm; have HT5 := Hd.mk (HM5.out.obj_cell m0 0); have HR5 := Hd.mk (HM5.out.own_rd' (k := .u8) m2).2.2)
    | (go_at_call 32; refine (text_any _ _ _ xs _ HT5.out HR5.out (by omega)).mono ?_; rintro e w6 ⟨A6, c6, rfl, hm⟩; have HM6 : Hd (Mem w w6 [obj w.heap.size #[.slice A3 xs.length c3, .slice none 0 0] 102, own (.slice (some ⟨g2, 0, none⟩) xs.length c2) 5 1 xs.length ((xs.set 0 (bits .xor .u8 x0 255)).map (.int .u8)), own (.slice A3 xs.length c3) 5 1 xs.length (xs.map (.int .u8)), own (.slice A6 xs.length c6) 5 1 xs.length (xs.map (.int .u8))]) := Hd.mk (HM5.out.add hm); clear hm; obtain ⟨g6, rfl⟩ := HM6.out.form m3 (by omega); have k6 := conv_rd (P := Tryz.prog) (HM6.out.own_rd' (k := .u8) m3).2.2 22 9 5 c6 Tryz.underlying22 Tryz.underlying5 Tryz.underlying9; have k0 := conv_rd (P := Tryz.prog) (HM6.out.rd HR.out) 22 9 5 c Tryz.underlying22 Tryz.underlying5 Tryz.underlying9; have i6 := HM6.out.own_cell (j := 0) m3 rfl (int_cell (by omega)); rw [← HX0.out] at i6)
    | ((with_reducible refine gate_store (t := 5) (p := 44) rfl ?_); refine mem_store (u := .int .u8 (bits .xor .u8 x0 255)) (j := 0) [_, _, _] HM6.out rfl rfl rfl rfl rfl (by go_simp) rfl size5 (by omega) rfl ?_; intro w7 hm; have HM7 := Hd.mk hm; clear hm))
  have q : w7.cell? ⟨w.heap.size, 0, none⟩ = some (.slice A3 xs.length c3) ∧ Hd (Rd w7 .u8 A3 xs) ∧ Hd (Rd w7 .u8 (some ad) xs) ∧ Hd (Mem w w7 []) ∧ (convert 22 9 (.slice (some ad) xs.length c)).run Tryz.prog w7 = .ok (.string (strOfNums xs)) w7 :=
    ⟨HM7.out.obj_cell m0 0, ⟨(HM7.out.own_rd' (k := .u8) m2).2.2⟩, ⟨HM7.out.rd HR.out⟩, ⟨HM7.out.sub (List.nil_sublist _)⟩, conv_rd (HM7.out.rd HR.out) 22 9 5 c Tryz.underlying22 Tryz.underlying5 Tryz.underlying9⟩
  clear HM7 HM6 HM5 HM3 HM2 HM0 HT5 HR5 k6 k0 i6 i0 HX0
  have q7 := own_keep q (Mem.nil _).drew
  have k7 := q7.2.2.2.2
  have Q7 := Hd.mk q7
  clear q q7
  go_region_with (first
    | (go_at_call 32; refine (text_own Q7.out (by omega)).mono ?_; rintro e wn ⟨An, cn, rfl, q1, kn⟩; have k1 := q1.2.2.2.2; have Q1 := Hd.mk q1; clear q1 Q7)
    | (go_at_call 30; refine (do_nil _ _ _ _ _ _ none 0 0 _).mono ?_; rintro e wm ⟨rfl, hm⟩; (have Q2 := Hd.mk (own_keep Q1.out hm)); clear hm)
    | (go_at_call 32; refine (text_nil _).mono ?_; rintro e wn ⟨rfl, rfl⟩)
    | (go_at_call 33; refine (depth_nil _).mono ?_; rintro e wn ⟨rfl, rfl⟩)
    | (go_at_call 35; refine (known31_any _).mono ?_; rintro e wl ⟨rfl, hm⟩; (have Q3 := Hd.mk (own_keep Q2.out hm)); clear hm))
  all_goals
    go_wp2
    go_ret
    exact ⟨rfl, Q3.out.2.2.2.1.out⟩

set_option maxRecDepth 100000 in
set_option maxHeartbeats 400000 in
theorem playOwn_out (A : Option Addr) (n c : Nat) (w : World) (hn : n ≤ 9223372036854775807) (h : ¬ (1 ≤ n ∧ n ≤ 100)) :
    Calls Tryz.prog 13 #[.slice A n c] w fun e w' => e = .returned (.bool true) ∧ Below w.heap.size w w' := by
  by_cases h0 : n < 1
  · obtain rfl : n = 0 := by omega
    go_enter Tryz.func13, Tryz.ntmps13
    go_wp2_with fail
    go_ret
    exact ⟨rfl, Below.refl _ _⟩
  · have h1 : 100 < n := by omega
    clear h
    go_enter Tryz.func13, Tryz.ntmps13
    go_wp2_with fail
    go_ret
    exact ⟨rfl, Below.refl _ _⟩
end Go.Proofs.Whorl
