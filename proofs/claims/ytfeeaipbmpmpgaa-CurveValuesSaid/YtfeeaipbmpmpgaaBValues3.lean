import Derived.Test.YtfeeaipbmpmpgaaBValues1
import Derived.Test.YtfeeaipbmpmpgaaBValues2
namespace Go.Proofs.Ytfeeaipbmpmpgaa.PX
open Go.RowKit Go.Proofs.YtfeeaipbmpmpgaaW.PrintWords Go.Proofs.YtfeeaipbmpmpgaaW.PrintLast Go.Proofs.YtfeeaipbmpmpgaaW.PrintMore
attribute [local go_sem] max2_int min2_int max_two min_two max_three min_three max_four min_four   -- for this text's walks alone
set_option linter.unusedVariables false
set_option linter.unusedSimpArgs false
/-! ### kimberliteref03_In: function 85 -/
def kimberliteref03_In.l0 : Nat → Int → Int → List Int → Int → Int → List Int → Option (Int × Int × List Int × Bool)
 | 0, _, _, _, _, _, _ => none
 | k + 1, x5, x536000, x536001, x539000, x539001, x539002 => if x5 < (x536001.length : Int) then (if 0 ≤ x5 then (if 0 ≤ (wrap64 (x5 - 1)) then (if (wrap64 (x5 - 1)) < (x536001.length : Int) then (if x539002.length < 17592186044416 then (kimberliteref03_In.l0 k (wrap64 (x5 + 1)) x536000 x536001 x539000 x539001 (x539002 ++ [wrap64 ((rd x536001 x5) - (rd x536001 (wrap64 (x5 - 1))))])) else (none)) else (none)) else (none)) else (none)) else ((kimberliteref03_Valid.f k x539000 x539001 x539002).bind fun t544 => (some (x539000, x539001, x539002, t544)))
def kimberliteref03_In.f (k : Nat) (a0_0 : Int) (l0_1 : List Int) : Option (Int × Int × List Int × Bool) := if 0 < (l0_1.length : Int) then (kimberliteref03_In.l0 k 1 a0_0 l0_1 a0_0 (rd l0_1 0) ([] : List Int)) else (none)
theorem kimberliteref03_In.mono_l : ∀ k, (∀ y0 y1 y2 y3 y4 y5, LeO (kimberliteref03_In.l0 k y0 y1 y2 y3 y4 y5) (kimberliteref03_In.l0 (k + 1) y0 y1 y2 y3 y4 y5))
 | 0 => fun _ _ _ _ _ _ r h => by simp [kimberliteref03_In.l0] at h
 | k + 1 => by
  have ih0 := kimberliteref03_In.mono_l k
  ·
   intro y0 y1 y2 y3 y4 y5
   unfold kimberliteref03_In.l0
   repeat' first
   | (with_reducible exact ih0 _ _ _ _ _ _)
   | (with_reducible exact kimberliteref03_Valid.mono _ _ _ _)
   | (with_reducible exact LeO.refl _)
   | (with_reducible exact LeO.none _)
   | (with_reducible refine LeO.ite ?_ ?_)
   | (with_reducible refine LeO.bind ?_ (fun _ => ?_))
   | exact ih0 _ _ _ _ _ _
   | exact kimberliteref03_Valid.mono _ _ _ _
   | exact LeO.none _
   | refine LeO.ite ?_ ?_
   | refine LeO.bind ?_ (fun _ => ?_)
theorem kimberliteref03_In.mono : ∀ a0 a1 k, LeO (kimberliteref03_In.f k a0 a1) (kimberliteref03_In.f (k + 1) a0 a1) := by
 intro a0 a1 k
 have ih0 := kimberliteref03_In.mono_l k
 unfold kimberliteref03_In.f
 repeat' first
   | (with_reducible exact ih0 _ _ _ _ _ _)
   | (with_reducible exact kimberliteref03_Valid.mono _ _ _ _)
   | (with_reducible exact LeO.refl _)
   | (with_reducible exact LeO.none _)
   | (with_reducible refine LeO.ite ?_ ?_)
   | (with_reducible refine LeO.bind ?_ (fun _ => ?_))
   | exact ih0 _ _ _ _ _ _
   | exact kimberliteref03_Valid.mono _ _ _ _
   | exact LeO.none _
   | refine LeO.ite ?_ ?_
   | refine LeO.bind ?_ (fun _ => ?_)
def kimberliteref03_In.T1 : Bool × List (List Nat × List Nat) := (true, [([], []), ([0], [0]), ([], []), ([2], [2]), ([3], [3]), ([4], [4]), ([1, 5], [1, 5]), ([], []), ([7, 6, 0, 1, 2, 3, 4, 5, 6, 7], [6, 7])])
def kimberliteref03_In.B1 : List Nat := [0, 1, 0, 4, 12, 28, 63, 0, 255]
theorem kimberliteref03_In.tab1 : rtab .any (opsOf Try.f85 1) = kimberliteref03_In.T1 := by kernel_rfl
theorem kimberliteref03_In.bits1 : waitsOk kimberliteref03_In.T1.2 kimberliteref03_In.B1 = true := by kernel_rfl
def kimberliteref03_In.T5 : Bool × List (List Nat × List Nat) := (true, [([], []), ([0], [0]), ([], []), ([2], [2]), ([], []), ([3, 4], [3, 4]), ([5], [5]), ([], []), ([7], [7]), ([], []), ([9], [9]), ([8, 10], [8, 10]), ([11], [11]), ([6, 12], [6, 12]), ([13], [13]), ([1, 14], [1, 14]), ([0, 1, 2, 3, 4, 5, 6, 7, 8, 9, 10, 11, 12, 13, 14, 15], []), ([16, 15, 15, 0, 1, 2, 3, 4, 5, 6, 7, 8, 9, 10, 11, 12, 13, 14, 15], [15, 16])])
def kimberliteref03_In.B5 : List Nat := [0, 1, 0, 4, 0, 28, 60, 0, 128, 0, 512, 1920, 3968, 8188, 16380, 32767, 65535, 131071]
theorem kimberliteref03_In.tab5 : rtab .any (opsOf Try.f85 5) = kimberliteref03_In.T5 := by kernel_rfl
theorem kimberliteref03_In.bits5 : waitsOk kimberliteref03_In.T5.2 kimberliteref03_In.B5 = true := by kernel_rfl
set_option maxHeartbeats 8000000 in
set_option maxRecDepth 100000 in
theorem kimberliteref03_In.calls (k : Nat) (a0_0 : Int) (A0_1 : Option Addr) (c0_1 : Nat) (l0_1 : List Int) (r1 : Int) (r2 : Int) (r3 : List Int) (r4 : Bool) (w : World) (hr0_1 : Kd.C (Kd.int .i64) w A0_1 l0_1.length l0_1) (hc0_1 : l0_1.length ≤ c0_1) (h : kimberliteref03_In.f k a0_0 l0_1 = some (r1, r2, r3, r4)) :
  Calls Try.prog 85 #[.agg #[.int .i64 a0_0, .slice A0_1 l0_1.length c0_1]] w fun e w' => ∃ v2_ : Value, e = .returned (.tuple #[.agg #[.int .i64 r1, .int .i64 r2, v2_], .bool r4]) ∧ Kd.R (Kd.int .i64) 3 w' w.heap.size (fun _ => True) v2_ r3 ∧ Below w.heap.size w w' := by
 have hu78 := Try.underlying78
 have hu24 := Try.underlying24
 have HR0_1 := zA hr0_1
 have HC0_1 := zA hc0_1
 clear hr0_1 hc0_1
 have HB := zA (Below.refl w.heap.size w)
 have H : (if 0 < (l0_1.length : Int) then (kimberliteref03_In.l0 k 1 a0_0 l0_1 a0_0 (rd l0_1 0) ([] : List Int)) else (none)) = some (r1, r2, r3, r4) := h
 clear h
 by_cases c2 : 0 < (l0_1.length : Int)
 ·
  rw [if_pos c2] at H
  have c2b0 : decide (0 < (l0_1.length : Int)) = true := decide_eq_true c2
  have c2b1 : decide (0 < l0_1.length) = true := decide_eq_true (by omega)
  clear c2
  have H' := zA H
  clear H
  go_enter Try.func85, Try.ntmps85
  try go_wp2_with (first | ((with_reducible refine gate_dst (N := 1) rfl ?_); refine box_event ?hg (N := 1) ?hd (cs := #[.int .i64 a0_0, .slice A0_1 l0_1.length c0_1]) (t := 78) ?hr ?_; (case hd => rfl); (case hg => rfl); (case hr => first | (go_simp; done) | (go_simp; rfl)); intro gA hg w3 hbox hb; have n0_ := zA (below_step (by repeat (first | (with_reducible first | exact HB.out | apply zW | apply zX | apply zY) | exact HB.out)) hb); have n1_ := zA (hbox); have n2_ := zA ((by rw [hg]; exact (below_size (by repeat (first | (with_reducible first | exact HB.out | apply zW | apply zX | apply zY) | exact HB.out))) : w.heap.size ≤ gA)); have n3_ := zA ((by rw [hg]; exact (below_size (by repeat (first | (with_reducible first | exact HB.out | apply zW | apply zX | apply zY) | exact HB.out))) : w.heap.size ≤ gA)); clear HB; have HB := n0_; have BK8d := n1_; have GW8d := n2_; have GE8d := n3_; clear n0_ n1_ n2_ n3_; clear hb hbox hg) | ((with_reducible refine gate_dst (N := 2) rfl ?_); refine box_event ?hg (N := 2) ?hd (cs := #[.int .i64 0, .int .i64 0, .slice none 0 0]) (t := 24) ?hr ?_; (case hd => rfl); (case hg => rfl); (case hr => first | (go_simp; done) | (go_simp; rfl)); intro gB hg w4 hbox hb; have n0_ := zA (blk_below (g := gA) (o := .cells #[.int .i64 a0_0, .slice A0_1 l0_1.length c0_1] 78 (0, 0)) (by (with_reducible repeat (first | refine zN ?_ _ | refine zD ?_ | refine zB ?_ _)); exact BK8d.out) hb); have n1_ := zA (below_step (by repeat (first | (with_reducible first | exact HB.out | apply zW | apply zX | apply zY | refine zS ?_ GE8d.out) | exact HB.out)) hb); have n2_ := zA (hbox); have n3_ := zA ((by rw [hg]; exact (below_size (by repeat (first | (with_reducible first | exact HB.out | apply zW | apply zX | apply zY | refine zS ?_ GE8d.out) | exact HB.out))) : w.heap.size ≤ gB)); have n4_ := zA ((by rw [hg]; exact (below_size (by repeat (first | (with_reducible first | exact HB.out | apply zW | apply zX | apply zY | refine zS ?_ GE8d.out) | exact HB.out))) : w.heap.size ≤ gB)); have n5_ := zA ((by rw [hg]; exact Nat.ne_of_lt (blk_lt (g := gA) (o := .cells #[.int .i64 a0_0, .slice A0_1 l0_1.length c0_1] 78 (0, 0)) (by (with_reducible repeat (first | refine zN ?_ _ | refine zD ?_ | refine zB ?_ _)); exact BK8d.out)) : gA ≠ gB)); have n6_ := zA ((by rw [hg]; exact Nat.ne_of_gt (blk_lt (g := gA) (o := .cells #[.int .i64 a0_0, .slice A0_1 l0_1.length c0_1] 78 (0, 0)) (by (with_reducible repeat (first | refine zN ?_ _ | refine zD ?_ | refine zB ?_ _)); exact BK8d.out)) : gB ≠ gA)); clear BK8d; clear HB; have BK8d := n0_; have HB := n1_; have BK8e := n2_; have GW8e := n3_; have GE8e := n4_; have NB535_536 := n5_; have NB536_535 := n6_; clear n0_ n1_ n2_ n3_ n4_ n5_ n6_; clear hb hbox hg))
  have n0_ := zA (zD BK8d.out)
  have n1_ := zA (zD BK8e.out)
  have n2_ := zA (zY HB.out)
  clear BK8d; clear BK8e; clear HB
  have BK8d := n0_
  have BK8e := n1_
  have HB := n2_
  clear n0_ n1_ n2_
  have p537 : 0 ≤ (0 : Int) := (by omega)
  have q537 : 0 < (l0_1.length : Int) := of_decide_eq_true (by first | (with_reducible assumption) | assumption)
  obtain ⟨ad537, e537, hx537_0⟩ := Kd.at_int HR0_1.out 0 p537 q537
  have hw537_0 := hx537_0
  (try rw [show ((0 : Int)).toNat = 0 from rfl] at hw537_0)
  (try rw [show 0 * 1 = 0 from rfl] at hw537_0)
  (try rw [Addr.add_zero'] at hw537_0)
  cases e537
  have qi537 : (0 < l0_1.length) = True := eq_true (by omega)
  (try rw [show ((0 : Int)).toNat = 0 from rfl] at hx537_0)
  (try rw [Addr.add_zero'] at hx537_0)
  replace hx537_0 := (HB.out.cell (World.block_lt_of_cell? w _ hx537_0)).trans hx537_0
  replace p537 := eq_true p537
  replace q537 := eq_true q537
  refine start_ (n := 9) (S := fun w' => w'.cell? ⟨gA, 0, none⟩ = some (.int .i64 a0_0) ∧ w'.cell? ⟨gA, 1, none⟩ = some (.slice (some ad537) l0_1.length c0_1) ∧ w'.cell? ad537 = some (.int .i64 (rd l0_1 0))) (ds := []) #[O,O,O,O,O,O,O,O,O] (by kernel_rfl) rfl rfl ⟨(blk_cell BK8d.out 0).trans rfl, (blk_cell BK8d.out 1).trans rfl, ((HB.out.cell (World.block_lt_of_cell? w _ hw537_0)).trans hw537_0)⟩ (fun hHeld => ?_); refine with_tabW kimberliteref03_In.tab1 kimberliteref03_In.bits1 (fun HT_ HW_ => ?_)
  generalize w4.drew = w5 at BK8d BK8e HB hx537_0 hHeld ⊢
  refine pure_ (i := 0) (N := some 6) (v := ?_) (a' := ?_) #[Y,O,O,O,O,O,O,O,O] rfl rfl (any_of HT_.out (by kernel_rfl)) (fun _ _ _ h => h) (Or.inl ⟨by rfl, ?_⟩) ?_ ?_
  rotate_left
  ·
   intro w'; go_simp; with_reducible rfl
  rotate_left
  ·
   simp only [Act.put, z1, z2, z3, i64_w, i32_w]; rfl
  refine pure_ (i := 2) (N := some 8) (v := ?_) (a' := ?_) #[Y,O,Y,O,O,O,O,O,O] rfl rfl (any_of HT_.out (by kernel_rfl)) (fun _ _ _ h => h) (Or.inl ⟨by rfl, ?_⟩) ?_ ?_
  rotate_left
  ·
   intro w'; go_simp; with_reducible rfl
  rotate_left
  ·
   simp only [Act.put, z1, z2, z3, i64_w, i32_w]; rfl
  refine take_ (i := 1) (N := some 7) (v := ?_) (a' := ?_) #[Y,Y,Y,O,O,O,O,O,O] rfl rfl (take_ofW HT_.out HW_.out (by kernel_rfl)) (fun _ _ _ h => h) (Or.inl ⟨by rfl, ?_⟩) hHeld ?_ ?_
  rotate_left
  ·
   rintro w' ⟨s0, s1, s2⟩
   go_simp; with_reducible rfl
  rotate_left
  ·
   simp only [Act.put, z1, z2, z3, i64_w, i32_w]; rfl
  refine take_ (i := 3) (N := some 9) (v := ?_) (a' := ?_) #[Y,Y,Y,Y,O,O,O,O,O] rfl rfl (take_ofW HT_.out HW_.out (by kernel_rfl)) (fun _ _ _ h => h) (Or.inl ⟨by rfl, ?_⟩) hHeld ?_ ?_
  rotate_left
  ·
   rintro w' ⟨s0, s1, s2⟩
   go_simp; with_reducible rfl
  rotate_left
  ·
   simp only [Act.put, z1, z2, z3, i64_w, i32_w]; rfl
  refine pure_ (i := 4) (N := some 10) (v := ?_) (a' := ?_) #[Y,Y,Y,Y,Y,O,O,O,O] rfl rfl (any_of HT_.out (by kernel_rfl)) (fun _ _ _ h => h) (Or.inl ⟨by rfl, ?_⟩) ?_ ?_
  rotate_left
  ·
   intro w'; go_simp; with_reducible rfl
  rotate_left
  ·
   simp only [Act.put, z1, z2, z3, i64_w, i32_w]; rfl
  refine take_ (i := 5) (N := some 11) (v := ?_) (a' := ?_) #[Y,Y,Y,Y,Y,Y,O,O,O] rfl rfl (take_ofW HT_.out HW_.out (by kernel_rfl)) (fun _ _ _ h => h) (Or.inl ⟨by rfl, ?_⟩) hHeld ?_ ?_
  rotate_left
  ·
   rintro w' ⟨s0, s1, s2⟩
   go_simp; with_reducible rfl
  rotate_left
  ·
   simp only [Act.put, z1, z2, z3, i64_w, i32_w]; rfl
  refine pure_ (i := 6) (N := some 12) (v := ?_) (a' := ?_) #[Y,Y,Y,Y,Y,Y,Y,O,O] rfl rfl (any_of HT_.out (by kernel_rfl)) (fun _ _ _ h => h) (Or.inl ⟨by rfl, ?_⟩) ?_ ?_
  rotate_left
  ·
   intro w'; go_simp; with_reducible rfl
  rotate_left
  ·
   simp only [Act.put, z1, z2, z3, i64_w, i32_w]; rfl
  refine one_ (i := 7) (N := some 4) #[Y,Y,Y,Y,Y,Y,Y,Y,O] rfl rfl (one_of HT_.out (by kernel_rfl)) (by decide) (fun K hK => ?_)
  refine box_step ?hg (N := 4) ?hd (cs := #[.int .i64 0, .int .i64 0, .slice none 0 0]) (t := 24) ?hr ?_; (case hd => rfl); (case hg => rfl); (case hr => first | (go_simp; done) | (go_simp; rfl))
  intro gC hg w6 hbox hb
  have n0_ := zA (blk_below (g := gA) (o := .cells #[.int .i64 a0_0, .slice (some ad537) l0_1.length c0_1] 78 (0, 0)) (by (with_reducible repeat (first | refine zN ?_ _ | refine zD ?_ | refine zB ?_ _)); exact BK8d.out) hb)
  have n1_ := zA (blk_below (g := gB) (o := .cells #[.int .i64 0, .int .i64 0, .slice none 0 0] 24 (0, 0)) (by (with_reducible repeat (first | refine zN ?_ _ | refine zD ?_ | refine zB ?_ _)); exact BK8e.out) hb)
  have n2_ := zA (below_step (by repeat (first | (with_reducible first | exact HB.out | apply zW | apply zX | apply zY | refine zS ?_ GE8d.out | refine zS ?_ GE8e.out) | exact HB.out)) hb)
  have n3_ := zA (hbox)
  have n4_ := zA ((by rw [hg]; exact (below_size (by repeat (first | (with_reducible first | exact HB.out | apply zW | apply zX | apply zY | refine zS ?_ GE8d.out | refine zS ?_ GE8e.out) | exact HB.out))) : w.heap.size ≤ gC))
  have n5_ := zA ((by rw [hg]; exact (below_size (by repeat (first | (with_reducible first | exact HB.out | apply zW | apply zX | apply zY | refine zS ?_ GE8d.out | refine zS ?_ GE8e.out) | exact HB.out))) : w.heap.size ≤ gC))
  have n6_ := zA ((by rw [hg]; exact Nat.ne_of_lt (blk_lt (g := gA) (o := .cells #[.int .i64 a0_0, .slice (some ad537) l0_1.length c0_1] 78 (0, 0)) (by (with_reducible repeat (first | refine zN ?_ _ | refine zD ?_ | refine zB ?_ _)); exact BK8d.out)) : gA ≠ gC))
  have n7_ := zA ((by rw [hg]; exact Nat.ne_of_gt (blk_lt (g := gA) (o := .cells #[.int .i64 a0_0, .slice (some ad537) l0_1.length c0_1] 78 (0, 0)) (by (with_reducible repeat (first | refine zN ?_ _ | refine zD ?_ | refine zB ?_ _)); exact BK8d.out)) : gC ≠ gA))
  have n8_ := zA ((by rw [hg]; exact Nat.ne_of_lt (blk_lt (g := gB) (o := .cells #[.int .i64 0, .int .i64 0, .slice none 0 0] 24 (0, 0)) (by (with_reducible repeat (first | refine zN ?_ _ | refine zD ?_ | refine zB ?_ _)); exact BK8e.out)) : gB ≠ gC))
  have n9_ := zA ((by rw [hg]; exact Nat.ne_of_gt (blk_lt (g := gB) (o := .cells #[.int .i64 0, .int .i64 0, .slice none 0 0] 24 (0, 0)) (by (with_reducible repeat (first | refine zN ?_ _ | refine zD ?_ | refine zB ?_ _)); exact BK8e.out)) : gC ≠ gB))
  clear BK8d; clear BK8e; clear HB
  have BK8d := n0_
  have BK8e := n1_
  have HB := n2_
  have BK8g := n3_
  have GW8g := n4_
  have GE8g := n5_
  have NB535_538 := n6_
  have NB538_535 := n7_
  have NB536_538 := n8_
  have NB538_536 := n9_
  clear n0_ n1_ n2_ n3_ n4_ n5_ n6_ n7_ n8_ n9_; clear hb hbox hg
  refine hK.out _ _ ⟨(blk_cell BK8d.out 0).trans rfl, (blk_cell BK8d.out 1).trans rfl, ((HB.out.cell (World.block_lt_of_cell? w _ hw537_0)).trans hw537_0)⟩ (fun hHeld => ?_)
  clear hK K
  refine norm_ (a' := ?_) ?_ ?_
  rotate_left
  ·
   show Act.put _ (some 4) _ = _
   simp only [Act.put, z1, z2, z3, i64_w, i32_w]; rfl
  refine one_ (i := 8) (N := none) #[Y,Y,Y,Y,Y,Y,Y,Y,Y] rfl rfl (one_of HT_.out (by kernel_rfl)) (by decide) (fun K hK => ?_)
  have hs7 : w6.cell? ⟨gC, 0, none⟩ = some (.int .i64 0) := (blk_cell BK8g.out 0).trans rfl
  have hfs7 := blk_frozen BK8g.out 0
  have hns7_0 := NB535_538.out
  have hns7_1 := NB536_538.out
  have hms7_0 := NB538_535.out
  have hms7_1 := NB538_536.out
  have hs8 : w6.cell? ⟨gC, 1, none⟩ = some (.int .i64 0) := (blk_cell BK8g.out 1).trans rfl
  have hfs8 := blk_frozen BK8g.out 1
  have hns8_0 := NB535_538.out
  have hns8_1 := NB536_538.out
  have hms8_0 := NB538_535.out
  have hms8_1 := NB538_536.out
  have hs9 : w6.cell? ⟨gC, 2, none⟩ = some (.slice none 0 0) := (blk_cell BK8g.out 2).trans rfl
  have hfs9 := blk_frozen BK8g.out 2
  have hns9_0 := NB535_538.out
  have hns9_1 := NB536_538.out
  have hms9_0 := NB538_535.out
  have hms9_1 := NB538_536.out
  refine skip_ (w1 := ?_) (by rfl) rfl ?_ ?_
  rotate_left
  ·
   go_simp; rfl
  refine hK.out _ _ ⟨((cell_far (p := ⟨gC, _, none⟩) NB535_538.out _).trans (((cell_far (p := ⟨gC, _, none⟩) NB535_538.out _).trans (((cell_far (p := ⟨gC, _, none⟩) NB535_538.out _).trans (hHeld.1)))))), ((cell_far (p := ⟨gC, _, none⟩) NB535_538.out _).trans (((cell_far (p := ⟨gC, _, none⟩) NB535_538.out _).trans (((cell_far (p := ⟨gC, _, none⟩) NB535_538.out _).trans (hHeld.2.1)))))), ((cell_far (p := ⟨gC, _, none⟩) (by first | exact Nat.ne_of_lt (Nat.lt_of_lt_of_le (by have := World.block_lt_of_cell? _ _ hw537_0; first | rwa [add_block] at this | exact this) GW8g.out) | (rw [add_block]; exact Nat.ne_of_lt (Nat.lt_of_lt_of_le (by have := World.block_lt_of_cell? _ _ hw537_0; first | rwa [add_block] at this | exact this) GW8g.out)) | (show (Addr.add _ _).block ≠ _; rw [add_block]; exact Nat.ne_of_lt (Nat.lt_of_lt_of_le (by have := World.block_lt_of_cell? _ _ hw537_0; first | rwa [add_block] at this | exact this) GW8g.out)) | (dsimp only; exact Nat.ne_of_lt (Nat.lt_of_lt_of_le (by have := World.block_lt_of_cell? _ _ hw537_0; first | rwa [add_block] at this | exact this) GW8g.out))) _).trans (((cell_far (p := ⟨gC, _, none⟩) (by first | exact Nat.ne_of_lt (Nat.lt_of_lt_of_le (by have := World.block_lt_of_cell? _ _ hw537_0; first | rwa [add_block] at this | exact this) GW8g.out) | (rw [add_block]; exact Nat.ne_of_lt (Nat.lt_of_lt_of_le (by have := World.block_lt_of_cell? _ _ hw537_0; first | rwa [add_block] at this | exact this) GW8g.out)) | (show (Addr.add _ _).block ≠ _; rw [add_block]; exact Nat.ne_of_lt (Nat.lt_of_lt_of_le (by have := World.block_lt_of_cell? _ _ hw537_0; first | rwa [add_block] at this | exact this) GW8g.out)) | (dsimp only; exact Nat.ne_of_lt (Nat.lt_of_lt_of_le (by have := World.block_lt_of_cell? _ _ hw537_0; first | rwa [add_block] at this | exact this) GW8g.out))) _).trans (((cell_far (p := ⟨gC, _, none⟩) (by first | exact Nat.ne_of_lt (Nat.lt_of_lt_of_le (by have := World.block_lt_of_cell? _ _ hw537_0; first | rwa [add_block] at this | exact this) GW8g.out) | (rw [add_block]; exact Nat.ne_of_lt (Nat.lt_of_lt_of_le (by have := World.block_lt_of_cell? _ _ hw537_0; first | rwa [add_block] at this | exact this) GW8g.out)) | (show (Addr.add _ _).block ≠ _; rw [add_block]; exact Nat.ne_of_lt (Nat.lt_of_lt_of_le (by have := World.block_lt_of_cell? _ _ hw537_0; first | rwa [add_block] at this | exact this) GW8g.out)) | (dsimp only; exact Nat.ne_of_lt (Nat.lt_of_lt_of_le (by have := World.block_lt_of_cell? _ _ hw537_0; first | rwa [add_block] at this | exact this) GW8g.out))) _).trans (hHeld.2.2))))))⟩ (fun hHeld => ?_)
  clear hK K
  refine done_ (done_of HT_.out (by kernel_rfl)) ?_
  try go_wp2
  go_loopg [5] k (fun kq v5 w' => ∃ (x5_1 : Int) (x539002_1 : List Int) (u539002 : Value), v5 = .int .i64 x5_1 ∧ Aside0 (kimberliteref03_In.l0 kq x5_1 a0_0 l0_1 a0_0 (rd l0_1 0) x539002_1 = some (r1, r2, r3, r4)) ∧ Aside0 (kq ≤ k) ∧ Aside0 (Kd.R (Kd.int .i64) 3 w' w.heap.size (fun _ => True) u539002 x539002_1) ∧ Aside0 (w'.heap[gA]? = some (.cells #[.int .i64 a0_0, (.slice (some ad537) l0_1.length c0_1)] 78 (0, 0))) ∧ Aside0 (w'.heap[gB]? = some (.cells #[.int .i64 0, .int .i64 0, (.slice none 0 0)] 24 (0, 0))) ∧ Aside0 (w'.heap[gC]? = some (.cells #[.int .i64 a0_0, .int .i64 (rd l0_1 0), u539002] 24 (0, 0))) ∧ Aside0 (Below w.heap.size w w'))
  case atStart => exact ⟨(1), (([] : List Int)), (.slice none 0 0), (by first | rfl | (simp; done) | (simp [*]; done)), H', ⟨Nat.le_refl _⟩, ⟨by first | exact Kd.R_nil _ _ _ _ _ | exact Kd.N_nil _ _ _ _ _ | exact Kd.V_nil _ _ _ _ _ | exact Kd.Q_nil _ _ _ _ _ | exact Kd.S_nil _ _ _ _ _⟩, ⟨by (with_reducible repeat (first | refine zN ?_ _ | refine zD ?_ | refine zB ?_ _)); refine blk_far ?_ NB535_538.out _; (with_reducible repeat (first | refine zN ?_ _ | refine zD ?_ | refine zB ?_ _)); refine blk_far ?_ NB535_538.out _; (with_reducible repeat (first | refine zN ?_ _ | refine zD ?_ | refine zB ?_ _)); refine blk_far ?_ NB535_538.out _; (with_reducible repeat (first | refine zN ?_ _ | refine zD ?_ | refine zB ?_ _)); exact BK8d.out⟩, ⟨by (with_reducible repeat (first | refine zN ?_ _ | refine zD ?_ | refine zB ?_ _)); refine blk_far ?_ NB536_538.out _; (with_reducible repeat (first | refine zN ?_ _ | refine zD ?_ | refine zB ?_ _)); refine blk_far ?_ NB536_538.out _; (with_reducible repeat (first | refine zN ?_ _ | refine zD ?_ | refine zB ?_ _)); refine blk_far ?_ NB536_538.out _; (with_reducible repeat (first | refine zN ?_ _ | refine zD ?_ | refine zB ?_ _)); exact BK8e.out⟩, ⟨by (with_reducible repeat (first | refine zN ?_ _ | refine zD ?_ | refine zB ?_ _)); refine blk_put (cs := #[.int .i64 a0_0, .int .i64 (rd l0_1 0), .slice none 0 0]) ?_ 2 _ rfl; (with_reducible repeat (first | refine zN ?_ _ | refine zD ?_ | refine zB ?_ _)); refine blk_put (cs := #[.int .i64 a0_0, .int .i64 0, .slice none 0 0]) ?_ 1 _ rfl; (with_reducible repeat (first | refine zN ?_ _ | refine zD ?_ | refine zB ?_ _)); refine blk_put (cs := #[.int .i64 0, .int .i64 0, .slice none 0 0]) ?_ 0 _ rfl; (with_reducible repeat (first | refine zN ?_ _ | refine zD ?_ | refine zB ?_ _)); exact BK8g.out⟩, ⟨by repeat (first | (with_reducible first | exact HB.out | apply zW | apply zX | apply zY | refine zS ?_ GE8d.out | refine zS ?_ GE8e.out | refine zS ?_ GE8g.out) | exact HB.out)⟩⟩
  case round =>
   clear H'
   try clear c2
   try clear c2b0
   try clear c2b1
   try clear p2
   try clear p5
   try clear q5
   try clear hx5
   try clear qi5
   try clear c8
   try clear hx537_0
   try clear p537
   try clear q537
   obtain ⟨x5_1, x539002_1, u539002, rfl, HA, HK1, HO_539002, BK8d, BK8e, BK8g, HB⟩ := hrel
   cases gk with
   | zero => exact absurd HA.out (by simp [kimberliteref03_In.l0])
   | succ k1 =>
    have H := HA.out
    clear HA
    simp only [kimberliteref03_In.l0] at H
    by_cases c10 : x5_1 < (l0_1.length : Int)
    ·
     rw [if_pos c10] at H
     have c10b0 : decide (x5_1 < (l0_1.length : Int)) = true := decide_eq_true c10
     clear c10
     by_cases c11 : 0 ≤ x5_1
     ·
      rw [if_pos c11] at H
      have c11b0 : decide (0 ≤ x5_1) = true := decide_eq_true c11
      clear c11
      obtain ⟨ji12, hji12⟩ : ∃ j_ : Int, (wrap64 (x5_1 - 1)) = j_ := ⟨_, rfl⟩
      replace H : (if 0 ≤ (ji12) then (if (ji12) < (l0_1.length : Int) then (if x539002_1.length < 17592186044416 then (kimberliteref03_In.l0 k1 (wrap64 (x5_1 + 1)) a0_0 l0_1 a0_0 (rd l0_1 0) (x539002_1 ++ [wrap64 ((rd l0_1 x5_1) - (rd l0_1 (ji12)))])) else (none)) else (none)) else (none)) = some (r1, r2, r3, r4) := by first | (rw [hji12] at H; exact H) | (simp only [hji12] at H ⊢; exact H)
      have hji12w : (IntKind.i64.wrap (x5_1 - 1)) = ji12 := (i64_w _).trans hji12
      by_cases c13 : 0 ≤ (ji12)
      ·
       rw [if_pos c13] at H
       have c13b0 : decide (0 ≤ (ji12)) = true := decide_eq_true c13
       clear c13
       by_cases c14 : (ji12) < (l0_1.length : Int)
       ·
        rw [if_pos c14] at H
        have c14b0 : decide ((ji12) < (l0_1.length : Int)) = true := decide_eq_true c14
        clear c14
        by_cases c15 : x539002_1.length < 17592186044416
        ·
         rw [if_pos c15] at H
         have LMc15 := zA c15
         clear c15
         obtain ⟨y541, hy541⟩ : ∃ y_ : List Int, y_ = (x539002_1 ++ [wrap64 ((rd l0_1 x5_1) - (rd l0_1 (ji12)))]) := ⟨_, rfl⟩
         replace H : (kimberliteref03_In.l0 k1 (wrap64 (x5_1 + 1)) a0_0 l0_1 a0_0 (rd l0_1 0) y541) = some (r1, r2, r3, r4) := by first | (rw [hy541]; with_reducible exact H) | (have H2_ := (Option.bind_some _ _).symm.trans H; rw [hy541]; with_reducible exact H2_) | (have H2_ := (Option.bind_some _ _).symm.trans H; with_reducible exact H2_) | with_reducible exact H | (rw [hy541]; exact H) | exact H
         have Ny541 := zA hy541
         clear hy541
         have H' := zA H
         clear H
         have hnb16 := NB535_536.out
         have hnc16 := NB536_535.out
         have hnb17 := NB535_538.out
         have hnc17 := NB538_535.out
         have hcz18_0 : wr.cell? ⟨gA, 0, none⟩ = some (.int .i64 a0_0) := (blk_cell BK8d.out 0).trans rfl
         have hcz18_1 : wr.cell? ⟨gA, 1, none⟩ = some (.slice (some ad537) l0_1.length c0_1) := (blk_cell BK8d.out 1).trans rfl
         have hfz18_0 := blk_frozen BK8d.out 0
         have hfz18_1 := blk_frozen BK8d.out 1
         try go_wp2
         have n0_ := zA (Kd.R_drew HO_539002.out)
         have n1_ := zA (zD BK8d.out)
         have n2_ := zA (zD BK8e.out)
         have n3_ := zA (zD BK8g.out)
         have n4_ := zA (zY HB.out)
         clear HO_539002; clear BK8d; clear BK8e; clear BK8g; clear HB
         have HO_539002 := n0_
         have BK8d := n1_
         have BK8e := n2_
         have BK8g := n3_
         have HB := n4_
         clear n0_ n1_ n2_ n3_ n4_
         have p539 : 0 ≤ (x5_1 : Int) := of_decide_eq_true (by first | (with_reducible assumption) | assumption)
         have q539 : x5_1 < (l0_1.length : Int) := of_decide_eq_true (by first | (with_reducible assumption) | assumption)
         obtain ⟨ad539, e539, hx539_0⟩ := Kd.at_int HR0_1.out x5_1 p539 q539
         have hw539_0 := hx539_0
         obtain rfl : ad537 = ad539 := (by injection e539)
         replace hx539_0 := (HB.out.cell (World.block_lt_of_cell? w _ hx539_0)).trans hx539_0
         replace p539 := eq_true p539
         replace q539 := eq_true q539
         have p540 : 0 ≤ ((ji12) : Int) := of_decide_eq_true (by first | (with_reducible assumption) | assumption)
         have q540 : (ji12) < (l0_1.length : Int) := of_decide_eq_true (by first | (with_reducible assumption) | assumption)
         obtain ⟨ad540, e540, hx540_0⟩ := Kd.at_int HR0_1.out (ji12) p540 q540
         have hw540_0 := hx540_0
         obtain rfl : ad537 = ad540 := (by injection e540)
         replace hx540_0 := (HB.out.cell (World.block_lt_of_cell? w _ hx540_0)).trans hx540_0
         replace p540 := eq_true p540
         replace q540 := eq_true q540
         refine start_ (n := 18) (S := fun w' => w'.cell? ⟨gC, 0, none⟩ = some (.int .i64 a0_0) ∧ w'.cell? ⟨gC, 1, none⟩ = some (.int .i64 (rd l0_1 0)) ∧ w'.cell? ⟨gC, 2, none⟩ = some (u539002) ∧ w'.cell? ⟨gA, 0, none⟩ = some (.int .i64 a0_0) ∧ w'.cell? ⟨gA, 1, none⟩ = some (.slice (some ad537) l0_1.length c0_1) ∧ w'.cell? (ad537.add (x5_1).toNat) = some (.int .i64 (rd l0_1 x5_1)) ∧ w'.cell? (ad537.add ((ji12)).toNat) = some (.int .i64 (rd l0_1 (ji12)))) (ds := [17]) #[O,O,O,O,O,O,O,O,O,O,O,O,O,O,O,O,O,O] (by kernel_rfl) rfl rfl ⟨(blk_cell BK8g.out 0).trans rfl, (blk_cell BK8g.out 1).trans rfl, (blk_cell BK8g.out 2).trans rfl, (blk_cell BK8d.out 0).trans rfl, (blk_cell BK8d.out 1).trans rfl, ((HB.out.cell (World.block_lt_of_cell? w _ hw539_0)).trans hw539_0), ((HB.out.cell (World.block_lt_of_cell? w _ hw540_0)).trans hw540_0)⟩ (fun hHeld => ?_); refine with_tabW kimberliteref03_In.tab5 kimberliteref03_In.bits5 (fun HT_ HW_ => ?_)
         generalize wr.drew = w19 at HO_539002 BK8d BK8e BK8g HB hx539_0 hx540_0 hHeld ⊢
         refine pure_ (i := 0) (N := some 20) (v := ?_) (a' := ?_) #[Y,O,O,O,O,O,O,O,O,O,O,O,O,O,O,O,O,O] rfl rfl (any_of HT_.out (by kernel_rfl)) (fun _ _ _ h => h) (Or.inl ⟨by rfl, ?_⟩) ?_ ?_
         rotate_left
         ·
          intro w'; go_simp; with_reducible rfl
         rotate_left
         ·
          simp only [Act.put, z1, z2, z3, i64_w, i32_w]; rfl
         refine pure_ (i := 2) (N := some 22) (v := ?_) (a' := ?_) #[Y,O,Y,O,O,O,O,O,O,O,O,O,O,O,O,O,O,O] rfl rfl (any_of HT_.out (by kernel_rfl)) (fun _ _ _ h => h) (Or.inl ⟨by rfl, ?_⟩) ?_ ?_
         rotate_left
         ·
          intro w'; go_simp; with_reducible rfl
         rotate_left
         ·
          simp only [Act.put, z1, z2, z3, i64_w, i32_w]; rfl
         refine pure_ (i := 4) (N := some 24) (v := ?_) (a' := ?_) #[Y,O,Y,O,Y,O,O,O,O,O,O,O,O,O,O,O,O,O] rfl rfl (any_of HT_.out (by kernel_rfl)) (fun _ _ _ h => h) (Or.inl ⟨by rfl, ?_⟩) ?_ ?_
         rotate_left
         ·
          intro w'; go_simp; with_reducible rfl
         rotate_left
         ·
          simp only [Act.put, z1, z2, z3, i64_w, i32_w]; rfl
         refine pure_ (i := 7) (N := some 27) (v := ?_) (a' := ?_) #[Y,O,Y,O,Y,O,O,Y,O,O,O,O,O,O,O,O,O,O] rfl rfl (any_of HT_.out (by kernel_rfl)) (fun _ _ _ h => h) (Or.inl ⟨by rfl, ?_⟩) ?_ ?_
         rotate_left
         ·
          intro w'; go_simp; with_reducible rfl
         rotate_left
         ·
          simp only [Act.put, z1, z2, z3, i64_w, i32_w]; rfl
         refine pure_ (i := 9) (N := some 29) (v := ?_) (a' := ?_) #[Y,O,Y,O,Y,O,O,Y,O,Y,O,O,O,O,O,O,O,O] rfl rfl (any_of HT_.out (by kernel_rfl)) (fun _ _ _ h => h) (Or.inl ⟨by rfl, ?_⟩) ?_ ?_
         rotate_left
         ·
          intro w'; go_simp; with_reducible rfl
         rotate_left
         ·
          simp only [Act.put, z1, z2, z3, i64_w, i32_w]; rfl
         refine pure_ (i := 10) (N := some 30) (v := ?_) (a' := ?_) #[Y,O,Y,O,Y,O,O,Y,O,Y,Y,O,O,O,O,O,O,O] rfl rfl (any_of HT_.out (by kernel_rfl)) (fun _ _ _ h => h) (Or.inl ⟨by rfl, ?_⟩) ?_ ?_
         rotate_left
         ·
          intro w'; go_simp; with_reducible rfl
         rotate_left
         ·
          simp only [Act.put, z1, z2, z3, i64_w, i32_w]; rfl
         refine take_ (i := 1) (N := some 21) (v := ?_) (a' := ?_) #[Y,Y,Y,O,Y,O,O,Y,O,Y,Y,O,O,O,O,O,O,O] rfl rfl (take_ofW HT_.out HW_.out (by kernel_rfl)) (fun _ _ _ h => h) (Or.inl ⟨by rfl, ?_⟩) hHeld ?_ ?_
         rotate_left
         ·
          rintro w' ⟨s0, s1, s2, s3, s4, s5, s6⟩
          go_simp; with_reducible rfl
         rotate_left
         ·
          simp only [Act.put, z1, z2, z3, i64_w, i32_w]; rfl
         refine take_ (i := 3) (N := some 23) (v := ?_) (a' := ?_) #[Y,Y,Y,Y,Y,O,O,Y,O,Y,Y,O,O,O,O,O,O,O] rfl rfl (take_ofW HT_.out HW_.out (by kernel_rfl)) (fun _ _ _ h => h) (Or.inl ⟨by rfl, ?_⟩) hHeld ?_ ?_
         rotate_left
         ·
          rintro w' ⟨s0, s1, s2, s3, s4, s5, s6⟩
          go_simp; with_reducible rfl
         rotate_left
         ·
          simp only [Act.put, z1, z2, z3, i64_w, i32_w]; rfl
         refine pure_ (i := 5) (N := some 25) (v := ?_) (a' := ?_) #[Y,Y,Y,Y,Y,Y,O,Y,O,Y,Y,O,O,O,O,O,O,O] rfl rfl (any_of HT_.out (by kernel_rfl)) (fun _ _ _ h => h) (Or.inl ⟨by rfl, ?_⟩) ?_ ?_
         rotate_left
         ·
          intro w'; go_simp; with_reducible rfl
         rotate_left
         ·
          simp only [Act.put, z1, z2, z3, i64_w, i32_w]; rfl
         refine take_ (i := 6) (N := some 26) (v := ?_) (a' := ?_) #[Y,Y,Y,Y,Y,Y,Y,Y,O,Y,Y,O,O,O,O,O,O,O] rfl rfl (take_ofW HT_.out HW_.out (by kernel_rfl)) (fun _ _ _ h => h) (Or.inl ⟨by rfl, ?_⟩) hHeld ?_ ?_
         rotate_left
         ·
          rintro w' ⟨s0, s1, s2, s3, s4, s5, s6⟩
          go_simp; with_reducible rfl
         rotate_left
         ·
          simp only [Act.put, z1, z2, z3, i64_w, i32_w]; rfl
         refine take_ (i := 8) (N := some 28) (v := ?_) (a' := ?_) #[Y,Y,Y,Y,Y,Y,Y,Y,Y,Y,Y,O,O,O,O,O,O,O] rfl rfl (take_ofW HT_.out HW_.out (by kernel_rfl)) (fun _ _ _ h => h) (Or.inl ⟨by rfl, ?_⟩) hHeld ?_ ?_
         rotate_left
         ·
          rintro w' ⟨s0, s1, s2, s3, s4, s5, s6⟩
          go_simp; with_reducible rfl
         rotate_left
         ·
          simp only [Act.put, z1, z2, z3, i64_w, i32_w]; rfl
         refine pure_ (i := 11) (N := some 31) (v := ?_) (a' := ?_) #[Y,Y,Y,Y,Y,Y,Y,Y,Y,Y,Y,Y,O,O,O,O,O,O] rfl rfl (any_of HT_.out (by kernel_rfl)) (fun _ _ _ h => h) (Or.inl ⟨by rfl, ?_⟩) ?_ ?_
         rotate_left
         ·
          intro w'; go_simp; with_reducible rfl
         rotate_left
         ·
          simp only [Act.put, z1, z2, z3, i64_w, i32_w]; rfl
         refine take_ (i := 12) (N := some 32) (v := ?_) (a' := ?_) #[Y,Y,Y,Y,Y,Y,Y,Y,Y,Y,Y,Y,Y,O,O,O,O,O] rfl rfl (take_ofW HT_.out HW_.out (by kernel_rfl)) (fun _ _ _ h => h) (Or.inl ⟨by rfl, ?_⟩) hHeld ?_ ?_
         rotate_left
         ·
          rintro w' ⟨s0, s1, s2, s3, s4, s5, s6⟩
          go_simp; with_reducible rfl
         rotate_left
         ·
          simp only [Act.put, z1, z2, z3, i64_w, i32_w]; rfl
         refine pure_ (i := 13) (N := some 33) (v := ?_) (a' := ?_) #[Y,Y,Y,Y,Y,Y,Y,Y,Y,Y,Y,Y,Y,Y,O,O,O,O] rfl rfl (any_of HT_.out (by kernel_rfl)) (fun _ _ _ h => h) (Or.inl ⟨by rfl, ?_⟩) ?_ ?_
         rotate_left
         ·
          intro w'; go_simp; with_reducible rfl
         rotate_left
         ·
          simp only [Act.put, z1, z2, z3, i64_w, i32_w]; rfl
         refine one_ (i := 14) (N := some 34) #[Y,Y,Y,Y,Y,Y,Y,Y,Y,Y,Y,Y,Y,Y,Y,O,O,O] rfl rfl (one_of HT_.out (by kernel_rfl)) (by decide) (fun K hK => ?_)
         refine value_ (w1 := ?_) (v := ?_) (by rfl) rfl ?_ ?_
         rotate_left 2
         ·
          go_simp
          constructor
          ·
           rfl
          ·
           rfl
         refine hK.out _ _ ⟨(blk_cell (zB BK8g.out _) 0).trans rfl, (blk_cell (zB BK8g.out _) 1).trans rfl, (blk_cell (zB BK8g.out _) 2).trans rfl, (blk_cell (zB BK8d.out _) 0).trans rfl, (blk_cell (zB BK8d.out _) 1).trans rfl, (World.cell?_alloc_lt _ _ _ (World.block_lt_of_cell? _ _ (((HB.out.cell (World.block_lt_of_cell? w _ hw539_0)).trans hw539_0)))).trans (((HB.out.cell (World.block_lt_of_cell? w _ hw539_0)).trans hw539_0)), (World.cell?_alloc_lt _ _ _ (World.block_lt_of_cell? _ _ (((HB.out.cell (World.block_lt_of_cell? w _ hw540_0)).trans hw540_0)))).trans (((HB.out.cell (World.block_lt_of_cell? w _ hw540_0)).trans hw540_0))⟩ (fun hHeld => ?_)
         clear hK K
         refine norm_ (a' := ?_) ?_ ?_
         rotate_left
         ·
          show Act.put _ (some 34) _ = _
          simp only [Act.put, z1, z2, z3, i64_w, i32_w]; rfl
         refine one_ (i := 15) (N := some 35) #[Y,Y,Y,Y,Y,Y,Y,Y,Y,Y,Y,Y,Y,Y,Y,Y,O,O] rfl rfl (one_of HT_.out (by kernel_rfl)) (by decide) (fun K hK => ?_)
         refine Kd.R_append_step (Kd.int .i64) (w0 := w) w.heap.size (by rfl) (.tmp 21) (.tmp 34) 22 3 (.int .i64 0) 8 rfl Try.underlying22 info3 rfl (by decide) (by omega) u539002 x539002_1 (wrap64 ((rd l0_1 x5_1) - (rd l0_1 (ji12)))) [.int .i64 (wrap64 ((rd l0_1 x5_1) - (rd l0_1 (ji12))))] (fun _ => True) (fun _ => False) rfl rfl ?aP (fun _ hk => hk.elim) ?aF ?aO ?aB ?aS ?aL ?_
         (case aP => exact rfl)
         (case aB => exact (by repeat (first | (with_reducible first | exact HB.out | apply zW | apply zX | apply zY | refine zS ?_ GE8d.out | refine zS ?_ GE8e.out | refine zS ?_ GE8g.out) | exact HB.out)))
         (case aF => exact (fun _ _ => trivial))
         (case aO => exact (by (with_reducible repeat (first | apply Kd.R_alloc | apply Kd.R_drewN | apply Kd.R_drew)); exact HO_539002.out))
         (case aS => exact (below_size (by repeat (first | (with_reducible first | exact HB.out | apply zW | apply zX | apply zY | refine zS ?_ GE8d.out | refine zS ?_ GE8e.out | refine zS ?_ GE8g.out) | exact HB.out))))
         (case aL => have := LMc15.out; omega)
         intro v542 w20 ho hb hg hat
         rw [← Ny541.out] at ho
         have n0_ := zA (blk_grown (g := gA) (o := .cells #[.int .i64 a0_0, .slice (some ad537) l0_1.length c0_1] 78 (0, 0)) (by (with_reducible repeat (first | refine zN ?_ _ | refine zD ?_ | refine zB ?_ _)); exact BK8d.out) hg (Kd.R_ne HO_539002.out BK8d.out (by decide)))
         have n1_ := zA (blk_grown (g := gB) (o := .cells #[.int .i64 0, .int .i64 0, .slice none 0 0] 24 (0, 0)) (by (with_reducible repeat (first | refine zN ?_ _ | refine zD ?_ | refine zB ?_ _)); exact BK8e.out) hg (Kd.R_ne HO_539002.out BK8e.out (by decide)))
         have n2_ := zA (blk_grown (g := gC) (o := .cells #[.int .i64 a0_0, .int .i64 (rd l0_1 0), u539002] 24 (0, 0)) (by (with_reducible repeat (first | refine zN ?_ _ | refine zD ?_ | refine zB ?_ _)); exact BK8g.out) hg (Kd.R_ne HO_539002.out BK8g.out (by decide)))
         have n3_ := zA (hb)
         have n4_ := zA (ho)
         clear BK8d; clear BK8e; clear BK8g; clear HB; clear HO_539002
         have BK8d := n0_
         have BK8e := n1_
         have BK8g := n2_
         have HB := n3_
         have HO8l := n4_
         clear n0_ n1_ n2_ n3_ n4_; clear ho hb hg hat
         obtain ⟨Ao21, co21, eo21⟩ := Kd.R_slice HO8l.out
         (first | subst eo21 | (injection eo21 with f1_ f2_ f3_; have f4_ := f1_.symm; have f5_ := f3_.symm; clear f1_ f2_ f3_; subst f4_; subst f5_))
         refine hK.out _ _ ⟨(blk_cell BK8g.out 0).trans rfl, (blk_cell BK8g.out 1).trans rfl, (blk_cell BK8g.out 2).trans rfl, (blk_cell BK8d.out 0).trans rfl, (blk_cell BK8d.out 1).trans rfl, ((HB.out.cell (World.block_lt_of_cell? w _ hw539_0)).trans hw539_0), ((HB.out.cell (World.block_lt_of_cell? w _ hw540_0)).trans hw540_0)⟩ (fun hHeld => ?_)
         clear hK K
         refine norm_ (a' := ?_) ?_ ?_
         rotate_left
         ·
          show Act.put _ (some 35) _ = _
          simp only [Act.put, z1, z2, z3, i64_w, i32_w]; rfl
         refine pure_ (i := 16) (N := some 36) (v := ?_) (a' := ?_) #[Y,Y,Y,Y,Y,Y,Y,Y,Y,Y,Y,Y,Y,Y,Y,Y,Y,O] rfl rfl (any_of HT_.out (by kernel_rfl)) (fun _ _ _ h => h) (Or.inl ⟨by rfl, ?_⟩) ?_ ?_
         rotate_left
         ·
          intro w'; go_simp; with_reducible rfl
         rotate_left
         ·
          simp only [Act.put, z1, z2, z3, i64_w, i32_w]; rfl
         refine last_ (i := 17) (N := none) #[Y,Y,Y,Y,Y,Y,Y,Y,Y,Y,Y,Y,Y,Y,Y,Y,Y,Y] rfl rfl (one_of HT_.out (by kernel_rfl)) (by decide) (fun K hK => ?_)
         have hs22 : w20.cell? ⟨gC, 2, none⟩ = some (u539002) := (blk_cell BK8g.out 2).trans rfl
         have hfs22 := blk_frozen BK8g.out 2
         have hns22_0 := NB535_538.out
         have hns22_1 := NB536_538.out
         have hms22_0 := NB538_535.out
         have hms22_1 := NB538_536.out
         refine skip_ (w1 := ?_) (by rfl) rfl ?_ ?_
         rotate_left
         ·
          go_simp; rfl
         refine hK.out _ _ ?_
         clear hK K
         refine done_ (done_of HT_.out (by kernel_rfl)) ?_
         try go_wp2
         go_roundg k1
         case measure => have := HK1.out; omega
         case rel => exact ⟨(wrap64 (x5_1 + 1)), (y541), (.slice Ao21 y541.length co21), (by first | rfl | (simp; done) | (simp [*]; done)), H', ⟨by have := HK1.out; omega⟩, ⟨by (with_reducible repeat (first | apply Kd.R_alloc | apply Kd.R_drewN | apply Kd.R_drew)); exact Kd.R_mono (Kd.R_far (p := ⟨gC, 2, none⟩) (Kd.R_types HO8l.out BK8g.out (by decide)) (fun _ hk => hk.2) (.slice Ao21 y541.length co21)) (fun _ hk => trivial)⟩, ⟨by (with_reducible repeat (first | refine zN ?_ _ | refine zD ?_ | refine zB ?_ _)); refine blk_far ?_ NB535_538.out _; (with_reducible repeat (first | refine zN ?_ _ | refine zD ?_ | refine zB ?_ _)); exact BK8d.out⟩, ⟨by (with_reducible repeat (first | refine zN ?_ _ | refine zD ?_ | refine zB ?_ _)); refine blk_far ?_ NB536_538.out _; (with_reducible repeat (first | refine zN ?_ _ | refine zD ?_ | refine zB ?_ _)); exact BK8e.out⟩, ⟨by (with_reducible repeat (first | refine zN ?_ _ | refine zD ?_ | refine zB ?_ _)); refine blk_put (cs := #[.int .i64 a0_0, .int .i64 (rd l0_1 0), u539002]) ?_ 2 _ rfl; (with_reducible repeat (first | refine zN ?_ _ | refine zD ?_ | refine zB ?_ _)); exact BK8g.out⟩, ⟨by repeat (first | (with_reducible first | exact HB.out | apply zW | apply zX | apply zY | refine zS ?_ GE8d.out | refine zS ?_ GE8e.out | refine zS ?_ GE8g.out) | exact HB.out)⟩⟩
        ·
         rw [if_neg c15] at H
         exact absurd H (by simp)
       ·
        rw [if_neg c14] at H
        exact absurd H (by simp)
      ·
       rw [if_neg c13] at H
       exact absurd H (by simp)
     ·
      rw [if_neg c11] at H
      exact absurd H (by simp)
    ·
     rw [if_neg c10] at H
     have c10b0 : decide (x5_1 < (l0_1.length : Int)) = false := decide_eq_false c10
     clear c10
     replace H := Option.bind_eq_some_iff.mp H
     obtain ⟨t544, A230, H⟩ := H
     replace H : (some (a0_0, (rd l0_1 0), x539002_1, t544)) = some (r1, r2, r3, r4) := H
     have A23 := zA A230
     clear A230
     simp only [Option.some.injEq, Prod.mk.injEq] at H
     obtain ⟨rfl, rfl, rfl, rfl⟩ := H
     have hnb24 := NB535_536.out
     have hnc24 := NB536_535.out
     have hnb25 := NB535_538.out
     have hnc25 := NB538_535.out
     have hcz26_0 : wr.cell? ⟨gA, 0, none⟩ = some (.int .i64 a0_0) := (blk_cell BK8d.out 0).trans rfl
     have hcz26_1 : wr.cell? ⟨gA, 1, none⟩ = some (.slice (some ad537) l0_1.length c0_1) := (blk_cell BK8d.out 1).trans rfl
     have hfz26_0 := blk_frozen BK8d.out 0
     have hfz26_1 := blk_frozen BK8d.out 1
     try go_wp2
     have n0_ := zA (Kd.R_drew HO_539002.out)
     have n1_ := zA (zD BK8d.out)
     have n2_ := zA (zD BK8e.out)
     have n3_ := zA (zD BK8g.out)
     have n4_ := zA (zY HB.out)
     clear HO_539002; clear BK8d; clear BK8e; clear BK8g; clear HB
     have HO_539002 := n0_
     have BK8d := n1_
     have BK8e := n2_
     have BK8g := n3_
     have HB := n4_
     clear n0_ n1_ n2_ n3_ n4_
     obtain ⟨Ao28, co28, eo28⟩ := Kd.R_slice HO_539002.out
     (first | subst eo28 | (injection eo28 with f1_ f2_ f3_; have f4_ := f1_.symm; have f5_ := f3_.symm; clear f1_ f2_ f3_; subst f4_; subst f5_))
     refine start_ (n := 5) (S := fun w' => w'.cell? ⟨gC, 0, none⟩ = some (.int .i64 a0_0) ∧ w'.cell? ⟨gC, 1, none⟩ = some (.int .i64 (rd l0_1 0)) ∧ w'.cell? ⟨gC, 2, none⟩ = some (.slice Ao28 x539002_1.length co28)) (ds := []) #[false, false, false, false, false] (by kernel_rfl) rfl rfl ⟨(blk_cell BK8g.out 0).trans rfl, (blk_cell BK8g.out 1).trans rfl, (blk_cell BK8g.out 2).trans rfl⟩ (fun hHeld => ?_)
     generalize wr.drew = w27 at HO_539002 BK8d BK8e BK8g HB hHeld ⊢
     refine take_ (i := 0) (N := some 37) (v := ?_) (a' := ?_) #[true, false, false, false, false] rfl rfl (by kernel_rfl) (fun _ _ _ h => h) (Or.inl ⟨by rfl, ?_⟩) hHeld ?_ ?_
     rotate_left
     ·
      rintro w' ⟨s0, s1, s2⟩
      go_simp; with_reducible rfl
     rotate_left
     ·
      simp only [Act.put, z1, z2, z3, i64_w, i32_w]; rfl
     refine take_ (i := 1) (N := some 38) (v := ?_) (a' := ?_) #[true, true, false, false, false] rfl rfl (by kernel_rfl) (fun _ _ _ h => h) (Or.inl ⟨by rfl, ?_⟩) hHeld ?_ ?_
     rotate_left
     ·
      rintro w' ⟨s0, s1, s2⟩
      go_simp; with_reducible rfl
     rotate_left
     ·
      simp only [Act.put, z1, z2, z3, i64_w, i32_w]; rfl
     refine one_ (i := 2) (N := some 39) #[true, true, true, false, false] rfl rfl (by kernel_rfl) (by decide) (fun K hK => ?_)
     refine goes_ Try.func30 (by kernel_rfl) rfl #[.agg #[.int .i64 a0_0, .int .i64 (rd l0_1 0), .slice Ao28 x539002_1.length co28]] (by rfl) rfl rfl (by (try simp only [List.map_toArray, List.map_cons, List.map_nil]); first | done | rfl | (simp only [List.length_drop, List.length_take]; rfl)) ?_
     with_reducible refine (kimberliteref03_Valid.calls k1 a0_0 (rd l0_1 0) _ _ x539002_1 t544 _ ?side1 ?side2 A23.out).mono ?_
     (case side1 => repeat (first | exact (Kd.R_reads' HO_539002.out).2.2 | (with_reducible refine Kd.C_alloc ?_ _) | (with_reducible refine Kd.C_drewN ?_ _) | (with_reducible refine Kd.C_drew ?_)))
     (case side2 => exact (Kd.R_reads' HO_539002.out).2.1)
     rintro e w29 ⟨rfl, hb⟩
     refine ⟨_, rfl, ?_⟩
     have n0_ := zA (Kd.R_below (by (with_reducible repeat (first | apply Kd.R_alloc | apply Kd.R_drewN | apply Kd.R_drew)); exact HO_539002.out) hb)
     have n1_ := zA (blk_below (g := gA) (o := .cells #[.int .i64 a0_0, .slice (some ad537) l0_1.length c0_1] 78 (0, 0)) (by (with_reducible repeat (first | refine zN ?_ _ | refine zD ?_ | refine zB ?_ _)); exact BK8d.out) hb)
     have n2_ := zA (blk_below (g := gB) (o := .cells #[.int .i64 0, .int .i64 0, .slice none 0 0] 24 (0, 0)) (by (with_reducible repeat (first | refine zN ?_ _ | refine zD ?_ | refine zB ?_ _)); exact BK8e.out) hb)
     have n3_ := zA (blk_below (g := gC) (o := .cells #[.int .i64 a0_0, .int .i64 (rd l0_1 0), .slice Ao28 x539002_1.length co28] 24 (0, 0)) (by (with_reducible repeat (first | refine zN ?_ _ | refine zD ?_ | refine zB ?_ _)); exact BK8g.out) hb)
     have n4_ := zA (below_step (by repeat (first | (with_reducible first | exact HB.out | apply zW | apply zX | apply zY | refine zS ?_ GE8d.out | refine zS ?_ GE8e.out | refine zS ?_ GE8g.out) | exact HB.out)) hb)
     clear HO_539002; clear BK8d; clear BK8e; clear BK8g; clear HB
     have HO_539002 := n0_
     have BK8d := n1_
     have BK8e := n2_
     have BK8g := n3_
     have HB := n4_
     clear n0_ n1_ n2_ n3_ n4_
     (try clear hb)
     (try clear hb2)
     (try clear hk)
     (try clear hi)
     refine hK.out _ _ ⟨(blk_cell BK8g.out 0).trans rfl, (blk_cell BK8g.out 1).trans rfl, (blk_cell BK8g.out 2).trans rfl⟩ (fun hHeld => ?_)
     clear hK K
     refine norm_ (a' := ?_) ?_ ?_
     rotate_left
     ·
      show Act.put _ (some 39) _ = _
      simp only [Act.put, z1, z2, z3, i64_w, i32_w]; rfl
     refine one_ (i := 3) (N := none) #[true, true, true, true, false] rfl rfl (by kernel_rfl) (by decide) (fun K hK => ?_)
     have hs30 : w29.cell? ⟨gB, 0, none⟩ = some (.int .i64 0) := (blk_cell BK8e.out 0).trans rfl
     have hfs30 := blk_frozen BK8e.out 0
     have hns30_0 := NB535_536.out
     have hns30_2 := NB538_536.out
     have hms30_0 := NB536_535.out
     have hms30_2 := NB536_538.out
     have hs31 : w29.cell? ⟨gB, 1, none⟩ = some (.int .i64 0) := (blk_cell BK8e.out 1).trans rfl
     have hfs31 := blk_frozen BK8e.out 1
     have hns31_0 := NB535_536.out
     have hns31_2 := NB538_536.out
     have hms31_0 := NB536_535.out
     have hms31_2 := NB536_538.out
     have hs32 : w29.cell? ⟨gB, 2, none⟩ = some (.slice none 0 0) := (blk_cell BK8e.out 2).trans rfl
     have hfs32 := blk_frozen BK8e.out 2
     have hns32_0 := NB535_536.out
     have hns32_2 := NB538_536.out
     have hms32_0 := NB536_535.out
     have hms32_2 := NB536_538.out
     refine skip_ (w1 := ?_) (by rfl) rfl ?_ ?_
     rotate_left
     ·
      go_simp; rfl
     refine hK.out _ _ ⟨((cell_far (p := ⟨gB, _, none⟩) NB538_536.out _).trans (((cell_far (p := ⟨gB, _, none⟩) NB538_536.out _).trans (((cell_far (p := ⟨gB, _, none⟩) NB538_536.out _).trans (hHeld.1)))))), ((cell_far (p := ⟨gB, _, none⟩) NB538_536.out _).trans (((cell_far (p := ⟨gB, _, none⟩) NB538_536.out _).trans (((cell_far (p := ⟨gB, _, none⟩) NB538_536.out _).trans (hHeld.2.1)))))), ((cell_far (p := ⟨gB, _, none⟩) NB538_536.out _).trans (((cell_far (p := ⟨gB, _, none⟩) NB538_536.out _).trans (((cell_far (p := ⟨gB, _, none⟩) NB538_536.out _).trans (hHeld.2.2))))))⟩ (fun hHeld => ?_)
     clear hK K
     refine pure_ (i := 4) (N := some 3) (v := ?_) (a' := ?_) #[true, true, true, true, true] rfl rfl (by kernel_rfl) (fun _ _ _ h => h) (Or.inl ⟨by rfl, ?_⟩) ?_ ?_
     rotate_left
     ·
      intro w'; go_simp; with_reducible rfl
     rotate_left
     ·
      simp only [Act.put, z1, z2, z3, i64_w, i32_w]; rfl
     refine done_ (by kernel_rfl) ?_
     try go_wp2
     refine bodyPost_ret (results_ct rfl _ _ gB 24 #[.int .i64 a0_0, .int .i64 (rd l0_1 0), .slice Ao28 x539002_1.length co28] (0, 0) _ rfl (by (with_reducible repeat (first | refine zN ?_ _ | refine zD ?_ | refine zB ?_ _)); refine blk_put (cs := #[.int .i64 a0_0, .int .i64 (rd l0_1 0), .slice none 0 0]) ?_ 2 _ rfl; (with_reducible repeat (first | refine zN ?_ _ | refine zD ?_ | refine zB ?_ _)); refine blk_put (cs := #[.int .i64 a0_0, .int .i64 0, .slice none 0 0]) ?_ 1 _ rfl; (with_reducible repeat (first | refine zN ?_ _ | refine zD ?_ | refine zB ?_ _)); refine blk_put (cs := #[.int .i64 0, .int .i64 0, .slice none 0 0]) ?_ 0 _ rfl; (with_reducible repeat (first | refine zN ?_ _ | refine zD ?_ | refine zB ?_ _)); exact BK8e.out) Try.underlying24 rfl (by kernel_rfl)) rfl ?_
     exact ⟨_, by first | rfl | (simp [errW_none, errW_some] <;> rfl) | (simp [*, errW_none, errW_some] <;> rfl), by (with_reducible repeat (first | apply Kd.R_alloc | apply Kd.R_drewN | apply Kd.R_drew)); exact Kd.R_mono (Kd.R_far (p := ⟨gB, 2, none⟩) (Kd.R_far (p := ⟨gB, 1, none⟩) (Kd.R_far (p := ⟨gB, 0, none⟩) (Kd.R_types HO_539002.out BK8e.out (by decide)) (fun _ hk => hk.2) (.int .i64 a0_0)) (fun _ hk => hk.2) (.int .i64 (rd l0_1 0))) (fun _ hk => hk.2) (.slice Ao28 x539002_1.length co28)) (fun _ hk => trivial), by repeat (first | (with_reducible first | exact HB.out | apply zW | apply zX | apply zY | refine zS ?_ GE8d.out | refine zS ?_ GE8e.out | refine zS ?_ GE8g.out) | exact HB.out)⟩
 ·
  rw [if_neg c2] at H
  exact absurd H (by simp)
end Go.Proofs.Ytfeeaipbmpmpgaa.PX

namespace Go.Proofs.Ytfeeaipbmpmpgaa.PX
open Go.RowKit Go.Proofs.YtfeeaipbmpmpgaaW.PrintWords Go.Proofs.YtfeeaipbmpmpgaaW.PrintLast Go.Proofs.YtfeeaipbmpmpgaaW.PrintMore
attribute [local go_sem] max2_int min2_int max_two min_two max_three min_three max_four min_four   -- for this text's walks alone
set_option linter.unusedVariables false
set_option linter.unusedSimpArgs false
/-! ### kimberliteref03_ranged: function 72 -/
def kimberliteref03_ranged.f (k : Nat) (a0_0 : Int) (l0_1 : List Int) : Option (Int × Int × List Int × Int) := (kimberliteref03_In.f k a0_0 l0_1).bind fun bt547 => (if bt547.2.2.2 = true then (some (bt547.1, bt547.2.1, bt547.2.2.1, 0)) else (some (0, 0, ([] : List Int), 4)))
theorem kimberliteref03_ranged.mono : ∀ a0 a1 k, LeO (kimberliteref03_ranged.f k a0 a1) (kimberliteref03_ranged.f (k + 1) a0 a1) := by
 intro a0 a1 k
 unfold kimberliteref03_ranged.f
 repeat' first
   | (with_reducible exact kimberliteref03_In.mono _ _ _)
   | (with_reducible exact LeO.refl _)
   | (with_reducible exact LeO.none _)
   | (with_reducible refine LeO.ite ?_ ?_)
   | (with_reducible refine LeO.bind ?_ (fun _ => ?_))
   | exact kimberliteref03_In.mono _ _ _
   | exact LeO.none _
   | refine LeO.ite ?_ ?_
   | refine LeO.bind ?_ (fun _ => ?_)
set_option maxHeartbeats 8000000 in
set_option maxRecDepth 100000 in
theorem kimberliteref03_ranged.calls (k : Nat) (a0_0 : Int) (A0_1 : Option Addr) (c0_1 : Nat) (l0_1 : List Int) (r1 : Int) (r2 : Int) (r3 : List Int) (r4 : Int) (w : World) (hr0_1 : Kd.C (Kd.int .i64) w A0_1 l0_1.length l0_1) (hc0_1 : l0_1.length ≤ c0_1) (h : kimberliteref03_ranged.f k a0_0 l0_1 = some (r1, r2, r3, r4)) :
  Calls Try.prog 72 #[.agg #[.int .i64 a0_0, .slice A0_1 l0_1.length c0_1]] w fun e w' => ∃ v2_ : Value, e = .returned (.tuple #[.agg #[.int .i64 r1, .int .i64 r2, v2_], .int .i64 r4]) ∧ Kd.R (Kd.int .i64) 3 w' w.heap.size (fun _ => True) v2_ r3 ∧ Below w.heap.size w w' := by
 have hu78 := Try.underlying78
 have hu24 := Try.underlying24
 have HR0_1 := zA hr0_1
 have HC0_1 := zA hc0_1
 clear hr0_1 hc0_1
 have HB := zA (Below.refl w.heap.size w)
 have H : ((kimberliteref03_In.f k a0_0 l0_1).bind fun bt547 => (if bt547.2.2.2 = true then (some (bt547.1, bt547.2.1, bt547.2.2.1, 0)) else (some (0, 0, ([] : List Int), 4)))) = some (r1, r2, r3, r4) := h
 clear h
 replace H := Option.bind_eq_some_iff.mp H
 obtain ⟨⟨t547, t548, t549, t552⟩, A20, H⟩ := H
 replace H : (if t552 = true then (some (t547, t548, t549, 0)) else (some (0, 0, ([] : List Int), 4))) = some (r1, r2, r3, r4) := H
 have A2 := zA A20
 clear A20
 by_cases c3 : t552 = true
 ·
  subst c3
  have H1 : (some (t547, t548, t549, 0)) = some (r1, r2, r3, r4) := by rw [if_pos rfl] at H; exact H
  clear H
  have H := H1
  clear H1
  simp only [Option.some.injEq, Prod.mk.injEq] at H
  obtain ⟨rfl, rfl, rfl, rfl⟩ := H
  go_enter Try.func72, Try.ntmps72
  go_wp2_with (first | ((with_reducible refine gate_dst (N := 1) rfl ?_); refine box_event ?hg (N := 1) ?hd (cs := #[.int .i64 a0_0, .slice A0_1 l0_1.length c0_1]) (t := 78) ?hr ?_; (case hd => rfl); (case hg => rfl); (case hr => first | (go_simp; done) | (go_simp; rfl)); intro gA hg w4 hbox hb; have n0_ := zA (below_step (by repeat (first | (with_reducible first | exact HB.out | apply zW | apply zX | apply zY) | exact HB.out)) hb); have n1_ := zA (hbox); have n2_ := zA ((by rw [hg]; exact (below_size (by repeat (first | (with_reducible first | exact HB.out | apply zW | apply zX | apply zY) | exact HB.out))) : w.heap.size ≤ gA)); have n3_ := zA ((by rw [hg]; exact (below_size (by repeat (first | (with_reducible first | exact HB.out | apply zW | apply zX | apply zY) | exact HB.out))) : w.heap.size ≤ gA)); clear HB; have HB := n0_; have BK8n := n1_; have GW8n := n2_; have GE8n := n3_; clear n0_ n1_ n2_ n3_; clear hb hbox hg) | ((with_reducible refine gate_dst (N := 2) rfl ?_); refine box_event ?hg (N := 2) ?hd (cs := #[.int .i64 0, .int .i64 0, .slice none 0 0]) (t := 24) ?hr ?_; (case hd => rfl); (case hg => rfl); (case hr => first | (go_simp; done) | (go_simp; rfl)); intro gB hg w5 hbox hb; have n0_ := zA (blk_below (g := gA) (o := .cells #[.int .i64 a0_0, .slice A0_1 l0_1.length c0_1] 78 (0, 0)) (by (with_reducible repeat (first | refine zN ?_ _ | refine zD ?_ | refine zB ?_ _)); exact BK8n.out) hb); have n1_ := zA (below_step (by repeat (first | (with_reducible first | exact HB.out | apply zW | apply zX | apply zY | refine zS ?_ GE8n.out) | exact HB.out)) hb); have n2_ := zA (hbox); have n3_ := zA ((by rw [hg]; exact (below_size (by repeat (first | (with_reducible first | exact HB.out | apply zW | apply zX | apply zY | refine zS ?_ GE8n.out) | exact HB.out))) : w.heap.size ≤ gB)); have n4_ := zA ((by rw [hg]; exact (below_size (by repeat (first | (with_reducible first | exact HB.out | apply zW | apply zX | apply zY | refine zS ?_ GE8n.out) | exact HB.out))) : w.heap.size ≤ gB)); have n5_ := zA ((by rw [hg]; exact Nat.ne_of_lt (blk_lt (g := gA) (o := .cells #[.int .i64 a0_0, .slice A0_1 l0_1.length c0_1] 78 (0, 0)) (by (with_reducible repeat (first | refine zN ?_ _ | refine zD ?_ | refine zB ?_ _)); exact BK8n.out)) : gA ≠ gB)); have n6_ := zA ((by rw [hg]; exact Nat.ne_of_gt (blk_lt (g := gA) (o := .cells #[.int .i64 a0_0, .slice A0_1 l0_1.length c0_1] 78 (0, 0)) (by (with_reducible repeat (first | refine zN ?_ _ | refine zD ?_ | refine zB ?_ _)); exact BK8n.out)) : gB ≠ gA)); clear BK8n; clear HB; have BK8n := n0_; have HB := n1_; have BK8o := n2_; have GW8o := n3_; have GE8o := n4_; have NB545_546 := n5_; have NB546_545 := n6_; clear n0_ n1_ n2_ n3_ n4_ n5_ n6_; clear hb hbox hg; have hnb6 := NB545_546.out; have hnc6 := NB546_545.out; have hcz7_0 : w5.cell? ⟨gA, 0, none⟩ = some (.int .i64 a0_0) := (blk_cell BK8n.out 0).trans rfl; have hcz7_1 : w5.cell? ⟨gA, 1, none⟩ = some (.slice A0_1 l0_1.length c0_1) := (blk_cell BK8n.out 1).trans rfl; have hfz7_0 := blk_frozen BK8n.out 0; have hfz7_1 := blk_frozen BK8n.out 1) | ((with_reducible refine gate_callee (f := 85) rfl ?_); refine goesL_ (some 8) rfl rfl Try.func85 (by kernel_rfl) rfl #[.agg #[.int .i64 a0_0, .slice A0_1 l0_1.length c0_1]] rfl (by (try simp only [List.map_toArray, List.map_cons, List.map_nil]); first | done | rfl | (simp only [List.length_drop, List.length_take]; rfl)) ?_; (with_reducible refine (kimberliteref03_In.calls k a0_0 _ _ l0_1 t547 t548 t549 true _ ?side1 ?side2 A2.out).mono ?_); (case side1 => repeat (first | exact (Kd.C_below HR0_1.out HB.out) | (with_reducible refine Kd.C_alloc ?_ _) | (with_reducible refine Kd.C_drewN ?_ _) | (with_reducible refine Kd.C_drew ?_))); (case side2 => exact HC0_1.out); rintro e w8 ⟨v550, rfl, ho0, hb⟩; refine ⟨_, rfl, ?_⟩; have n0_ := zA (Kd.R_lower ho0 (below_size (by repeat (first | (with_reducible first | exact HB.out | apply zW | apply zX | apply zY | refine zS ?_ GE8n.out | refine zS ?_ GE8o.out) | exact HB.out)))); have n1_ := zA (blk_below (g := gA) (o := .cells #[.int .i64 a0_0, .slice A0_1 l0_1.length c0_1] 78 (0, 0)) (by (with_reducible repeat (first | refine zN ?_ _ | refine zD ?_ | refine zB ?_ _)); exact BK8n.out) hb); have n2_ := zA (blk_below (g := gB) (o := .cells #[.int .i64 0, .int .i64 0, .slice none 0 0] 24 (0, 0)) (by (with_reducible repeat (first | refine zN ?_ _ | refine zD ?_ | refine zB ?_ _)); exact BK8o.out) hb); have n3_ := zA (below_step (by repeat (first | (with_reducible first | exact HB.out | apply zW | apply zX | apply zY | refine zS ?_ GE8n.out | refine zS ?_ GE8o.out) | exact HB.out)) hb); clear BK8n; clear BK8o; clear HB; have HO8t := n0_; have BK8n := n1_; have BK8o := n2_; have HB := n3_; clear n0_ n1_ n2_ n3_; (try clear hb); (try clear hb2); (try clear hk); (try clear hi); (try clear ho0)) | ((with_reducible refine gate_dst (N := 4) rfl ?_); refine box_event ?hg (N := 4) ?hd (cs := #[.int .i64 0, .int .i64 0, .slice none 0 0]) (t := 24) ?hr ?_; (case hd => rfl); (case hg => rfl); (case hr => first | (go_simp; done) | (go_simp; rfl)); intro gC hg w9 hbox hb; have n0_ := zA (Kd.R_below (by (with_reducible repeat (first | apply Kd.R_alloc | apply Kd.R_drewN | apply Kd.R_drew)); exact HO8t.out) hb); have n1_ := zA (blk_below (g := gA) (o := .cells #[.int .i64 a0_0, .slice A0_1 l0_1.length c0_1] 78 (0, 0)) (by (with_reducible repeat (first | refine zN ?_ _ | refine zD ?_ | refine zB ?_ _)); exact BK8n.out) hb); have n2_ := zA (blk_below (g := gB) (o := .cells #[.int .i64 0, .int .i64 0, .slice none 0 0] 24 (0, 0)) (by (with_reducible repeat (first | refine zN ?_ _ | refine zD ?_ | refine zB ?_ _)); exact BK8o.out) hb); have n3_ := zA (below_step (by repeat (first | (with_reducible first | exact HB.out | apply zW | apply zX | apply zY | refine zS ?_ GE8n.out | refine zS ?_ GE8o.out) | exact HB.out)) hb); have n4_ := zA (hbox); have n5_ := zA ((by rw [hg]; exact (below_size (by repeat (first | (with_reducible first | exact HB.out | apply zW | apply zX | apply zY | refine zS ?_ GE8n.out | refine zS ?_ GE8o.out) | exact HB.out))) : w.heap.size ≤ gC)); have n6_ := zA ((by rw [hg]; exact (below_size (by repeat (first | (with_reducible first | exact HB.out | apply zW | apply zX | apply zY | refine zS ?_ GE8n.out | refine zS ?_ GE8o.out) | exact HB.out))) : w.heap.size ≤ gC)); have n7_ := zA ((by rw [hg]; exact Nat.ne_of_lt (blk_lt (g := gA) (o := .cells #[.int .i64 a0_0, .slice A0_1 l0_1.length c0_1] 78 (0, 0)) (by (with_reducible repeat (first | refine zN ?_ _ | refine zD ?_ | refine zB ?_ _)); exact BK8n.out)) : gA ≠ gC)); have n8_ := zA ((by rw [hg]; exact Nat.ne_of_gt (blk_lt (g := gA) (o := .cells #[.int .i64 a0_0, .slice A0_1 l0_1.length c0_1] 78 (0, 0)) (by (with_reducible repeat (first | refine zN ?_ _ | refine zD ?_ | refine zB ?_ _)); exact BK8n.out)) : gC ≠ gA)); have n9_ := zA ((by rw [hg]; exact Nat.ne_of_lt (blk_lt (g := gB) (o := .cells #[.int .i64 0, .int .i64 0, .slice none 0 0] 24 (0, 0)) (by (with_reducible repeat (first | refine zN ?_ _ | refine zD ?_ | refine zB ?_ _)); exact BK8o.out)) : gB ≠ gC)); have n10_ := zA ((by rw [hg]; exact Nat.ne_of_gt (blk_lt (g := gB) (o := .cells #[.int .i64 0, .int .i64 0, .slice none 0 0] 24 (0, 0)) (by (with_reducible repeat (first | refine zN ?_ _ | refine zD ?_ | refine zB ?_ _)); exact BK8o.out)) : gC ≠ gB)); clear HO8t; clear BK8n; clear BK8o; clear HB; have HO8t := n0_; have BK8n := n1_; have BK8o := n2_; have HB := n3_; have BK8v := n4_; have GW8v := n5_; have GE8v := n6_; have NB545_553 := n7_; have NB553_545 := n8_; have NB546_553 := n9_; have NB553_546 := n10_; clear n0_ n1_ n2_ n3_ n4_ n5_ n6_ n7_ n8_ n9_ n10_; clear hb hbox hg; have hnb10 := NB553_545.out; have hnc10 := NB545_553.out; have hnb11 := NB553_546.out; have hnc11 := NB546_553.out; have hcz12_0 : w9.cell? ⟨gC, 0, none⟩ = some (.int .i64 0) := (blk_cell BK8v.out 0).trans rfl; have hcz12_1 : w9.cell? ⟨gC, 1, none⟩ = some (.int .i64 0) := (blk_cell BK8v.out 1).trans rfl; have hcz12_2 : w9.cell? ⟨gC, 2, none⟩ = some (.slice none 0 0) := (blk_cell BK8v.out 2).trans rfl; have hfz12_0 := blk_frozen BK8v.out 0; have hfz12_1 := blk_frozen BK8v.out 1; have hfz12_2 := blk_frozen BK8v.out 2; obtain ⟨Ao13, co13, eo13⟩ := Kd.R_slice HO8t.out; subst eo13; have hcz14_0 : w9.cell? ⟨gB, 0, none⟩ = some (.int .i64 0) := (blk_cell BK8o.out 0).trans rfl; have hcz14_1 : w9.cell? ⟨gB, 1, none⟩ = some (.int .i64 0) := (blk_cell BK8o.out 1).trans rfl; have hcz14_2 : w9.cell? ⟨gB, 2, none⟩ = some (.slice none 0 0) := (blk_cell BK8o.out 2).trans rfl; have hfz14_0 := blk_frozen BK8o.out 0; have hfz14_1 := blk_frozen BK8o.out 1; have hfz14_2 := blk_frozen BK8o.out 2))
  refine bodyPost_ret (results_ct rfl _ _ gB 24 #[.int .i64 t547, .int .i64 t548, .slice Ao13 t549.length co13] (0, 0) _ rfl (by (with_reducible repeat (first | refine zN ?_ _ | refine zD ?_ | refine zB ?_ _)); refine blk_put (cs := #[.int .i64 t547, .int .i64 t548, .slice none 0 0]) ?_ 2 _ rfl; (with_reducible repeat (first | refine zN ?_ _ | refine zD ?_ | refine zB ?_ _)); refine blk_put (cs := #[.int .i64 t547, .int .i64 0, .slice none 0 0]) ?_ 1 _ rfl; (with_reducible repeat (first | refine zN ?_ _ | refine zD ?_ | refine zB ?_ _)); refine blk_put (cs := #[.int .i64 0, .int .i64 0, .slice none 0 0]) ?_ 0 _ rfl; (with_reducible repeat (first | refine zN ?_ _ | refine zD ?_ | refine zB ?_ _)); refine blk_far ?_ NB546_553.out _; (with_reducible repeat (first | refine zN ?_ _ | refine zD ?_ | refine zB ?_ _)); refine blk_far ?_ NB546_553.out _; (with_reducible repeat (first | refine zN ?_ _ | refine zD ?_ | refine zB ?_ _)); refine blk_far ?_ NB546_553.out _; (with_reducible repeat (first | refine zN ?_ _ | refine zD ?_ | refine zB ?_ _)); exact BK8o.out) Try.underlying24 rfl (by kernel_rfl)) rfl ?_
  exact ⟨_, by first | rfl | (simp [errW_none, errW_some] <;> rfl) | (simp [*, errW_none, errW_some] <;> rfl), by (with_reducible repeat (first | apply Kd.R_alloc | apply Kd.R_drewN | apply Kd.R_drew)); exact Kd.R_mono (Kd.R_far (p := ⟨gB, 2, none⟩) (Kd.R_far (p := ⟨gB, 1, none⟩) (Kd.R_far (p := ⟨gB, 0, none⟩) (Kd.R_far (p := ⟨gC, 2, none⟩) (Kd.R_far (p := ⟨gC, 1, none⟩) (Kd.R_far (p := ⟨gC, 0, none⟩) (Kd.R_types (Kd.R_types HO8t.out BK8v.out (by decide)) BK8o.out (by decide)) (fun _ hk => hk.1.2) (.int .i64 t547)) (fun _ hk => hk.1.2) (.int .i64 t548)) (fun _ hk => hk.1.2) (.slice Ao13 t549.length co13)) (fun _ hk => hk.2) (.int .i64 t547)) (fun _ hk => hk.2) (.int .i64 t548)) (fun _ hk => hk.2) (.slice Ao13 t549.length co13)) (fun _ hk => trivial), by repeat (first | (with_reducible first | exact HB.out | apply zW | apply zX | apply zY | refine zS ?_ GE8n.out | refine zS ?_ GE8o.out | refine zS ?_ GE8v.out) | exact HB.out)⟩
 ·
  replace c3 := Bool.eq_false_iff.mpr c3
  subst c3
  have H1 : (some (0, 0, ([] : List Int), 4)) = some (r1, r2, r3, r4) := by rw [if_neg (show ¬ (false = true) by decide)] at H; exact H
  clear H
  have H := H1
  clear H1
  simp only [Option.some.injEq, Prod.mk.injEq] at H
  obtain ⟨rfl, rfl, rfl, rfl⟩ := H
  go_enter Try.func72, Try.ntmps72
  go_wp2_with (first | ((with_reducible refine gate_dst (N := 1) rfl ?_); refine box_event ?hg (N := 1) ?hd (cs := #[.int .i64 a0_0, .slice A0_1 l0_1.length c0_1]) (t := 78) ?hr ?_; (case hd => rfl); (case hg => rfl); (case hr => first | (go_simp; done) | (go_simp; rfl)); intro gA hg w15 hbox hb; have n0_ := zA (below_step (by repeat (first | (with_reducible first | exact HB.out | apply zW | apply zX | apply zY) | exact HB.out)) hb); have n1_ := zA (hbox); have n2_ := zA ((by rw [hg]; exact (below_size (by repeat (first | (with_reducible first | exact HB.out | apply zW | apply zX | apply zY) | exact HB.out))) : w.heap.size ≤ gA)); have n3_ := zA ((by rw [hg]; exact (below_size (by repeat (first | (with_reducible first | exact HB.out | apply zW | apply zX | apply zY) | exact HB.out))) : w.heap.size ≤ gA)); clear HB; have HB := n0_; have BK8n := n1_; have GW8n := n2_; have GE8n := n3_; clear n0_ n1_ n2_ n3_; clear hb hbox hg) | ((with_reducible refine gate_dst (N := 2) rfl ?_); refine box_event ?hg (N := 2) ?hd (cs := #[.int .i64 0, .int .i64 0, .slice none 0 0]) (t := 24) ?hr ?_; (case hd => rfl); (case hg => rfl); (case hr => first | (go_simp; done) | (go_simp; rfl)); intro gB hg w16 hbox hb; have n0_ := zA (blk_below (g := gA) (o := .cells #[.int .i64 a0_0, .slice A0_1 l0_1.length c0_1] 78 (0, 0)) (by (with_reducible repeat (first | refine zN ?_ _ | refine zD ?_ | refine zB ?_ _)); exact BK8n.out) hb); have n1_ := zA (below_step (by repeat (first | (with_reducible first | exact HB.out | apply zW | apply zX | apply zY | refine zS ?_ GE8n.out) | exact HB.out)) hb); have n2_ := zA (hbox); have n3_ := zA ((by rw [hg]; exact (below_size (by repeat (first | (with_reducible first | exact HB.out | apply zW | apply zX | apply zY | refine zS ?_ GE8n.out) | exact HB.out))) : w.heap.size ≤ gB)); have n4_ := zA ((by rw [hg]; exact (below_size (by repeat (first | (with_reducible first | exact HB.out | apply zW | apply zX | apply zY | refine zS ?_ GE8n.out) | exact HB.out))) : w.heap.size ≤ gB)); have n5_ := zA ((by rw [hg]; exact Nat.ne_of_lt (blk_lt (g := gA) (o := .cells #[.int .i64 a0_0, .slice A0_1 l0_1.length c0_1] 78 (0, 0)) (by (with_reducible repeat (first | refine zN ?_ _ | refine zD ?_ | refine zB ?_ _)); exact BK8n.out)) : gA ≠ gB)); have n6_ := zA ((by rw [hg]; exact Nat.ne_of_gt (blk_lt (g := gA) (o := .cells #[.int .i64 a0_0, .slice A0_1 l0_1.length c0_1] 78 (0, 0)) (by (with_reducible repeat (first | refine zN ?_ _ | refine zD ?_ | refine zB ?_ _)); exact BK8n.out)) : gB ≠ gA)); clear BK8n; clear HB; have BK8n := n0_; have HB := n1_; have BK8o := n2_; have GW8o := n3_; have GE8o := n4_; have NB545_546 := n5_; have NB546_545 := n6_; clear n0_ n1_ n2_ n3_ n4_ n5_ n6_; clear hb hbox hg; have hnb17 := NB545_546.out; have hnc17 := NB546_545.out; have hcz18_0 : w16.cell? ⟨gA, 0, none⟩ = some (.int .i64 a0_0) := (blk_cell BK8n.out 0).trans rfl; have hcz18_1 : w16.cell? ⟨gA, 1, none⟩ = some (.slice A0_1 l0_1.length c0_1) := (blk_cell BK8n.out 1).trans rfl; have hfz18_0 := blk_frozen BK8n.out 0; have hfz18_1 := blk_frozen BK8n.out 1) | ((with_reducible refine gate_callee (f := 85) rfl ?_); refine goesL_ (some 8) rfl rfl Try.func85 (by kernel_rfl) rfl #[.agg #[.int .i64 a0_0, .slice A0_1 l0_1.length c0_1]] rfl (by (try simp only [List.map_toArray, List.map_cons, List.map_nil]); first | done | rfl | (simp only [List.length_drop, List.length_take]; rfl)) ?_; (with_reducible refine (kimberliteref03_In.calls k a0_0 _ _ l0_1 t547 t548 t549 false _ ?side1 ?side2 A2.out).mono ?_); (case side1 => repeat (first | exact (Kd.C_below HR0_1.out HB.out) | (with_reducible refine Kd.C_alloc ?_ _) | (with_reducible refine Kd.C_drewN ?_ _) | (with_reducible refine Kd.C_drew ?_))); (case side2 => exact HC0_1.out); rintro e w19 ⟨v550, rfl, ho0, hb⟩; refine ⟨_, rfl, ?_⟩; have n0_ := zA (Kd.R_lower ho0 (below_size (by repeat (first | (with_reducible first | exact HB.out | apply zW | apply zX | apply zY | refine zS ?_ GE8n.out | refine zS ?_ GE8o.out) | exact HB.out)))); have n1_ := zA (blk_below (g := gA) (o := .cells #[.int .i64 a0_0, .slice A0_1 l0_1.length c0_1] 78 (0, 0)) (by (with_reducible repeat (first | refine zN ?_ _ | refine zD ?_ | refine zB ?_ _)); exact BK8n.out) hb); have n2_ := zA (blk_below (g := gB) (o := .cells #[.int .i64 0, .int .i64 0, .slice none 0 0] 24 (0, 0)) (by (with_reducible repeat (first | refine zN ?_ _ | refine zD ?_ | refine zB ?_ _)); exact BK8o.out) hb); have n3_ := zA (below_step (by repeat (first | (with_reducible first | exact HB.out | apply zW | apply zX | apply zY | refine zS ?_ GE8n.out | refine zS ?_ GE8o.out) | exact HB.out)) hb); clear BK8n; clear BK8o; clear HB; have HO8t := n0_; have BK8n := n1_; have BK8o := n2_; have HB := n3_; clear n0_ n1_ n2_ n3_; (try clear hb); (try clear hb2); (try clear hk); (try clear hi); (try clear ho0)) | ((with_reducible refine gate_dst (N := 4) rfl ?_); refine box_event ?hg (N := 4) ?hd (cs := #[.int .i64 0, .int .i64 0, .slice none 0 0]) (t := 24) ?hr ?_; (case hd => rfl); (case hg => rfl); (case hr => first | (go_simp; done) | (go_simp; rfl)); intro gC hg w20 hbox hb; have n0_ := zA (Kd.R_below (by (with_reducible repeat (first | apply Kd.R_alloc | apply Kd.R_drewN | apply Kd.R_drew)); exact HO8t.out) hb); have n1_ := zA (blk_below (g := gA) (o := .cells #[.int .i64 a0_0, .slice A0_1 l0_1.length c0_1] 78 (0, 0)) (by (with_reducible repeat (first | refine zN ?_ _ | refine zD ?_ | refine zB ?_ _)); exact BK8n.out) hb); have n2_ := zA (blk_below (g := gB) (o := .cells #[.int .i64 0, .int .i64 0, .slice none 0 0] 24 (0, 0)) (by (with_reducible repeat (first | refine zN ?_ _ | refine zD ?_ | refine zB ?_ _)); exact BK8o.out) hb); have n3_ := zA (below_step (by repeat (first | (with_reducible first | exact HB.out | apply zW | apply zX | apply zY | refine zS ?_ GE8n.out | refine zS ?_ GE8o.out) | exact HB.out)) hb); have n4_ := zA (hbox); have n5_ := zA ((by rw [hg]; exact (below_size (by repeat (first | (with_reducible first | exact HB.out | apply zW | apply zX | apply zY | refine zS ?_ GE8n.out | refine zS ?_ GE8o.out) | exact HB.out))) : w.heap.size ≤ gC)); have n6_ := zA ((by rw [hg]; exact (below_size (by repeat (first | (with_reducible first | exact HB.out | apply zW | apply zX | apply zY | refine zS ?_ GE8n.out | refine zS ?_ GE8o.out) | exact HB.out))) : w.heap.size ≤ gC)); have n7_ := zA ((by rw [hg]; exact Nat.ne_of_lt (blk_lt (g := gA) (o := .cells #[.int .i64 a0_0, .slice A0_1 l0_1.length c0_1] 78 (0, 0)) (by (with_reducible repeat (first | refine zN ?_ _ | refine zD ?_ | refine zB ?_ _)); exact BK8n.out)) : gA ≠ gC)); have n8_ := zA ((by rw [hg]; exact Nat.ne_of_gt (blk_lt (g := gA) (o := .cells #[.int .i64 a0_0, .slice A0_1 l0_1.length c0_1] 78 (0, 0)) (by (with_reducible repeat (first | refine zN ?_ _ | refine zD ?_ | refine zB ?_ _)); exact BK8n.out)) : gC ≠ gA)); have n9_ := zA ((by rw [hg]; exact Nat.ne_of_lt (blk_lt (g := gB) (o := .cells #[.int .i64 0, .int .i64 0, .slice none 0 0] 24 (0, 0)) (by (with_reducible repeat (first | refine zN ?_ _ | refine zD ?_ | refine zB ?_ _)); exact BK8o.out)) : gB ≠ gC)); have n10_ := zA ((by rw [hg]; exact Nat.ne_of_gt (blk_lt (g := gB) (o := .cells #[.int .i64 0, .int .i64 0, .slice none 0 0] 24 (0, 0)) (by (with_reducible repeat (first | refine zN ?_ _ | refine zD ?_ | refine zB ?_ _)); exact BK8o.out)) : gC ≠ gB)); clear HO8t; clear BK8n; clear BK8o; clear HB; have HO8t := n0_; have BK8n := n1_; have BK8o := n2_; have HB := n3_; have BK8v := n4_; have GW8v := n5_; have GE8v := n6_; have NB545_553 := n7_; have NB553_545 := n8_; have NB546_553 := n9_; have NB553_546 := n10_; clear n0_ n1_ n2_ n3_ n4_ n5_ n6_ n7_ n8_ n9_ n10_; clear hb hbox hg; have hnb21 := NB553_545.out; have hnc21 := NB545_553.out; have hnb22 := NB553_546.out; have hnc22 := NB546_553.out; have hcz23_0 : w20.cell? ⟨gC, 0, none⟩ = some (.int .i64 0) := (blk_cell BK8v.out 0).trans rfl; have hcz23_1 : w20.cell? ⟨gC, 1, none⟩ = some (.int .i64 0) := (blk_cell BK8v.out 1).trans rfl; have hcz23_2 : w20.cell? ⟨gC, 2, none⟩ = some (.slice none 0 0) := (blk_cell BK8v.out 2).trans rfl; have hfz23_0 := blk_frozen BK8v.out 0; have hfz23_1 := blk_frozen BK8v.out 1; have hfz23_2 := blk_frozen BK8v.out 2; obtain ⟨Ao24, co24, eo24⟩ := Kd.R_slice HO8t.out; subst eo24; have hcz25_0 : w20.cell? ⟨gB, 0, none⟩ = some (.int .i64 0) := (blk_cell BK8o.out 0).trans rfl; have hcz25_1 : w20.cell? ⟨gB, 1, none⟩ = some (.int .i64 0) := (blk_cell BK8o.out 1).trans rfl; have hcz25_2 : w20.cell? ⟨gB, 2, none⟩ = some (.slice none 0 0) := (blk_cell BK8o.out 2).trans rfl; have hfz25_0 := blk_frozen BK8o.out 0; have hfz25_1 := blk_frozen BK8o.out 1; have hfz25_2 := blk_frozen BK8o.out 2))
  refine bodyPost_ret (results_ct rfl _ _ gB 24 #[.int .i64 0, .int .i64 0, .slice none 0 0] (0, 0) _ rfl (by (with_reducible repeat (first | refine zN ?_ _ | refine zD ?_ | refine zB ?_ _)); refine blk_put (cs := #[.int .i64 0, .int .i64 0, .slice none 0 0]) ?_ 2 _ rfl; (with_reducible repeat (first | refine zN ?_ _ | refine zD ?_ | refine zB ?_ _)); refine blk_put (cs := #[.int .i64 0, .int .i64 0, .slice none 0 0]) ?_ 1 _ rfl; (with_reducible repeat (first | refine zN ?_ _ | refine zD ?_ | refine zB ?_ _)); refine blk_put (cs := #[.int .i64 0, .int .i64 0, .slice none 0 0]) ?_ 0 _ rfl; (with_reducible repeat (first | refine zN ?_ _ | refine zD ?_ | refine zB ?_ _)); refine blk_far ?_ NB546_553.out _; (with_reducible repeat (first | refine zN ?_ _ | refine zD ?_ | refine zB ?_ _)); refine blk_far ?_ NB546_553.out _; (with_reducible repeat (first | refine zN ?_ _ | refine zD ?_ | refine zB ?_ _)); refine blk_far ?_ NB546_553.out _; (with_reducible repeat (first | refine zN ?_ _ | refine zD ?_ | refine zB ?_ _)); exact BK8o.out) Try.underlying24 rfl (by kernel_rfl)) rfl ?_
  exact ⟨_, by first | rfl | (simp [errW_none, errW_some] <;> rfl) | (simp [*, errW_none, errW_some] <;> rfl), by first | exact Kd.R_nil _ _ _ _ _ | exact Kd.N_nil _ _ _ _ _ | exact Kd.V_nil _ _ _ _ _ | exact Kd.Q_nil _ _ _ _ _ | exact Kd.S_nil _ _ _ _ _, by repeat (first | (with_reducible first | exact HB.out | apply zW | apply zX | apply zY | refine zS ?_ GE8n.out | refine zS ?_ GE8o.out | refine zS ?_ GE8v.out) | exact HB.out)⟩
end Go.Proofs.Ytfeeaipbmpmpgaa.PX

namespace Go.Proofs.Ytfeeaipbmpmpgaa.PX
open Go.RowKit Go.Proofs.YtfeeaipbmpmpgaaW.PrintWords Go.Proofs.YtfeeaipbmpmpgaaW.PrintLast Go.Proofs.YtfeeaipbmpmpgaaW.PrintMore
set_option linter.unusedVariables false
set_option linter.unusedSimpArgs false

/-! ### a row written as a curve -/
theorem refIn_l0 (from_ v0 : Int) (l : List Int) (hl : l.length ≤ 1000) (hb : ∀ v ∈ l, -2305843009213693952 ≤ v ∧ v ≤ 2305843009213693952) (d : Nat) : ∀ k n : Nat, n + d = l.length → 0 < n → d + 300 < k →
    kimberliteref03_In.l0 k (n : Int) from_ l from_ v0 (diffs (l.take n)) = some (from_, v0, diffs l, valB from_ v0 (diffs l)) := by
  induction d with
  | zero =>
    intro k n hn h0 hk
    obtain ⟨k, rfl⟩ : ∃ m, k = m + 1 := ⟨k - 1, by omega⟩
    simp only [kimberliteref03_In.l0]
    rw [if_neg (by omega), List.take_of_length_le (by omega), refValid_some _ _ _ (by rw [diffs_length]; omega) k (by omega)]
    rfl
  | succ d ih =>
    intro k n hn h0 hk
    obtain ⟨k, rfl⟩ : ∃ m, k = m + 1 := ⟨k - 1, by omega⟩
    obtain ⟨n, rfl⟩ : ∃ m, n = m + 1 := ⟨n - 1, by omega⟩
    have b1 := hb _ (List.getElem_mem (show n < l.length by omega))
    have b2 := hb _ (List.getElem_mem (show n + 1 < l.length by omega))
    simp only [kimberliteref03_In.l0]
    rw [w64 (x := ((n + 1 : Nat) : Int) - 1) (by omega) (by omega), w64 (x := ((n + 1 : Nat) : Int) + 1) (by omega) (by omega), if_pos (by omega), if_pos (by omega), if_pos (by omega), if_pos (by omega), if_pos (by rw [diffs_length, List.length_take]; omega),
      show ((n + 1 : Nat) : Int) - 1 = (n : Int) from by omega, rd_getElem l n (by omega), rd_getElem l (n + 1) (by omega), w64 (x := l[n + 1] - l[n]) (by omega) (by omega)]
    have h := ih k (n + 2) (by omega) (by omega) (by omega)
    rw [diffs_take_succ l n (by omega)] at h
    exact h
theorem ranged_some (from_ : Int) (l : List Int) (h0 : 0 < l.length) (hl : l.length ≤ 1000) (hb : ∀ v ∈ l, -2305843009213693952 ≤ v ∧ v ≤ 2305843009213693952) (k : Nat) (hk : l.length + 300 < k) :
    kimberliteref03_ranged.f k from_ l = some (madeR from_ l[0] (diffs l)) := by
  have h := refIn_l0 from_ l[0] l hl hb (l.length - 1) k 1 (by omega) (by omega) (by omega)
  have e : diffs (l.take 1) = [] := by
    cases l with
    | nil => rfl
    | cons x r => rfl
  have e0 : rd l 0 = l[0] := rd_getElem l 0 h0
  rw [e] at h
  unfold kimberliteref03_ranged.f kimberliteref03_In.f
  rw [if_pos (by omega), e0]
  have h' : kimberliteref03_In.l0 k 1 from_ l from_ l[0] [] = some (from_, l[0], diffs l, valB from_ l[0] (diffs l)) := h
  rw [h']
  simp only [Option.bind_some]
  unfold madeR
  split <;> rfl
/-! ### a row's values -/
theorem to_some {a b : Int} {l : List Int} (hv : valB a b l = true) : kimberliteref03_Row_To.f a (outV b l) = some (a + (l.length : Int)) := by
  have hvf := val_from hv
  unfold kimberliteref03_Row_To.f
  rw [outV_length]
  rw [w64 (x := a + ((l.length + 1 : Nat) : Int)) (by omega) (by omega), w64 (by omega) (by omega)]
  congr 1
  omega
theorem value_some {a b : Int} {l : List Int} (hv : valB a b l = true) {x : Int} (hd : cdom a l x = true) : kimberliteref03_Row_Value.f a (outV b l) x = some (cval a b l x) := by
  have hvf := val_from hv
  have hx := cdom_iff.1 hd
  obtain ⟨n, hn⟩ := Int.eq_ofNat_of_zero_le (show 0 ≤ x - a from by omega)
  unfold kimberliteref03_Row_Value.f cval
  rw [w64 (x := x - a) (by omega) (by omega), hn, if_pos (by omega), outV_length, if_pos (by omega), outV_get b l n (by omega), Int.toNat_natCast]
end Go.Proofs.Ytfeeaipbmpmpgaa.PX

namespace Go.Proofs.Ytfeeaipbmpmpgaa.PX
open Go.RowKit Go.Proofs.YtfeeaipbmpmpgaaW.PrintWords Go.Proofs.YtfeeaipbmpmpgaaW.PrintLast Go.Proofs.YtfeeaipbmpmpgaaW.PrintMore
attribute [local go_sem] max2_int min2_int max_two min_two max_three min_three max_four min_four   -- for this text's walks alone
set_option linter.unusedVariables false
set_option linter.unusedSimpArgs false
/-! ### kimberlitelaw03_told: function 33 -/
mutual
def kimberlitelaw03_told.j0 : Nat → Bool → Int → Int → List Int → Option (Bool × List Int)
 | 0, _, _, _, _ => none
 | k + 1, x9, x568000, x568001, x568002 => kimberlitelaw03_told.l0 k x9 0 x568000 x568001 x568002
def kimberlitelaw03_told.l0 : Nat → Bool → Int → Int → Int → List Int → Option (Bool × List Int)
 | 0, _, _, _, _, _ => none
 | k + 1, x9, x10, x568000, x568001, x568002 => if x10 < (x568002.length : Int) then (if 0 ≤ x10 then (kimberlitelaw03_told.l0 k x9 (wrap64 (x10 + 1)) x568000 x568001 (x568002.set (x10 : Int).toNat (-77))) else (none)) else (some (x9, x568002))
end
def kimberlitelaw03_told.f (k : Nat) (a0_0 : Int) (a0_1 : Int) (l0_2 : List Int) (a1 : Int) (a2_0 : Int) (a2_1 : Int) (l2_2 : List Int) (a3 : Int) : Option (Bool × List Int) := (kimberlitelaw03_alike.f k a0_0 a0_1 l0_2 a2_0 a2_1 l2_2).bind fun t569 => (if t569 = true then (kimberlitelaw03_told.j0 k (a1 == a3) a0_0 a0_1 l0_2) else (kimberlitelaw03_told.j0 k false a0_0 a0_1 l0_2))
theorem kimberlitelaw03_told.mono_l : ∀ k, (∀ y0 y1 y2 y3, LeO (kimberlitelaw03_told.j0 k y0 y1 y2 y3) (kimberlitelaw03_told.j0 (k + 1) y0 y1 y2 y3)) ∧ (∀ y0 y1 y2 y3 y4, LeO (kimberlitelaw03_told.l0 k y0 y1 y2 y3 y4) (kimberlitelaw03_told.l0 (k + 1) y0 y1 y2 y3 y4))
 | 0 => ⟨fun _ _ _ _ r h => by simp [kimberlitelaw03_told.j0] at h, fun _ _ _ _ _ r h => by simp [kimberlitelaw03_told.l0] at h⟩
 | k + 1 => by
  obtain ⟨ih0, ih1⟩ := kimberlitelaw03_told.mono_l k
  refine ⟨?_, ?_⟩
  ·
   intro y0 y1 y2 y3
   unfold kimberlitelaw03_told.j0
   repeat' first
   | (with_reducible exact ih0 _ _ _ _)
   | (with_reducible exact ih1 _ _ _ _ _)
   | (with_reducible exact kimberlitelaw03_alike.mono _ _ _ _ _ _ _)
   | (with_reducible exact LeO.refl _)
   | (with_reducible exact LeO.none _)
   | (with_reducible refine LeO.ite ?_ ?_)
   | (with_reducible refine LeO.bind ?_ (fun _ => ?_))
   | exact ih0 _ _ _ _
   | exact ih1 _ _ _ _ _
   | exact kimberlitelaw03_alike.mono _ _ _ _ _ _ _
   | exact LeO.none _
   | refine LeO.ite ?_ ?_
   | refine LeO.bind ?_ (fun _ => ?_)
  ·
   intro y0 y1 y2 y3 y4
   unfold kimberlitelaw03_told.l0
   repeat' first
   | (with_reducible exact ih0 _ _ _ _)
   | (with_reducible exact ih1 _ _ _ _ _)
   | (with_reducible exact kimberlitelaw03_alike.mono _ _ _ _ _ _ _)
   | (with_reducible exact LeO.refl _)
   | (with_reducible exact LeO.none _)
   | (with_reducible refine LeO.ite ?_ ?_)
   | (with_reducible refine LeO.bind ?_ (fun _ => ?_))
   | exact ih0 _ _ _ _
   | exact ih1 _ _ _ _ _
   | exact kimberlitelaw03_alike.mono _ _ _ _ _ _ _
   | exact LeO.none _
   | refine LeO.ite ?_ ?_
   | refine LeO.bind ?_ (fun _ => ?_)
theorem kimberlitelaw03_told.mono : ∀ a0 a1 a2 a3 a4 a5 a6 a7 k, LeO (kimberlitelaw03_told.f k a0 a1 a2 a3 a4 a5 a6 a7) (kimberlitelaw03_told.f (k + 1) a0 a1 a2 a3 a4 a5 a6 a7) := by
 intro a0 a1 a2 a3 a4 a5 a6 a7 k
 obtain ⟨ih0, ih1⟩ := kimberlitelaw03_told.mono_l k
 unfold kimberlitelaw03_told.f
 repeat' first
   | (with_reducible exact ih0 _ _ _ _)
   | (with_reducible exact ih1 _ _ _ _ _)
   | (with_reducible exact kimberlitelaw03_alike.mono _ _ _ _ _ _ _)
   | (with_reducible exact LeO.refl _)
   | (with_reducible exact LeO.none _)
   | (with_reducible refine LeO.ite ?_ ?_)
   | (with_reducible refine LeO.bind ?_ (fun _ => ?_))
   | exact ih0 _ _ _ _
   | exact ih1 _ _ _ _ _
   | exact kimberlitelaw03_alike.mono _ _ _ _ _ _ _
   | exact LeO.none _
   | refine LeO.ite ?_ ?_
   | refine LeO.bind ?_ (fun _ => ?_)
set_option maxHeartbeats 8000000 in
set_option maxRecDepth 100000 in
theorem kimberlitelaw03_told.calls (k : Nat) (a0_0 : Int) (a0_1 : Int) (P0_2_ : Nat → Prop) (u9000_ : Value) (l0_2 : List Int) (a1 : Int) (a2_0 : Int) (a2_1 : Int) (A2_2 : Option Addr) (c2_2 : Nat) (l2_2 : List Int) (a3 : Int) (r1 : Bool) (r2 : List Int) (w0 w : World) (hB : Below w0.heap.size w0 w) (ho0_2 : Kd.R (Kd.int .i64) 3 w w0.heap.size P0_2_ u9000_ l0_2) (hr2_2 : ∀ W_, Kept w W_ (fun k_ => P0_2_ k_) → Kd.C (Kd.int .i64) W_ A2_2 l2_2.length l2_2) (hc2_2 : l2_2.length ≤ c2_2) (h : kimberlitelaw03_told.f k a0_0 a0_1 l0_2 a1 a2_0 a2_1 l2_2 a3 = some (r1, r2)) :
  Calls Try.prog 33 #[.agg #[.int .i64 a0_0, .int .i64 a0_1, u9000_], .int .i64 a1, .agg #[.int .i64 a2_0, .int .i64 a2_1, .slice A2_2 l2_2.length c2_2], .int .i64 a3] w fun e w' => e = .returned (.bool r1) ∧ Kd.R (Kd.int .i64) 3 w' w0.heap.size (fun k_ => (P0_2_ k_ ∨ w.heap.size ≤ k_)) u9000_ r2 ∧ Below w0.heap.size w0 w' ∧ Kept w w' (fun k_ => P0_2_ k_) := by
 have hu24 := Try.underlying24
 have HO0_2 := zA (show Kd.R (Kd.int .i64) 3 w w0.heap.size (fun k_ => (P0_2_ k_ ∨ w.heap.size ≤ k_)) u9000_ l0_2 from Kd.R_mono ho0_2 (fun k_ hk => (.inl hk)))
 have HR2_2 := zA hr2_2
 have HC2_2 := zA hc2_2
 clear hr2_2 hc2_2
 have HK := zA (Kept.refl w (fun k_ => P0_2_ k_))
 have HW0 := zA hB.size
 have HB := zA hB
 clear hB
 have H : ((kimberlitelaw03_alike.f k a0_0 a0_1 l0_2 a2_0 a2_1 l2_2).bind fun t569 => (if t569 = true then (kimberlitelaw03_told.j0 k (a1 == a3) a0_0 a0_1 l0_2) else (kimberlitelaw03_told.j0 k false a0_0 a0_1 l0_2))) = some (r1, r2) := h
 clear h
 have HC5 := zA H
 clear H
 obtain ⟨Ao6, co6, eo6⟩ := Kd.R_slice HO0_2.out
 subst eo6
 go_enter Try.func33, Try.ntmps33
 go_upto_region 1 with (first | ((with_reducible refine gate_dst (N := 4) rfl ?_); refine box_event ?hg (N := 4) ?hd (cs := #[.int .i64 a0_0, .int .i64 a0_1, .slice Ao6 l0_2.length co6]) (t := 24) ?hr ?_; (case hd => rfl); (case hg => rfl); (case hr => first | (go_simp; done) | (go_simp; rfl)); intro gA hg w7 hbox hb; have n0_ := zA (Kd.R_below (by (with_reducible repeat (first | apply Kd.R_alloc | apply Kd.R_drewN | apply Kd.R_drew)); exact HO0_2.out) hb); have n1_ := zA (Kept.below (S := (fun k_ => P0_2_ k_)) (by repeat (first | (with_reducible first | exact HK.out | apply Kept.alloc | apply Kept.drewN | apply Kept.drew) | exact HK.out)) hb); have n2_ := zA (below_step (by repeat (first | (with_reducible first | exact HB.out | apply zW | apply zX | apply zY) | exact HB.out)) hb); have n3_ := zA (hbox); have n4_ := zA ((by rw [hg]; exact (by first | exact HK.out.1 | exact (show Kept w _ (fun k_ => P0_2_ k_) from by repeat (first | (with_reducible first | exact HK.out | apply Kept.alloc | apply Kept.drewN | apply Kept.drew) | exact HK.out)).1) : w.heap.size ≤ gA)); have n5_ := zA ((by rw [hg]; exact (below_size (by repeat (first | (with_reducible first | exact HB.out | apply zW | apply zX | apply zY) | exact HB.out))) : w0.heap.size ≤ gA)); clear HO0_2; clear HK; clear HB; have HO0_2 := n0_; have HK := n1_; have HB := n2_; have BK99 := n3_; have GW99 := n4_; have GE99 := n5_; clear n0_ n1_ n2_ n3_ n4_ n5_; clear hb hbox hg) | ((with_reducible refine gate_dst (N := 6) rfl ?_); refine box_event ?hg (N := 6) ?hd (cs := #[.int .i64 a2_0, .int .i64 a2_1, .slice A2_2 l2_2.length c2_2]) (t := 24) ?hr ?_; (case hd => rfl); (case hg => rfl); (case hr => first | (go_simp; done) | (go_simp; rfl)); intro gB hg w8 hbox hb; have n0_ := zA (Kd.R_below (by (with_reducible repeat (first | apply Kd.R_alloc | apply Kd.R_drewN | apply Kd.R_drew)); exact HO0_2.out) hb); have n1_ := zA (blk_below (g := gA) (o := .cells #[.int .i64 a0_0, .int .i64 a0_1, .slice Ao6 l0_2.length co6] 24 (0, 0)) (by (with_reducible repeat (first | refine zN ?_ _ | refine zD ?_ | refine zB ?_ _)); exact BK99.out) hb); have n2_ := zA (Kept.below (S := (fun k_ => P0_2_ k_)) (by repeat (first | (with_reducible first | exact HK.out | apply Kept.alloc | apply Kept.drewN | apply Kept.drew | refine Kept.setCell ?_ (.inr GW99.out) _) | exact HK.out)) hb); have n3_ := zA (below_step (by repeat (first | (with_reducible first | exact HB.out | apply zW | apply zX | apply zY | refine zS ?_ GE99.out) | exact HB.out)) hb); have n4_ := zA (hbox); have n5_ := zA ((by rw [hg]; exact (by first | exact HK.out.1 | exact (show Kept w _ (fun k_ => P0_2_ k_) from by repeat (first | (with_reducible first | exact HK.out | apply Kept.alloc | apply Kept.drewN | apply Kept.drew | refine Kept.setCell ?_ (.inr GW99.out) _) | exact HK.out)).1) : w.heap.size ≤ gB)); have n6_ := zA ((by rw [hg]; exact (below_size (by repeat (first | (with_reducible first | exact HB.out | apply zW | apply zX | apply zY | refine zS ?_ GE99.out) | exact HB.out))) : w0.heap.size ≤ gB)); have n7_ := zA ((by rw [hg]; exact Nat.ne_of_lt (blk_lt (g := gA) (o := .cells #[.int .i64 a0_0, .int .i64 a0_1, .slice Ao6 l0_2.length co6] 24 (0, 0)) (by (with_reducible repeat (first | refine zN ?_ _ | refine zD ?_ | refine zB ?_ _)); exact BK99.out)) : gA ≠ gB)); have n8_ := zA ((by rw [hg]; exact Nat.ne_of_gt (blk_lt (g := gA) (o := .cells #[.int .i64 a0_0, .int .i64 a0_1, .slice Ao6 l0_2.length co6] 24 (0, 0)) (by (with_reducible repeat (first | refine zN ?_ _ | refine zD ?_ | refine zB ?_ _)); exact BK99.out)) : gB ≠ gA)); clear HO0_2; clear BK99; clear HK; clear HB; have HO0_2 := n0_; have BK99 := n1_; have HK := n2_; have HB := n3_; have BK9A := n4_; have GW9A := n5_; have GE9A := n6_; have NB567_568 := n7_; have NB568_567 := n8_; clear n0_ n1_ n2_ n3_ n4_ n5_ n6_ n7_ n8_; clear hb hbox hg))
 (try simp only [Act.put, z1, z2, z3])
 go_cut [9] (fun v9 wc => ∃ (kq : Nat) (x9_4 : Bool), v9 = .bool x9_4 ∧ Aside0 (kimberlitelaw03_told.j0 kq x9_4 a0_0 a0_1 l0_2 = some (r1, r2)) ∧ Aside0 (kq ≤ k) ∧ Aside0 (Kd.R (Kd.int .i64) 3 wc w0.heap.size (fun k_ => (P0_2_ k_ ∨ w.heap.size ≤ k_)) (.slice Ao6 l0_2.length co6) l0_2) ∧ Aside0 (wc.heap[gA]? = some (.cells #[.int .i64 a0_0, .int .i64 a0_1, (.slice Ao6 l0_2.length co6)] 24 (0, 0))) ∧ Aside0 (wc.heap[gB]? = some (.cells #[.int .i64 a2_0, .int .i64 a2_1, (.slice A2_2 l2_2.length c2_2)] 24 (0, 0))) ∧ Aside0 (Kept w wc (fun k_ => P0_2_ k_)) ∧ Aside0 (Below w0.heap.size w0 wc))
 case first =>
  have H := HC5.out
  clear HC5
  replace H := Option.bind_eq_some_iff.mp H
  obtain ⟨t569, A90, H⟩ := H
  replace H : (if t569 = true then (kimberlitelaw03_told.j0 k (a1 == a3) a0_0 a0_1 l0_2) else (kimberlitelaw03_told.j0 k false a0_0 a0_1 l0_2)) = some (r1, r2) := H
  have A9 := zA A90
  clear A90
  by_cases c10 : t569 = true
  ·
   subst c10
   have H1 : (kimberlitelaw03_told.j0 k (a1 == a3) a0_0 a0_1 l0_2) = some (r1, r2) := by rw [if_pos rfl] at H; exact H
   clear H
   have H := H1
   clear H1
   have H' := zA H
   clear H
   have hnb11 := NB567_568.out
   have hnc11 := NB568_567.out
   have hcz12_0 : w8.cell? ⟨gA, 0, none⟩ = some (.int .i64 a0_0) := (blk_cell BK99.out 0).trans rfl
   have hcz12_1 : w8.cell? ⟨gA, 1, none⟩ = some (.int .i64 a0_1) := (blk_cell BK99.out 1).trans rfl
   have hcz12_2 : w8.cell? ⟨gA, 2, none⟩ = some (.slice Ao6 l0_2.length co6) := (blk_cell BK99.out 2).trans rfl
   have hfz12_0 := blk_frozen BK99.out 0
   have hfz12_1 := blk_frozen BK99.out 1
   have hfz12_2 := blk_frozen BK99.out 2
   have hcz13_0 : w8.cell? ⟨gB, 0, none⟩ = some (.int .i64 a2_0) := (blk_cell BK9A.out 0).trans rfl
   have hcz13_1 : w8.cell? ⟨gB, 1, none⟩ = some (.int .i64 a2_1) := (blk_cell BK9A.out 1).trans rfl
   have hcz13_2 : w8.cell? ⟨gB, 2, none⟩ = some (.slice A2_2 l2_2.length c2_2) := (blk_cell BK9A.out 2).trans rfl
   have hfz13_0 := blk_frozen BK9A.out 0
   have hfz13_1 := blk_frozen BK9A.out 1
   have hfz13_2 := blk_frozen BK9A.out 2
   go_wp2_with (first | ((with_reducible refine gate_callee (f := 15) rfl ?_); refine goesL_ (some 13) rfl rfl Try.func15 (by kernel_rfl) rfl #[.agg #[.int .i64 a0_0, .int .i64 a0_1, .slice Ao6 l0_2.length co6], .agg #[.int .i64 a2_0, .int .i64 a2_1, .slice A2_2 l2_2.length c2_2]] rfl (by (try simp only [List.map_toArray, List.map_cons, List.map_nil]); first | done | rfl | (simp only [List.length_drop, List.length_take]; rfl)) ?_; (with_reducible refine (kimberlitelaw03_alike.calls k a0_0 a0_1 _ _ l0_2 a2_0 a2_1 _ _ l2_2 true _ ?side1 ?side2 ?side3 ?side4 A9.out).mono ?_); (case side1 => repeat (first | exact (Kd.R_reads' HO0_2.out).2.2 | (with_reducible refine Kd.C_alloc ?_ _) | (with_reducible refine Kd.C_drewN ?_ _) | (with_reducible refine Kd.C_drew ?_))); (case side2 => exact (Kd.R_reads' HO0_2.out).2.1); (case side3 => exact Kd.C_kept_now HR2_2.out (by repeat (first | (with_reducible first | exact HK.out | apply Kept.alloc | apply Kept.drewN | apply Kept.drew | refine Kept.setCell ?_ (.inr GW99.out) _ | refine Kept.setCell ?_ (.inr GW9A.out) _) | exact HK.out))); (case side4 => exact HC2_2.out); rintro e w14 ⟨rfl, hb⟩; refine ⟨_, rfl, ?_⟩; have n0_ := zA (Kd.R_below (by (with_reducible repeat (first | apply Kd.R_alloc | apply Kd.R_drewN | apply Kd.R_drew)); exact HO0_2.out) hb); have n1_ := zA (blk_below (g := gA) (o := .cells #[.int .i64 a0_0, .int .i64 a0_1, .slice Ao6 l0_2.length co6] 24 (0, 0)) (by (with_reducible repeat (first | refine zN ?_ _ | refine zD ?_ | refine zB ?_ _)); exact BK99.out) hb); have n2_ := zA (blk_below (g := gB) (o := .cells #[.int .i64 a2_0, .int .i64 a2_1, .slice A2_2 l2_2.length c2_2] 24 (0, 0)) (by (with_reducible repeat (first | refine zN ?_ _ | refine zD ?_ | refine zB ?_ _)); exact BK9A.out) hb); have n3_ := zA (Kept.below (S := (fun k_ => P0_2_ k_)) (by repeat (first | (with_reducible first | exact HK.out | apply Kept.alloc | apply Kept.drewN | apply Kept.drew | refine Kept.setCell ?_ (.inr GW99.out) _ | refine Kept.setCell ?_ (.inr GW9A.out) _) | exact HK.out)) hb); have n4_ := zA (below_step (by repeat (first | (with_reducible first | exact HB.out | apply zW | apply zX | apply zY | refine zS ?_ GE99.out | refine zS ?_ GE9A.out) | exact HB.out)) hb); clear HO0_2; clear BK99; clear BK9A; clear HK; clear HB; have HO0_2 := n0_; have BK99 := n1_; have BK9A := n2_; have HK := n3_; have HB := n4_; clear n0_ n1_ n2_ n3_ n4_; (try clear hb); (try clear hb2); (try clear hk); (try clear hi)))
   go_meet
   case rel => exact ⟨_, ((a1 == a3)), (by first | rfl | (simp; done) | (simp [*]; done)), H', ⟨by first | omega | exact Nat.le_refl _⟩, ⟨by (with_reducible repeat (first | apply Kd.R_alloc | apply Kd.R_drewN | apply Kd.R_drew)); exact HO0_2.out⟩, ⟨by (with_reducible repeat (first | refine zN ?_ _ | refine zD ?_ | refine zB ?_ _)); exact BK99.out⟩, ⟨by (with_reducible repeat (first | refine zN ?_ _ | refine zD ?_ | refine zB ?_ _)); exact BK9A.out⟩, ⟨by repeat (first | (with_reducible first | exact HK.out | apply Kept.alloc | apply Kept.drewN | apply Kept.drew | refine Kept.setCell ?_ (.inr GW99.out) _ | refine Kept.setCell ?_ (.inr GW9A.out) _) | exact HK.out)⟩, ⟨by repeat (first | (with_reducible first | exact HB.out | apply zW | apply zX | apply zY | refine zS ?_ GE99.out | refine zS ?_ GE9A.out) | exact HB.out)⟩⟩
  ·
   replace c10 := Bool.eq_false_iff.mpr c10
   subst c10
   have H1 : (kimberlitelaw03_told.j0 k false a0_0 a0_1 l0_2) = some (r1, r2) := by rw [if_neg (show ¬ (false = true) by decide)] at H; exact H
   clear H
   have H := H1
   clear H1
   have H' := zA H
   clear H
   have hnb15 := NB567_568.out
   have hnc15 := NB568_567.out
   have hcz16_0 : w8.cell? ⟨gA, 0, none⟩ = some (.int .i64 a0_0) := (blk_cell BK99.out 0).trans rfl
   have hcz16_1 : w8.cell? ⟨gA, 1, none⟩ = some (.int .i64 a0_1) := (blk_cell BK99.out 1).trans rfl
   have hcz16_2 : w8.cell? ⟨gA, 2, none⟩ = some (.slice Ao6 l0_2.length co6) := (blk_cell BK99.out 2).trans rfl
   have hfz16_0 := blk_frozen BK99.out 0
   have hfz16_1 := blk_frozen BK99.out 1
   have hfz16_2 := blk_frozen BK99.out 2
   have hcz17_0 : w8.cell? ⟨gB, 0, none⟩ = some (.int .i64 a2_0) := (blk_cell BK9A.out 0).trans rfl
   have hcz17_1 : w8.cell? ⟨gB, 1, none⟩ = some (.int .i64 a2_1) := (blk_cell BK9A.out 1).trans rfl
   have hcz17_2 : w8.cell? ⟨gB, 2, none⟩ = some (.slice A2_2 l2_2.length c2_2) := (blk_cell BK9A.out 2).trans rfl
   have hfz17_0 := blk_frozen BK9A.out 0
   have hfz17_1 := blk_frozen BK9A.out 1
   have hfz17_2 := blk_frozen BK9A.out 2
   go_wp2_with (first | ((with_reducible refine gate_callee (f := 15) rfl ?_); refine goesL_ (some 13) rfl rfl Try.func15 (by kernel_rfl) rfl #[.agg #[.int .i64 a0_0, .int .i64 a0_1, .slice Ao6 l0_2.length co6], .agg #[.int .i64 a2_0, .int .i64 a2_1, .slice A2_2 l2_2.length c2_2]] rfl (by (try simp only [List.map_toArray, List.map_cons, List.map_nil]); first | done | rfl | (simp only [List.length_drop, List.length_take]; rfl)) ?_; (with_reducible refine (kimberlitelaw03_alike.calls k a0_0 a0_1 _ _ l0_2 a2_0 a2_1 _ _ l2_2 false _ ?side1 ?side2 ?side3 ?side4 A9.out).mono ?_); (case side1 => repeat (first | exact (Kd.R_reads' HO0_2.out).2.2 | (with_reducible refine Kd.C_alloc ?_ _) | (with_reducible refine Kd.C_drewN ?_ _) | (with_reducible refine Kd.C_drew ?_))); (case side2 => exact (Kd.R_reads' HO0_2.out).2.1); (case side3 => exact Kd.C_kept_now HR2_2.out (by repeat (first | (with_reducible first | exact HK.out | apply Kept.alloc | apply Kept.drewN | apply Kept.drew | refine Kept.setCell ?_ (.inr GW99.out) _ | refine Kept.setCell ?_ (.inr GW9A.out) _) | exact HK.out))); (case side4 => exact HC2_2.out); rintro e w18 ⟨rfl, hb⟩; refine ⟨_, rfl, ?_⟩; have n0_ := zA (Kd.R_below (by (with_reducible repeat (first | apply Kd.R_alloc | apply Kd.R_drewN | apply Kd.R_drew)); exact HO0_2.out) hb); have n1_ := zA (blk_below (g := gA) (o := .cells #[.int .i64 a0_0, .int .i64 a0_1, .slice Ao6 l0_2.length co6] 24 (0, 0)) (by (with_reducible repeat (first | refine zN ?_ _ | refine zD ?_ | refine zB ?_ _)); exact BK99.out) hb); have n2_ := zA (blk_below (g := gB) (o := .cells #[.int .i64 a2_0, .int .i64 a2_1, .slice A2_2 l2_2.length c2_2] 24 (0, 0)) (by (with_reducible repeat (first | refine zN ?_ _ | refine zD ?_ | refine zB ?_ _)); exact BK9A.out) hb); have n3_ := zA (Kept.below (S := (fun k_ => P0_2_ k_)) (by repeat (first | (with_reducible first | exact HK.out | apply Kept.alloc | apply Kept.drewN | apply Kept.drew | refine Kept.setCell ?_ (.inr GW99.out) _ | refine Kept.setCell ?_ (.inr GW9A.out) _) | exact HK.out)) hb); have n4_ := zA (below_step (by repeat (first | (with_reducible first | exact HB.out | apply zW | apply zX | apply zY | refine zS ?_ GE99.out | refine zS ?_ GE9A.out) | exact HB.out)) hb); clear HO0_2; clear BK99; clear BK9A; clear HK; clear HB; have HO0_2 := n0_; have BK99 := n1_; have BK9A := n2_; have HK := n3_; have HB := n4_; clear n0_ n1_ n2_ n3_ n4_; (try clear hb); (try clear hb2); (try clear hk); (try clear hi)))
   go_meet
   case rel => exact ⟨_, (false), (by first | rfl | (simp; done) | (simp [*]; done)), H', ⟨by first | omega | exact Nat.le_refl _⟩, ⟨by (with_reducible repeat (first | apply Kd.R_alloc | apply Kd.R_drewN | apply Kd.R_drew)); exact HO0_2.out⟩, ⟨by (with_reducible repeat (first | refine zN ?_ _ | refine zD ?_ | refine zB ?_ _)); exact BK99.out⟩, ⟨by (with_reducible repeat (first | refine zN ?_ _ | refine zD ?_ | refine zB ?_ _)); exact BK9A.out⟩, ⟨by repeat (first | (with_reducible first | exact HK.out | apply Kept.alloc | apply Kept.drewN | apply Kept.drew | refine Kept.setCell ?_ (.inr GW99.out) _ | refine Kept.setCell ?_ (.inr GW9A.out) _) | exact HK.out)⟩, ⟨by repeat (first | (with_reducible first | exact HB.out | apply zW | apply zX | apply zY | refine zS ?_ GE99.out | refine zS ?_ GE9A.out) | exact HB.out)⟩⟩
 case rest =>
  clear HC5
  try clear c1
  try clear c2
  try clear p2
  try clear c3
  try clear c10
  try clear c11
  try clear c15
  try clear hcz12_0
  try clear hcz12_1
  try clear hcz12_2
  try clear hcz13_0
  try clear hcz13_1
  try clear hcz13_2
  try clear hcz16_0
  try clear hcz16_1
  try clear hcz16_2
  try clear hcz17_0
  try clear hcz17_1
  try clear hcz17_2
  try clear hfz12_0
  try clear hfz12_1
  try clear hfz12_2
  try clear hfz13_0
  try clear hfz13_1
  try clear hfz13_2
  try clear hfz16_0
  try clear hfz16_1
  try clear hfz16_2
  try clear hfz17_0
  try clear hfz17_1
  try clear hfz17_2
  obtain ⟨kq, x9_4, rfl, HA, HJ4, HO_568002, BK99, BK9A, HK, HB⟩ := hcut
  cases kq with
  | zero => exact absurd HA.out (by simp [kimberlitelaw03_told.j0])
  | succ kj4 =>
   have H := HA.out
   clear HA
   simp only [kimberlitelaw03_told.j0] at H
   have H' := zA H
   clear H
   go_wp2
   go_loopg [10] kj4 (fun kq v10 w' => ∃ (x10_2 : Int) (x568002_2 : List Int), v10 = .int .i64 x10_2 ∧ Aside0 (kimberlitelaw03_told.l0 kq x9_4 x10_2 a0_0 a0_1 x568002_2 = some (r1, r2)) ∧ Aside0 (kq ≤ kj4) ∧ Aside0 (Kd.R (Kd.int .i64) 3 w' w0.heap.size (fun k_ => (P0_2_ k_ ∨ w.heap.size ≤ k_)) (.slice Ao6 l0_2.length co6) x568002_2) ∧ Aside0 (w'.heap[gA]? = some (.cells #[.int .i64 a0_0, .int .i64 a0_1, (.slice Ao6 l0_2.length co6)] 24 (0, 0))) ∧ Aside0 (w'.heap[gB]? = some (.cells #[.int .i64 a2_0, .int .i64 a2_1, (.slice A2_2 l2_2.length c2_2)] 24 (0, 0))) ∧ Aside0 (Kept w w' (fun k_ => P0_2_ k_)) ∧ Aside0 (Below w0.heap.size w0 w'))
   case atStart => exact ⟨(0), (l0_2), (by first | rfl | (simp; done) | (simp [*]; done)), H', ⟨Nat.le_refl _⟩, ⟨by (with_reducible repeat (first | apply Kd.R_alloc | apply Kd.R_drewN | apply Kd.R_drew)); exact HO_568002.out⟩, ⟨by (with_reducible repeat (first | refine zN ?_ _ | refine zD ?_ | refine zB ?_ _)); exact BK99.out⟩, ⟨by (with_reducible repeat (first | refine zN ?_ _ | refine zD ?_ | refine zB ?_ _)); exact BK9A.out⟩, ⟨by repeat (first | (with_reducible first | exact HK.out | apply Kept.alloc | apply Kept.drewN | apply Kept.drew | refine Kept.setCell ?_ (.inr GW99.out) _ | refine Kept.setCell ?_ (.inr GW9A.out) _) | exact HK.out)⟩, ⟨by repeat (first | (with_reducible first | exact HB.out | apply zW | apply zX | apply zY | refine zS ?_ GE99.out | refine zS ?_ GE9A.out) | exact HB.out)⟩⟩
   case round =>
    clear H'
    try clear c1
    try clear c2
    try clear p2
    try clear c3
    try clear c10
    try clear c11
    try clear c15
    try clear hcz12_0
    try clear hcz12_1
    try clear hcz12_2
    try clear hcz13_0
    try clear hcz13_1
    try clear hcz13_2
    try clear hcz16_0
    try clear hcz16_1
    try clear hcz16_2
    try clear hcz17_0
    try clear hcz17_1
    try clear hcz17_2
    try clear hfz12_0
    try clear hfz12_1
    try clear hfz12_2
    try clear hfz13_0
    try clear hfz13_1
    try clear hfz13_2
    try clear hfz16_0
    try clear hfz16_1
    try clear hfz16_2
    try clear hfz17_0
    try clear hfz17_1
    try clear hfz17_2
    try clear p2
    obtain ⟨x10_2, x568002_2, rfl, HA, HK2, HO_568002, BK99, BK9A, HK, HB⟩ := hrel
    have hl568002_2 := (Kd.R_reads' HO_568002.out).1
    rw [hl568002_2] at HO_568002
    (try simp only [hl568002_2])
    (try simp only [hl568002_2] at BK99)
    (try simp only [hl568002_2] at BK9A)
    cases gk with
    | zero => exact absurd HA.out (by simp [kimberlitelaw03_told.l0])
    | succ k2 =>
     have H := HA.out
     clear HA
     simp only [kimberlitelaw03_told.l0] at H
     by_cases c19 : x10_2 < (x568002_2.length : Int)
     ·
      rw [if_pos c19] at H
      have c19b0 : decide (x10_2 < (x568002_2.length : Int)) = true := decide_eq_true c19
      clear c19
      by_cases c20 : 0 ≤ x10_2
      ·
       rw [if_pos c20] at H
       have c20b0 : decide (0 ≤ x10_2) = true := decide_eq_true c20
       clear c20
       obtain ⟨y570, hy570⟩ : ∃ y_ : List Int, y_ = (x568002_2.set (x10_2 : Int).toNat (-77)) := ⟨_, rfl⟩
       replace H : (kimberlitelaw03_told.l0 k2 x9_4 (wrap64 (x10_2 + 1)) a0_0 a0_1 y570) = some (r1, r2) := by first | (rw [hy570]; with_reducible exact H) | (have H2_ := (Option.bind_some _ _).symm.trans H; rw [hy570]; with_reducible exact H2_) | (have H2_ := (Option.bind_some _ _).symm.trans H; with_reducible exact H2_) | with_reducible exact H | (rw [hy570]; exact H) | exact H
       have Ny570 := zA hy570
       clear hy570
       have H' := zA H
       clear H
       have hnb22 := NB567_568.out
       have hnc22 := NB568_567.out
       have hcz23_0 : wr.cell? ⟨gA, 0, none⟩ = some (.int .i64 a0_0) := (blk_cell BK99.out 0).trans rfl
       have hcz23_1 : wr.cell? ⟨gA, 1, none⟩ = some (.int .i64 a0_1) := (blk_cell BK99.out 1).trans rfl
       have hcz23_2 : wr.cell? ⟨gA, 2, none⟩ = some (.slice Ao6 x568002_2.length co6) := (blk_cell BK99.out 2).trans rfl
       have hfz23_0 := blk_frozen BK99.out 0
       have hfz23_1 := blk_frozen BK99.out 1
       have hfz23_2 := blk_frozen BK99.out 2
       have p21 : 0 ≤ (x10_2 : Int) := of_decide_eq_true (by first | (with_reducible assumption) | assumption)
       have q21 : (x10_2 : Int) < ((x568002_2.length : Int) : Int) := of_decide_eq_true (by first | (with_reducible assumption) | assumption)
       obtain ⟨go21, co21, eo21, gb21, gl21, cl21, HG21⟩ := Kd.R_form HO_568002.out (by omega)
       (first | cases eo21 | (injection eo21 with ea_ en_ ec_; (first | subst ea_ | (injection ea_ with ea_; subst ea_)); subst ec_; clear en_))
       have GB21 := zA gb21
       have GG21 := zA HG21
       clear gb21 gl21 HG21
       have HMgo21 := zA (show (P0_2_ go21 ∨ w.heap.size ≤ go21) from (HO_568002.out.1 _ rfl))
       obtain ⟨hx21_0, hf21_0⟩ := Kd.R_celln 0 HO_568002.out (x10_2 : Int) p21 q21
       replace p21 := eq_true p21
       replace q21 := eq_true q21
       have HP24 := Kd.R_putg HO_568002.out (x10_2 : Int) (-77)
       go_wp2_with (first | ((with_reducible refine gate_store (t := 3) (p := 29) rfl ?_); refine store_event (t := 3) (p := 29) (v := ?vo_w25) (w1 := (wr.setCell ⟨go21, (x10_2 : Int).toNat, none⟩ (.int .i64 (-77)))) ?hg ?ho ?hn ?hr ?_; (case ho => rfl); (case hg => rfl); (case hn => rfl); (case hr => first | (go_simp; done) | (go_simp; rfl)); intro w25 hw; have hg : wr.grownBy w25 (some go21) := (by rw [hw]; exact HP24.2); have hp_ : Kd.R (Kd.int .i64) 3 w25 w0.heap.size (fun k_ => (P0_2_ k_ ∨ w.heap.size ≤ k_)) (.slice (some ⟨go21, 0, none⟩) x568002_2.length co6) y570 := (by rw [hw, Ny570.out]; exact HP24.1); clear HP24; have n0_ := zA (hp_); have n1_ := zA (blk_grown (g := gA) (o := .cells #[.int .i64 a0_0, .int .i64 a0_1, .slice (some ⟨go21, 0, none⟩) x568002_2.length co6] 24 (0, 0)) (by (with_reducible repeat (first | refine zN ?_ _ | refine zD ?_ | refine zB ?_ _)); exact BK99.out) hg (Kd.R_ne HO_568002.out BK99.out (by decide))); have n2_ := zA (blk_grown (g := gB) (o := .cells #[.int .i64 a2_0, .int .i64 a2_1, .slice A2_2 l2_2.length c2_2] 24 (0, 0)) (by (with_reducible repeat (first | refine zN ?_ _ | refine zD ?_ | refine zB ?_ _)); exact BK9A.out) hg (Kd.R_ne HO_568002.out BK9A.out (by decide))); have n3_ := zA ((by rw [hw]; exact zS (HB.out) GB21.out : Below w0.heap.size w0 w25)); have n4_ := zA (Kept.of_grown (S := (fun k_ => P0_2_ k_)) hg (by repeat (first | (with_reducible first | exact HK.out | apply Kept.alloc | apply Kept.drewN | apply Kept.drew | refine Kept.setCell ?_ (.inr GW99.out) _ | refine Kept.setCell ?_ (.inr GW9A.out) _) | exact HK.out)) (fun k_ e_ => (HO_568002.out.1 k_ e_))); clear HO_568002; clear BK99; clear BK9A; clear HB; clear HK; have HO_568002 := n0_; have BK99 := n1_; have BK9A := n2_; have HB := n3_; have HK := n4_; clear n0_ n1_ n2_ n3_ n4_; clear hg hw hp_))
       (try simp only [← hl568002_2])
       go_roundg k2
       case measure => have := HJ4.out; have := HK2.out; omega
       case rel => exact ⟨(wrap64 (x10_2 + 1)), (y570), (by first | rfl | (simp; done) | (simp [*]; done)), H', ⟨by have := HJ4.out; have := HK2.out; omega⟩, ⟨by (try simp only [hl568002_2]); (with_reducible repeat (first | apply Kd.R_alloc | apply Kd.R_drewN | apply Kd.R_drew)); exact HO_568002.out⟩, ⟨by (try simp only [hl568002_2]); (with_reducible repeat (first | refine zN ?_ _ | refine zD ?_ | refine zB ?_ _)); exact BK99.out⟩, ⟨by (try simp only [hl568002_2]); (with_reducible repeat (first | refine zN ?_ _ | refine zD ?_ | refine zB ?_ _)); exact BK9A.out⟩, ⟨by repeat (first | (with_reducible first | exact HK.out | apply Kept.alloc | apply Kept.drewN | apply Kept.drew | refine Kept.setCell ?_ (.inr GW99.out) _ | refine Kept.setCell ?_ (.inr GW9A.out) _) | exact HK.out)⟩, ⟨by repeat (first | (with_reducible first | exact HB.out | apply zW | apply zX | apply zY | refine zS ?_ GE99.out | refine zS ?_ GE9A.out) | exact HB.out)⟩⟩
      ·
       rw [if_neg c20] at H
       exact absurd H (by simp)
     ·
      rw [if_neg c19] at H
      have c19b0 : decide (x10_2 < (x568002_2.length : Int)) = false := decide_eq_false c19
      clear c19
      simp only [Option.some.injEq, Prod.mk.injEq] at H
      obtain ⟨rfl, rfl⟩ := H
      have hnb26 := NB567_568.out
      have hnc26 := NB568_567.out
      have hcz27_0 : wr.cell? ⟨gA, 0, none⟩ = some (.int .i64 a0_0) := (blk_cell BK99.out 0).trans rfl
      have hcz27_1 : wr.cell? ⟨gA, 1, none⟩ = some (.int .i64 a0_1) := (blk_cell BK99.out 1).trans rfl
      have hcz27_2 : wr.cell? ⟨gA, 2, none⟩ = some (.slice Ao6 x568002_2.length co6) := (blk_cell BK99.out 2).trans rfl
      have hfz27_0 := blk_frozen BK99.out 0
      have hfz27_1 := blk_frozen BK99.out 1
      have hfz27_2 := blk_frozen BK99.out 2
      go_wp2
      go_ret
      exact ⟨by first | rfl | (simp [errW_none, errW_some] <;> rfl) | (simp [*, errW_none, errW_some] <;> rfl), (by first | exact (by (with_reducible repeat (first | apply Kd.R_alloc | apply Kd.R_drewN | apply Kd.R_drew)); exact HO_568002.out) | (simp only [hl568002_2]; exact (by (with_reducible repeat (first | apply Kd.R_alloc | apply Kd.R_drewN | apply Kd.R_drew)); exact HO_568002.out))), by repeat (first | (with_reducible first | exact HB.out | apply zW | apply zX | apply zY | refine zS ?_ GE99.out | refine zS ?_ GE9A.out) | exact HB.out), by repeat (first | (with_reducible first | exact HK.out | apply Kept.alloc | apply Kept.drewN | apply Kept.drew | refine Kept.setCell ?_ (.inr GW99.out) _ | refine Kept.setCell ?_ (.inr GW9A.out) _) | exact HK.out)⟩
end Go.Proofs.Ytfeeaipbmpmpgaa.PX

namespace Go.Proofs.Ytfeeaipbmpmpgaa.PX
open Go.RowKit Go.Proofs.YtfeeaipbmpmpgaaW.PrintWords Go.Proofs.YtfeeaipbmpmpgaaW.PrintLast Go.Proofs.YtfeeaipbmpmpgaaW.PrintMore
attribute [local go_sem] max2_int min2_int max_two min_two max_three min_three max_four min_four   -- for this text's walks alone
set_option linter.unusedVariables false
set_option linter.unusedSimpArgs false
/-! ### kimberlitelaw03_own: function 27 -/
def kimberlitelaw03_own.l0 : Nat → List Int → Int → Int → Int → List Int → Option (Int × Int × List Int)
 | 0, _, _, _, _, _ => none
 | k + 1, x3, x4, x512000, x512001, x512002 => if x4 < (x3.length : Int) then (if 0 ≤ x4 then (if x4 < (x512002.length : Int) then (kimberlitelaw03_own.l0 k (x3.set (x4 : Int).toNat (rd x512002 x4)) (wrap64 (x4 + 1)) x512000 x512001 x512002) else (none)) else (none)) else (some (x512000, x512001, x3))
def kimberlitelaw03_own.f (k : Nat) (a0_0 : Int) (a0_1 : Int) (l0_2 : List Int) : Option (Int × Int × List Int) := if 0 ≤ (l0_2.length : Int) then (if ((l0_2.length : Int) : Int).toNat ≤ 35184372088832 then (kimberlitelaw03_own.l0 k (List.replicate ((l0_2.length : Int) : Int).toNat 0) 0 a0_0 a0_1 l0_2) else (none)) else (none)
theorem kimberlitelaw03_own.mono_l : ∀ k, (∀ y0 y1 y2 y3 y4, LeO (kimberlitelaw03_own.l0 k y0 y1 y2 y3 y4) (kimberlitelaw03_own.l0 (k + 1) y0 y1 y2 y3 y4))
 | 0 => fun _ _ _ _ _ r h => by simp [kimberlitelaw03_own.l0] at h
 | k + 1 => by
  have ih0 := kimberlitelaw03_own.mono_l k
  ·
   intro y0 y1 y2 y3 y4
   unfold kimberlitelaw03_own.l0
   repeat' first
   | (with_reducible exact ih0 _ _ _ _ _)
   | (with_reducible exact LeO.refl _)
   | (with_reducible exact LeO.none _)
   | (with_reducible refine LeO.ite ?_ ?_)
   | (with_reducible refine LeO.bind ?_ (fun _ => ?_))
   | exact ih0 _ _ _ _ _
   | exact LeO.none _
   | refine LeO.ite ?_ ?_
   | refine LeO.bind ?_ (fun _ => ?_)
theorem kimberlitelaw03_own.mono : ∀ a0 a1 a2 k, LeO (kimberlitelaw03_own.f k a0 a1 a2) (kimberlitelaw03_own.f (k + 1) a0 a1 a2) := by
 intro a0 a1 a2 k
 have ih0 := kimberlitelaw03_own.mono_l k
 unfold kimberlitelaw03_own.f
 repeat' first
   | (with_reducible exact ih0 _ _ _ _ _)
   | (with_reducible exact LeO.refl _)
   | (with_reducible exact LeO.none _)
   | (with_reducible refine LeO.ite ?_ ?_)
   | (with_reducible refine LeO.bind ?_ (fun _ => ?_))
   | exact ih0 _ _ _ _ _
   | exact LeO.none _
   | refine LeO.ite ?_ ?_
   | refine LeO.bind ?_ (fun _ => ?_)
set_option maxHeartbeats 8000000 in
set_option maxRecDepth 100000 in
theorem kimberlitelaw03_own.calls (k : Nat) (a0_0 : Int) (a0_1 : Int) (A0_2 : Option Addr) (c0_2 : Nat) (l0_2 : List Int) (r1 : Int) (r2 : Int) (r3 : List Int) (w : World) (hr0_2 : Kd.C (Kd.int .i64) w A0_2 l0_2.length l0_2) (hc0_2 : l0_2.length ≤ c0_2) (h : kimberlitelaw03_own.f k a0_0 a0_1 l0_2 = some (r1, r2, r3)) :
  Calls Try.prog 27 #[.agg #[.int .i64 a0_0, .int .i64 a0_1, .slice A0_2 l0_2.length c0_2]] w fun e w' => ∃ v2_ : Value, e = .returned (.agg #[.int .i64 r1, .int .i64 r2, v2_]) ∧ Kd.R (Kd.int .i64) 3 w' w.heap.size (fun _ => True) v2_ r3 ∧ Below w.heap.size w w' := by
 have hu24 := Try.underlying24
 have HR0_2 := zA hr0_2
 have HC0_2 := zA hc0_2
 clear hr0_2 hc0_2
 have HB := zA (Below.refl w.heap.size w)
 have H : (if 0 ≤ (l0_2.length : Int) then (if ((l0_2.length : Int) : Int).toNat ≤ 35184372088832 then (kimberlitelaw03_own.l0 k (List.replicate ((l0_2.length : Int) : Int).toNat 0) 0 a0_0 a0_1 l0_2) else (none)) else (none)) = some (r1, r2, r3) := h
 clear h
 by_cases c2 : 0 ≤ (l0_2.length : Int)
 ·
  rw [if_pos c2] at H
  have c2b0 := eq_true c2
  have c2b1 : decide (0 ≤ (l0_2.length : Int)) = true := decide_eq_true c2
  clear c2
  by_cases c3 : ((l0_2.length : Int) : Int).toNat ≤ 35184372088832
  ·
   rw [if_pos c3] at H
   have c3b0 := eq_true c3
   have c3b1 : decide (((l0_2.length : Int) : Int).toNat ≤ 35184372088832) = true := decide_eq_true c3
   clear c3
   obtain ⟨y513, hy513⟩ : ∃ y_ : List Int, y_ = (List.replicate ((l0_2.length : Int) : Int).toNat 0) := ⟨_, rfl⟩
   replace H : (kimberlitelaw03_own.l0 k y513 0 a0_0 a0_1 l0_2) = some (r1, r2, r3) := by first | (rw [hy513]; with_reducible exact H) | (have H2_ := (Option.bind_some _ _).symm.trans H; rw [hy513]; with_reducible exact H2_) | (have H2_ := (Option.bind_some _ _).symm.trans H; with_reducible exact H2_) | with_reducible exact H | (rw [hy513]; exact H) | exact H
   have Ny513 := zA hy513
   clear hy513
   have H' := zA H
   clear H
   go_enter Try.func27, Try.ntmps27
   go_wp2_with (first | ((with_reducible refine gate_dst (N := 1) rfl ?_); refine box_event ?hg (N := 1) ?hd (cs := #[.int .i64 a0_0, .int .i64 a0_1, .slice A0_2 l0_2.length c0_2]) (t := 24) ?hr ?_; (case hd => rfl); (case hg => rfl); (case hr => first | (go_simp; done) | (go_simp; rfl)); intro gA hg w4 hbox hb; have n0_ := zA (below_step (by repeat (first | (with_reducible first | exact HB.out | apply zW | apply zX | apply zY) | exact HB.out)) hb); have n1_ := zA (hbox); have n2_ := zA ((by rw [hg]; exact (below_size (by repeat (first | (with_reducible first | exact HB.out | apply zW | apply zX | apply zY) | exact HB.out))) : w.heap.size ≤ gA)); have n3_ := zA ((by rw [hg]; exact (below_size (by repeat (first | (with_reducible first | exact HB.out | apply zW | apply zX | apply zY) | exact HB.out))) : w.heap.size ≤ gA)); clear HB; have HB := n0_; have BK8F := n1_; have GW8F := n2_; have GE8F := n3_; clear n0_ n1_ n2_ n3_; clear hb hbox hg) | ((with_reducible refine gate_dst (N := 2) rfl ?_); refine box_event ?hg (N := 2) ?hd (cs := #[.int .i64 0, .int .i64 0, .slice none 0 0]) (t := 24) ?hr ?_; (case hd => rfl); (case hg => rfl); (case hr => first | (go_simp; done) | (go_simp; rfl)); intro gB hg w5 hbox hb; have n0_ := zA (blk_below (g := gA) (o := .cells #[.int .i64 a0_0, .int .i64 a0_1, .slice A0_2 l0_2.length c0_2] 24 (0, 0)) (by (with_reducible repeat (first | refine zN ?_ _ | refine zD ?_ | refine zB ?_ _)); exact BK8F.out) hb); have n1_ := zA (below_step (by repeat (first | (with_reducible first | exact HB.out | apply zW | apply zX | apply zY | refine zS ?_ GE8F.out) | exact HB.out)) hb); have n2_ := zA (hbox); have n3_ := zA ((by rw [hg]; exact (below_size (by repeat (first | (with_reducible first | exact HB.out | apply zW | apply zX | apply zY | refine zS ?_ GE8F.out) | exact HB.out))) : w.heap.size ≤ gB)); have n4_ := zA ((by rw [hg]; exact (below_size (by repeat (first | (with_reducible first | exact HB.out | apply zW | apply zX | apply zY | refine zS ?_ GE8F.out) | exact HB.out))) : w.heap.size ≤ gB)); have n5_ := zA ((by rw [hg]; exact Nat.ne_of_lt (blk_lt (g := gA) (o := .cells #[.int .i64 a0_0, .int .i64 a0_1, .slice A0_2 l0_2.length c0_2] 24 (0, 0)) (by (with_reducible repeat (first | refine zN ?_ _ | refine zD ?_ | refine zB ?_ _)); exact BK8F.out)) : gA ≠ gB)); have n6_ := zA ((by rw [hg]; exact Nat.ne_of_gt (blk_lt (g := gA) (o := .cells #[.int .i64 a0_0, .int .i64 a0_1, .slice A0_2 l0_2.length c0_2] 24 (0, 0)) (by (with_reducible repeat (first | refine zN ?_ _ | refine zD ?_ | refine zB ?_ _)); exact BK8F.out)) : gB ≠ gA)); clear BK8F; clear HB; have BK8F := n0_; have HB := n1_; have BK8G := n2_; have GW8G := n3_; have GE8G := n4_; have NB511_512 := n5_; have NB512_511 := n6_; clear n0_ n1_ n2_ n3_ n4_ n5_ n6_; clear hb hbox hg; have hnb6 := NB511_512.out; have hnc6 := NB512_511.out; have hcz7_0 : w5.cell? ⟨gA, 0, none⟩ = some (.int .i64 a0_0) := (blk_cell BK8F.out 0).trans rfl; have hcz7_1 : w5.cell? ⟨gA, 1, none⟩ = some (.int .i64 a0_1) := (blk_cell BK8F.out 1).trans rfl; have hcz7_2 : w5.cell? ⟨gA, 2, none⟩ = some (.slice A0_2 l0_2.length c0_2) := (blk_cell BK8F.out 2).trans rfl; have hfz7_0 := blk_frozen BK8F.out 0; have hfz7_1 := blk_frozen BK8F.out 1; have hfz7_2 := blk_frozen BK8F.out 2) | ((with_reducible refine gate_dst (N := 8) rfl ?_); refine Kd.R_make (Kd.int .i64) _ 3 rfl (N := 8) rfl 22 _ _ rfl (l0_2.length : Int) rfl rfl Try.underlying22 (.int .i64 0) 8 info3 rfl (by decide) (by omega) 0 (ok := fun _ => True) (okp := fun _ => True) rfl (fun _ hk => hk) trivial (of_decide_eq_true (by first | (with_reducible assumption) | assumption)) (Nat.le_trans (Nat.mul_le_mul_right _ (of_decide_eq_true (by first | (with_reducible assumption) | assumption) : (l0_2.length : Int).toNat ≤ 35184372088832)) (by omega)) (Below.refl _ _) (Nat.le_refl _) ?_; intro v514 w8 ho9 hb hg_ hnew_; clear hg_ hnew_; (first | rw [← Ny513.out] at ho9 | (simp only [Int.reduceToNat] at ho9; rw [← Ny513.out] at ho9)); have n0_ := zA (Kd.R_lower ho9 (below_size (by repeat (first | (with_reducible first | exact HB.out | apply zW | apply zX | apply zY | refine zS ?_ GE8F.out | refine zS ?_ GE8G.out) | exact HB.out)))); have n1_ := zA (blk_below (g := gA) (o := .cells #[.int .i64 a0_0, .int .i64 a0_1, .slice A0_2 l0_2.length c0_2] 24 (0, 0)) (by (with_reducible repeat (first | refine zN ?_ _ | refine zD ?_ | refine zB ?_ _)); exact BK8F.out) hb); have n2_ := zA (blk_below (g := gB) (o := .cells #[.int .i64 0, .int .i64 0, .slice none 0 0] 24 (0, 0)) (by (with_reducible repeat (first | refine zN ?_ _ | refine zD ?_ | refine zB ?_ _)); exact BK8G.out) hb); have n3_ := zA (below_step (by repeat (first | (with_reducible first | exact HB.out | apply zW | apply zX | apply zY | refine zS ?_ GE8F.out | refine zS ?_ GE8G.out) | exact HB.out)) hb); clear BK8F; clear BK8G; clear HB; have HO8J := n0_; have BK8F := n1_; have BK8G := n2_; have HB := n3_; clear n0_ n1_ n2_ n3_; clear hb ho9))
   go_loopg [4] k (fun kq v4 w' => ∃ (x3_1 : List Int) (x4_1 : Int), v4 = .int .i64 x4_1 ∧ Aside0 (kimberlitelaw03_own.l0 kq x3_1 x4_1 a0_0 a0_1 l0_2 = some (r1, r2, r3)) ∧ Aside0 (kq ≤ k) ∧ Aside0 (Kd.R (Kd.int .i64) 3 w' w.heap.size (fun _ => True) v514 x3_1) ∧ Aside0 (w'.heap[gA]? = some (.cells #[.int .i64 a0_0, .int .i64 a0_1, (.slice A0_2 l0_2.length c0_2)] 24 (0, 0))) ∧ Aside0 (w'.heap[gB]? = some (.cells #[.int .i64 0, .int .i64 0, (.slice none 0 0)] 24 (0, 0))) ∧ Aside0 (Below w.heap.size w w'))
   case atStart => exact ⟨(y513), (0), (by first | rfl | (simp; done) | (simp [*]; done)), H', ⟨Nat.le_refl _⟩, ⟨by (with_reducible repeat (first | apply Kd.R_alloc | apply Kd.R_drewN | apply Kd.R_drew)); exact HO8J.out⟩, ⟨by (with_reducible repeat (first | refine zN ?_ _ | refine zD ?_ | refine zB ?_ _)); exact BK8F.out⟩, ⟨by (with_reducible repeat (first | refine zN ?_ _ | refine zD ?_ | refine zB ?_ _)); exact BK8G.out⟩, ⟨by repeat (first | (with_reducible first | exact HB.out | apply zW | apply zX | apply zY | refine zS ?_ GE8F.out | refine zS ?_ GE8G.out) | exact HB.out)⟩⟩
   case round =>
    clear H'
    try clear c2
    try clear c2b0
    try clear c2b1
    try clear p2
    try clear c3
    try clear c3b0
    try clear c3b1
    try clear c6
    try clear hcz7_0
    try clear hcz7_1
    try clear hcz7_2
    try clear hfz7_0
    try clear hfz7_1
    try clear hfz7_2
    obtain ⟨x3_1, x4_1, rfl, HA, HK1, HO_3, BK8F, BK8G, HB⟩ := hrel
    cases gk with
    | zero => exact absurd HA.out (by simp [kimberlitelaw03_own.l0])
    | succ k1 =>
     have H := HA.out
     clear HA
     simp only [kimberlitelaw03_own.l0] at H
     by_cases c10 : x4_1 < (x3_1.length : Int)
     ·
      rw [if_pos c10] at H
      have c10b0 : decide (x4_1 < (x3_1.length : Int)) = true := decide_eq_true c10
      clear c10
      by_cases c11 : 0 ≤ x4_1
      ·
       rw [if_pos c11] at H
       have c11b0 : decide (0 ≤ x4_1) = true := decide_eq_true c11
       clear c11
       by_cases c12 : x4_1 < (l0_2.length : Int)
       ·
        rw [if_pos c12] at H
        have c12b0 : decide (x4_1 < (l0_2.length : Int)) = true := decide_eq_true c12
        clear c12
        obtain ⟨y517, hy517⟩ : ∃ y_ : List Int, y_ = (x3_1.set (x4_1 : Int).toNat (rd l0_2 x4_1)) := ⟨_, rfl⟩
        replace H : (kimberlitelaw03_own.l0 k1 y517 (wrap64 (x4_1 + 1)) a0_0 a0_1 l0_2) = some (r1, r2, r3) := by first | (rw [hy517]; with_reducible exact H) | (have H2_ := (Option.bind_some _ _).symm.trans H; rw [hy517]; with_reducible exact H2_) | (have H2_ := (Option.bind_some _ _).symm.trans H; with_reducible exact H2_) | with_reducible exact H | (rw [hy517]; exact H) | exact H
        have Ny517 := zA hy517
        clear hy517
        have H' := zA H
        clear H
        obtain ⟨Ao14, co14, eo14⟩ := Kd.R_slice HO_3.out
        subst eo14
        have hnb15 := NB511_512.out
        have hnc15 := NB512_511.out
        have hcz16_0 : wr.cell? ⟨gA, 0, none⟩ = some (.int .i64 a0_0) := (blk_cell BK8F.out 0).trans rfl
        have hcz16_1 : wr.cell? ⟨gA, 1, none⟩ = some (.int .i64 a0_1) := (blk_cell BK8F.out 1).trans rfl
        have hcz16_2 : wr.cell? ⟨gA, 2, none⟩ = some (.slice A0_2 l0_2.length c0_2) := (blk_cell BK8F.out 2).trans rfl
        have hfz16_0 := blk_frozen BK8F.out 0
        have hfz16_1 := blk_frozen BK8F.out 1
        have hfz16_2 := blk_frozen BK8F.out 2
        have p516 : 0 ≤ (x4_1 : Int) := of_decide_eq_true (by first | (with_reducible assumption) | assumption)
        have q516 : x4_1 < (l0_2.length : Int) := of_decide_eq_true (by first | (with_reducible assumption) | assumption)
        obtain ⟨ad516, e516, hx516_0⟩ := Kd.at_int HR0_2.out x4_1 p516 q516
        cases e516
        replace hx516_0 := (HB.out.cell (World.block_lt_of_cell? w _ hx516_0)).trans hx516_0
        replace p516 := eq_true p516
        replace q516 := eq_true q516
        have p13 : 0 ≤ (x4_1 : Int) := of_decide_eq_true (by first | (with_reducible assumption) | assumption)
        have q13 : (x4_1 : Int) < ((x3_1.length : Int) : Int) := of_decide_eq_true (by first | (with_reducible assumption) | assumption)
        obtain ⟨go13, co13, eo13, gb13, gl13, cl13, HG13⟩ := Kd.R_form HO_3.out (by omega)
        (first | cases eo13 | (injection eo13 with ea_ en_ ec_; (first | subst ea_ | (injection ea_ with ea_; subst ea_)); subst ec_; clear en_))
        have GB13 := zA gb13
        have GG13 := zA HG13
        clear gb13 gl13 HG13
        obtain ⟨hx13_0, hf13_0⟩ := Kd.R_celln 0 HO_3.out (x4_1 : Int) p13 q13
        replace p13 := eq_true p13
        replace q13 := eq_true q13
        have HP17 := Kd.R_putg HO_3.out (x4_1 : Int) (rd l0_2 x4_1)
        go_wp2_with (first | ((with_reducible refine gate_store (t := 3) (p := 22) rfl ?_); refine store_event (t := 3) (p := 22) (v := ?vo_w18) (w1 := (wr.setCell ⟨go13, (x4_1 : Int).toNat, none⟩ (.int .i64 (rd l0_2 x4_1)))) ?hg ?ho ?hn ?hr ?_; (case ho => rfl); (case hg => rfl); (case hn => rfl); (case hr => first | (go_simp; done) | (go_simp; rfl)); intro w18 hw; have hg : wr.grownBy w18 (some go13) := (by rw [hw]; exact HP17.2); have hp_ : Kd.R (Kd.int .i64) 3 w18 w.heap.size (fun _ => True) (.slice (some ⟨go13, 0, none⟩) x3_1.length co14) y517 := (by rw [hw, Ny517.out]; exact HP17.1); clear HP17; have n0_ := zA (hp_); have n1_ := zA (blk_grown (g := gA) (o := .cells #[.int .i64 a0_0, .int .i64 a0_1, .slice (some ad516) l0_2.length c0_2] 24 (0, 0)) (by (with_reducible repeat (first | refine zN ?_ _ | refine zD ?_ | refine zB ?_ _)); exact BK8F.out) hg (Kd.R_ne HO_3.out BK8F.out (by decide))); have n2_ := zA (blk_grown (g := gB) (o := .cells #[.int .i64 0, .int .i64 0, .slice none 0 0] 24 (0, 0)) (by (with_reducible repeat (first | refine zN ?_ _ | refine zD ?_ | refine zB ?_ _)); exact BK8G.out) hg (Kd.R_ne HO_3.out BK8G.out (by decide))); have n3_ := zA ((by rw [hw]; exact zS (HB.out) GB13.out : Below w.heap.size w w18)); clear HO_3; clear BK8F; clear BK8G; clear HB; have HO_3 := n0_; have BK8F := n1_; have BK8G := n2_; have HB := n3_; clear n0_ n1_ n2_ n3_; clear hg hw hp_))
        go_roundg k1
        case measure => have := HK1.out; omega
        case rel => exact ⟨(y517), (wrap64 (x4_1 + 1)), (by first | rfl | (simp; done) | (simp [*]; done)), H', ⟨by have := HK1.out; omega⟩, ⟨by (with_reducible repeat (first | apply Kd.R_alloc | apply Kd.R_drewN | apply Kd.R_drew)); exact HO_3.out⟩, ⟨by (with_reducible repeat (first | refine zN ?_ _ | refine zD ?_ | refine zB ?_ _)); exact BK8F.out⟩, ⟨by (with_reducible repeat (first | refine zN ?_ _ | refine zD ?_ | refine zB ?_ _)); exact BK8G.out⟩, ⟨by repeat (first | (with_reducible first | exact HB.out | apply zW | apply zX | apply zY | refine zS ?_ GE8F.out | refine zS ?_ GE8G.out) | exact HB.out)⟩⟩
       ·
        rw [if_neg c12] at H
        exact absurd H (by simp)
      ·
       rw [if_neg c11] at H
       exact absurd H (by simp)
     ·
      rw [if_neg c10] at H
      have c10b0 : decide (x4_1 < (x3_1.length : Int)) = false := decide_eq_false c10
      clear c10
      simp only [Option.some.injEq, Prod.mk.injEq] at H
      obtain ⟨rfl, rfl, rfl⟩ := H
      obtain ⟨Ao19, co19, eo19⟩ := Kd.R_slice HO_3.out
      subst eo19
      have hnb20 := NB511_512.out
      have hnc20 := NB512_511.out
      have hcz21_0 : wr.cell? ⟨gA, 0, none⟩ = some (.int .i64 a0_0) := (blk_cell BK8F.out 0).trans rfl
      have hcz21_1 : wr.cell? ⟨gA, 1, none⟩ = some (.int .i64 a0_1) := (blk_cell BK8F.out 1).trans rfl
      have hcz21_2 : wr.cell? ⟨gA, 2, none⟩ = some (.slice A0_2 l0_2.length c0_2) := (blk_cell BK8F.out 2).trans rfl
      have hfz21_0 := blk_frozen BK8F.out 0
      have hfz21_1 := blk_frozen BK8F.out 1
      have hfz21_2 := blk_frozen BK8F.out 2
      have hcz22_0 : wr.cell? ⟨gB, 0, none⟩ = some (.int .i64 0) := (blk_cell BK8G.out 0).trans rfl
      have hcz22_1 : wr.cell? ⟨gB, 1, none⟩ = some (.int .i64 0) := (blk_cell BK8G.out 1).trans rfl
      have hcz22_2 : wr.cell? ⟨gB, 2, none⟩ = some (.slice none 0 0) := (blk_cell BK8G.out 2).trans rfl
      have hfz22_0 := blk_frozen BK8G.out 0
      have hfz22_1 := blk_frozen BK8G.out 1
      have hfz22_2 := blk_frozen BK8G.out 2
      go_wp2
      refine bodyPost_ret (results_cell_row rfl _ _ gB 24 #[.int .i64 a0_0, .int .i64 a0_1, .slice Ao19 x3_1.length co19] (0, 0) _ rfl (by (with_reducible repeat (first | refine zN ?_ _ | refine zD ?_ | refine zB ?_ _)); refine blk_put (cs := #[.int .i64 a0_0, .int .i64 a0_1, .slice none 0 0]) ?_ 2 _ rfl; (with_reducible repeat (first | refine zN ?_ _ | refine zD ?_ | refine zB ?_ _)); refine blk_put (cs := #[.int .i64 a0_0, .int .i64 0, .slice none 0 0]) ?_ 1 _ rfl; (with_reducible repeat (first | refine zN ?_ _ | refine zD ?_ | refine zB ?_ _)); refine blk_put (cs := #[.int .i64 0, .int .i64 0, .slice none 0 0]) ?_ 0 _ rfl; (with_reducible repeat (first | refine zN ?_ _ | refine zD ?_ | refine zB ?_ _)); refine blk_far ?_ NB512_511.out _; (with_reducible repeat (first | refine zN ?_ _ | refine zD ?_ | refine zB ?_ _)); exact BK8G.out) Try.underlying24 rfl (by kernel_rfl)) rfl ?_
      exact ⟨_, by first | rfl | (simp [errW_none, errW_some] <;> rfl) | (simp [*, errW_none, errW_some] <;> rfl), by (with_reducible repeat (first | apply Kd.R_alloc | apply Kd.R_drewN | apply Kd.R_drew)); exact Kd.R_mono (Kd.R_far (p := ⟨gB, 2, none⟩) (Kd.R_far (p := ⟨gB, 1, none⟩) (Kd.R_far (p := ⟨gB, 0, none⟩) (Kd.R_far (p := ⟨gA, 2, none⟩) (Kd.R_types (Kd.R_types HO_3.out BK8F.out (by decide)) BK8G.out (by decide)) (fun _ hk => hk.1.2) (.slice Ao19 x3_1.length co19)) (fun _ hk => hk.2) (.int .i64 a0_0)) (fun _ hk => hk.2) (.int .i64 a0_1)) (fun _ hk => hk.2) (.slice Ao19 x3_1.length co19)) (fun _ hk => trivial), by repeat (first | (with_reducible first | exact HB.out | apply zW | apply zX | apply zY | refine zS ?_ GE8F.out | refine zS ?_ GE8G.out) | exact HB.out)⟩
  ·
   rw [if_neg c3] at H
   exact absurd H (by simp)
 ·
  rw [if_neg c2] at H
  exact absurd H (by simp)
end Go.Proofs.Ytfeeaipbmpmpgaa.PX

namespace Go.Proofs.Ytfeeaipbmpmpgaa.PX
open Go.RowKit Go.Proofs.YtfeeaipbmpmpgaaW.PrintWords Go.Proofs.YtfeeaipbmpmpgaaW.PrintLast Go.Proofs.YtfeeaipbmpmpgaaW.PrintMore
set_option linter.unusedVariables false
set_option linter.unusedSimpArgs false

/-! ### own and told -/
theorem own_l0 (a b : Int) (l : List Int) (hl : l.length ≤ 1000) (d : Nat) : ∀ (k i : Nat) (m : List Int), i + d = l.length → d < k → m.length = l.length → m.take i = l.take i →
    kimberlitelaw03_own.l0 k m (i : Int) a b l = some (a, b, l) := by
  induction d with
  | zero =>
    intro k i m hi hk hm ht
    obtain ⟨k, rfl⟩ : ∃ m, k = m + 1 := ⟨k - 1, by omega⟩
    simp only [kimberlitelaw03_own.l0]
    rw [if_neg (by omega)]
    rw [List.take_of_length_le (by omega), List.take_of_length_le (by omega)] at ht
    rw [ht]
  | succ d ih =>
    intro k i m hi hk hm ht
    obtain ⟨k, rfl⟩ : ∃ m, k = m + 1 := ⟨k - 1, by omega⟩
    simp only [kimberlitelaw03_own.l0]
    rw [if_pos (by omega), if_pos (by omega), if_pos (by omega), w64 (x := (i : Int) + 1) (by omega) (by omega), rd_getElem l i (by omega), Int.toNat_natCast]
    refine ih k (i + 1) _ (by omega) (by omega) (by rw [List.length_set]; exact hm) ?_
    rw [List.take_succ_eq_append_getElem (by omega : i < l.length), List.take_succ_eq_append_getElem (by rw [List.length_set]; omega : i < (m.set i l[i]).length), List.take_set_of_le (Nat.le_refl _), ht]
    simp
theorem own_some (a b : Int) (l : List Int) (hl : l.length ≤ 1000) (k : Nat) (hk : l.length < k) : kimberlitelaw03_own.f k a b l = some (a, b, l) := by
  unfold kimberlitelaw03_own.f
  rw [if_pos (by omega), if_pos (by omega), Int.toNat_natCast]
  exact own_l0 a b l hl l.length k 0 _ (by omega) hk (by simp) (by simp)
theorem told_l0 (t : Bool) (a b : Int) (d : Nat) : ∀ (k i : Nat) (m : List Int), i + d = m.length → m.length ≤ 1000 → d < k → ∃ m', kimberlitelaw03_told.l0 k t (i : Int) a b m = some (t, m') := by
  induction d with
  | zero =>
    intro k i m hi hl hk
    obtain ⟨k, rfl⟩ : ∃ m, k = m + 1 := ⟨k - 1, by omega⟩
    simp only [kimberlitelaw03_told.l0]
    rw [if_neg (by omega)]
    exact ⟨_, rfl⟩
  | succ d ih =>
    intro k i m hi hl hk
    obtain ⟨k, rfl⟩ : ∃ m, k = m + 1 := ⟨k - 1, by omega⟩
    simp only [kimberlitelaw03_told.l0]
    rw [if_pos (by omega), if_pos (by omega), w64 (x := (i : Int) + 1) (by omega) (by omega)]
    exact ih k (i + 1) _ (by rw [List.length_set]; omega) (by rw [List.length_set]; omega) (by omega)
theorem told_some (a b : Int) (l : List Int) (e : Int) (a' b' : Int) (l' : List Int) (f : Int) (hl : l.length ≤ 1000) (k : Nat) (hk : 1100 ≤ k) (h : (a, b, l, e) = (a', b', l', f)) : ∃ m, kimberlitelaw03_told.f k a b l e a' b' l' f = some (true, m) := by
  obtain ⟨k, rfl⟩ : ∃ m, k = m + 1 := ⟨k - 1, by omega⟩
  simp only [Prod.mk.injEq] at h
  obtain ⟨rfl, rfl, rfl, rfl⟩ := h
  unfold kimberlitelaw03_told.f
  rw [alike_some a b l a b l (by omega) (k + 1) (by omega)]
  simp only [Option.bind_some, and_self, decide_true, if_true, beq_self_eq_true, kimberlitelaw03_told.j0]
  exact told_l0 true a b l.length k 0 l (by omega) hl (by omega)
end Go.Proofs.Ytfeeaipbmpmpgaa.PX

namespace Go.Proofs.Ytfeeaipbmpmpgaa.PX
open Go.RowKit Go.Proofs.YtfeeaipbmpmpgaaW.PrintWords Go.Proofs.YtfeeaipbmpmpgaaW.PrintLast Go.Proofs.YtfeeaipbmpmpgaaW.PrintMore
attribute [local go_sem] max2_int min2_int max_two min_two max_three min_three max_four min_four   -- for this text's walks alone
set_option linter.unusedVariables false
set_option linter.unusedSimpArgs false
/-! ### kimberlitelaw03_few: function 22 -/
def kimberlitelaw03_few.f (a0_0 : Int) (a0_1 : Int) (l0_2 : List Int) : Option (Bool) := some (decide ((l0_2.length : Int) ≤ 100))
set_option maxHeartbeats 8000000 in
set_option maxRecDepth 100000 in
theorem kimberlitelaw03_few.calls (a0_0 : Int) (a0_1 : Int) (A0_2 : Option Addr) (c0_2 : Nat) (l0_2 : List Int) (r : Bool) (w : World) (hr0_2 : Kd.C (Kd.int .i64) w A0_2 l0_2.length l0_2) (hc0_2 : l0_2.length ≤ c0_2) (h : kimberlitelaw03_few.f a0_0 a0_1 l0_2 = some r) :
  Calls Try.prog 22 #[.agg #[.int .i64 a0_0, .int .i64 a0_1, .slice A0_2 l0_2.length c0_2]] w fun e w' => e = .returned (.bool r) ∧ Below w.heap.size w w' := by
 have hu24 := Try.underlying24
 have HR0_2 := zA hr0_2
 have HC0_2 := zA hc0_2
 clear hr0_2 hc0_2
 have HB := zA (Below.refl w.heap.size w)
 have H : (some (decide ((l0_2.length : Int) ≤ 100))) = some r := h
 clear h
 obtain rfl := Option.some.inj H
 go_enter Try.func22, Try.ntmps22
 go_wp2_with (first | ((with_reducible refine gate_dst (N := 1) rfl ?_); refine box_event ?hg (N := 1) ?hd (cs := #[.int .i64 a0_0, .int .i64 a0_1, .slice A0_2 l0_2.length c0_2]) (t := 24) ?hr ?_; (case hd => rfl); (case hg => rfl); (case hr => first | (go_simp; done) | (go_simp; rfl)); intro gA hg w2 hbox hb; have n0_ := zA (below_step (by repeat (first | (with_reducible first | exact HB.out | apply zW | apply zX | apply zY) | exact HB.out)) hb); have n1_ := zA (hbox); have n2_ := zA ((by rw [hg]; exact (below_size (by repeat (first | (with_reducible first | exact HB.out | apply zW | apply zX | apply zY) | exact HB.out))) : w.heap.size ≤ gA)); have n3_ := zA ((by rw [hg]; exact (below_size (by repeat (first | (with_reducible first | exact HB.out | apply zW | apply zX | apply zY) | exact HB.out))) : w.heap.size ≤ gA)); clear HB; have HB := n0_; have BK5w := n1_; have GW5w := n2_; have GE5w := n3_; clear n0_ n1_ n2_ n3_; clear hb hbox hg; have hcz3_0 : w2.cell? ⟨gA, 0, none⟩ = some (.int .i64 a0_0) := (blk_cell BK5w.out 0).trans rfl; have hcz3_1 : w2.cell? ⟨gA, 1, none⟩ = some (.int .i64 a0_1) := (blk_cell BK5w.out 1).trans rfl; have hcz3_2 : w2.cell? ⟨gA, 2, none⟩ = some (.slice A0_2 l0_2.length c0_2) := (blk_cell BK5w.out 2).trans rfl; have hfz3_0 := blk_frozen BK5w.out 0; have hfz3_1 := blk_frozen BK5w.out 1; have hfz3_2 := blk_frozen BK5w.out 2))
 go_ret
 exact ⟨by first | rfl | (simp [errW_none, errW_some] <;> rfl) | (simp [*, errW_none, errW_some] <;> rfl), by repeat (first | (with_reducible first | exact HB.out | apply zW | apply zX | apply zY | refine zS ?_ GE5w.out) | exact HB.out)⟩
end Go.Proofs.Ytfeeaipbmpmpgaa.PX

namespace Go.Proofs.Ytfeeaipbmpmpgaa.PX
open Go.RowKit Go.Proofs.YtfeeaipbmpmpgaaW.PrintWords Go.Proofs.YtfeeaipbmpmpgaaW.PrintLast Go.Proofs.YtfeeaipbmpmpgaaW.PrintMore
attribute [local go_sem] max2_int min2_int max_two min_two max_three min_three max_four min_four   -- for this text's walks alone
set_option linter.unusedVariables false
set_option linter.unusedSimpArgs false
/-! ### kimberliteref03_Row_has: function 67 -/
def kimberliteref03_Row_has.f (a0_0 : Int) (l0_1 : List Int) (a1 : Int) : Option (Bool) := if a1 ≥ a0_0 then ((kimberliteref03_Row_To.f a0_0 l0_1).bind fun t375 => (some (decide (a1 ≤ t375)))) else (some false)
set_option maxHeartbeats 8000000 in
set_option maxRecDepth 100000 in
theorem kimberliteref03_Row_has.calls (a0_0 : Int) (A0_1 : Option Addr) (c0_1 : Nat) (l0_1 : List Int) (a1 : Int) (r : Bool) (w : World) (hr0_1 : Kd.C (Kd.int .i64) w A0_1 l0_1.length l0_1) (hc0_1 : l0_1.length ≤ c0_1) (h : kimberliteref03_Row_has.f a0_0 l0_1 a1 = some r) :
  Calls Try.prog 67 #[.agg #[.int .i64 a0_0, .slice A0_1 l0_1.length c0_1], .int .i64 a1] w fun e w' => e = .returned (.bool r) ∧ Below w.heap.size w w' := by
 have hu78 := Try.underlying78
 have HR0_1 := zA hr0_1
 have HC0_1 := zA hc0_1
 clear hr0_1 hc0_1
 have HB := zA (Below.refl w.heap.size w)
 have H : (if a1 ≥ a0_0 then ((kimberliteref03_Row_To.f a0_0 l0_1).bind fun t375 => (some (decide (a1 ≤ t375)))) else (some false)) = some r := h
 clear h
 by_cases c3 : a1 ≥ a0_0
 ·
  rw [if_pos c3] at H
  have c3b0 : decide (a0_0 ≤ a1) = true := decide_eq_true c3
  clear c3
  replace H := Option.bind_eq_some_iff.mp H
  obtain ⟨t375, A40, H⟩ := H
  replace H : (some (decide (a1 ≤ t375))) = some r := H
  have A4 := zA A40
  clear A40
  obtain rfl := Option.some.inj H
  go_enter Try.func67, Try.ntmps67
  go_wp2_with (first | ((with_reducible refine gate_dst (N := 2) rfl ?_); refine box_event ?hg (N := 2) ?hd (cs := #[.int .i64 a0_0, .slice A0_1 l0_1.length c0_1]) (t := 78) ?hr ?_; (case hd => rfl); (case hg => rfl); (case hr => first | (go_simp; done) | (go_simp; rfl)); intro gA hg w5 hbox hb; have n0_ := zA (below_step (by repeat (first | (with_reducible first | exact HB.out | apply zW | apply zX | apply zY) | exact HB.out)) hb); have n1_ := zA (hbox); have n2_ := zA ((by rw [hg]; exact (below_size (by repeat (first | (with_reducible first | exact HB.out | apply zW | apply zX | apply zY) | exact HB.out))) : w.heap.size ≤ gA)); have n3_ := zA ((by rw [hg]; exact (below_size (by repeat (first | (with_reducible first | exact HB.out | apply zW | apply zX | apply zY) | exact HB.out))) : w.heap.size ≤ gA)); clear HB; have HB := n0_; have BK62 := n1_; have GW62 := n2_; have GE62 := n3_; clear n0_ n1_ n2_ n3_; clear hb hbox hg; have hcz6_0 : w5.cell? ⟨gA, 0, none⟩ = some (.int .i64 a0_0) := (blk_cell BK62.out 0).trans rfl; have hcz6_1 : w5.cell? ⟨gA, 1, none⟩ = some (.slice A0_1 l0_1.length c0_1) := (blk_cell BK62.out 1).trans rfl; have hfz6_0 := blk_frozen BK62.out 0; have hfz6_1 := blk_frozen BK62.out 1) | (go_at_call 65; (with_reducible refine (kimberliteref03_Row_To.calls a0_0 _ _ l0_1 t375 _ ?side1 ?side2 A4.out).mono ?_); (case side1 => repeat (first | exact (Kd.C_below HR0_1.out HB.out) | (with_reducible refine Kd.C_alloc ?_ _) | (with_reducible refine Kd.C_drewN ?_ _) | (with_reducible refine Kd.C_drew ?_))); (case side2 => exact HC0_1.out); rintro e w7 ⟨rfl, hb⟩; have n0_ := zA (blk_below (g := gA) (o := .cells #[.int .i64 a0_0, .slice A0_1 l0_1.length c0_1] 78 (0, 0)) (by (with_reducible repeat (first | refine zN ?_ _ | refine zD ?_ | refine zB ?_ _)); exact BK62.out) hb); have n1_ := zA (below_step (by repeat (first | (with_reducible first | exact HB.out | apply zW | apply zX | apply zY | refine zS ?_ GE62.out) | exact HB.out)) hb); clear BK62; clear HB; have BK62 := n0_; have HB := n1_; clear n0_ n1_; (try clear hb); (try clear hb2); (try clear hk); (try clear hi)))
  go_ret
  exact ⟨by first | rfl | (simp [errW_none, errW_some] <;> rfl) | (simp [*, errW_none, errW_some] <;> rfl), by repeat (first | (with_reducible first | exact HB.out | apply zW | apply zX | apply zY | refine zS ?_ GE62.out) | exact HB.out)⟩
 ·
  rw [if_neg c3] at H
  have c3b0 : decide (a0_0 ≤ a1) = false := decide_eq_false c3
  clear c3
  obtain rfl := Option.some.inj H
  go_enter Try.func67, Try.ntmps67
  go_wp2_with (first | ((with_reducible refine gate_dst (N := 2) rfl ?_); refine box_event ?hg (N := 2) ?hd (cs := #[.int .i64 a0_0, .slice A0_1 l0_1.length c0_1]) (t := 78) ?hr ?_; (case hd => rfl); (case hg => rfl); (case hr => first | (go_simp; done) | (go_simp; rfl)); intro gA hg w8 hbox hb; have n0_ := zA (below_step (by repeat (first | (with_reducible first | exact HB.out | apply zW | apply zX | apply zY) | exact HB.out)) hb); have n1_ := zA (hbox); have n2_ := zA ((by rw [hg]; exact (below_size (by repeat (first | (with_reducible first | exact HB.out | apply zW | apply zX | apply zY) | exact HB.out))) : w.heap.size ≤ gA)); have n3_ := zA ((by rw [hg]; exact (below_size (by repeat (first | (with_reducible first | exact HB.out | apply zW | apply zX | apply zY) | exact HB.out))) : w.heap.size ≤ gA)); clear HB; have HB := n0_; have BK62 := n1_; have GW62 := n2_; have GE62 := n3_; clear n0_ n1_ n2_ n3_; clear hb hbox hg; have hcz9_0 : w8.cell? ⟨gA, 0, none⟩ = some (.int .i64 a0_0) := (blk_cell BK62.out 0).trans rfl; have hcz9_1 : w8.cell? ⟨gA, 1, none⟩ = some (.slice A0_1 l0_1.length c0_1) := (blk_cell BK62.out 1).trans rfl; have hfz9_0 := blk_frozen BK62.out 0; have hfz9_1 := blk_frozen BK62.out 1))
  go_ret
  exact ⟨by first | rfl | (simp [errW_none, errW_some] <;> rfl) | (simp [*, errW_none, errW_some] <;> rfl), by repeat (first | (with_reducible first | exact HB.out | apply zW | apply zX | apply zY | refine zS ?_ GE62.out) | exact HB.out)⟩
end Go.Proofs.Ytfeeaipbmpmpgaa.PX

namespace Go.Proofs.Ytfeeaipbmpmpgaa.PX
open Go.RowKit Go.Proofs.YtfeeaipbmpmpgaaW.PrintWords Go.Proofs.YtfeeaipbmpmpgaaW.PrintLast Go.Proofs.YtfeeaipbmpmpgaaW.PrintMore
attribute [local go_sem] max2_int min2_int max_two min_two max_three min_three max_four min_four   -- for this text's walks alone
set_option linter.unusedVariables false
set_option linter.unusedSimpArgs false
/-! ### kimberliteref03_At: function 29 -/
def kimberliteref03_At.f (k : Nat) (a0_0 : Int) (a0_1 : Int) (l0_2 : List Int) (a1 : Int) : Option (Int × Int) := (kimberliteref03_Valid.f k a0_0 a0_1 l0_2).bind fun t519 => (if t519 = true then ((kimberliteref03_Out.f k a0_0 a0_1 l0_2).bind fun bt520 => ((kimberliteref03_Row_has.f bt520.1 bt520.2 a1).bind fun t525 => (if t525 = true then ((kimberliteref03_Row_Value.f bt520.1 bt520.2 a1).bind fun t526 => (some (t526, 0))) else (some (0, 6))))) else (some (0, 2)))
theorem kimberliteref03_At.mono : ∀ a0 a1 a2 a3 k, LeO (kimberliteref03_At.f k a0 a1 a2 a3) (kimberliteref03_At.f (k + 1) a0 a1 a2 a3) := by
 intro a0 a1 a2 a3 k
 unfold kimberliteref03_At.f
 repeat' first
   | (with_reducible exact kimberliteref03_Out.mono _ _ _ _)
   | (with_reducible exact kimberliteref03_Valid.mono _ _ _ _)
   | (with_reducible exact LeO.refl _)
   | (with_reducible exact LeO.none _)
   | (with_reducible refine LeO.ite ?_ ?_)
   | (with_reducible refine LeO.bind ?_ (fun _ => ?_))
   | exact kimberliteref03_Out.mono _ _ _ _
   | exact kimberliteref03_Valid.mono _ _ _ _
   | exact LeO.none _
   | refine LeO.ite ?_ ?_
   | refine LeO.bind ?_ (fun _ => ?_)
set_option maxHeartbeats 8000000 in
set_option maxRecDepth 100000 in
theorem kimberliteref03_At.calls (k : Nat) (a0_0 : Int) (a0_1 : Int) (A0_2 : Option Addr) (c0_2 : Nat) (l0_2 : List Int) (a1 : Int) (r1 : Int) (r2 : Int) (w : World) (hr0_2 : Kd.C (Kd.int .i64) w A0_2 l0_2.length l0_2) (hc0_2 : l0_2.length ≤ c0_2) (h : kimberliteref03_At.f k a0_0 a0_1 l0_2 a1 = some (r1, r2)) :
  Calls Try.prog 29 #[.agg #[.int .i64 a0_0, .int .i64 a0_1, .slice A0_2 l0_2.length c0_2], .int .i64 a1] w fun e w' => e = .returned (.tuple #[.int .i64 r1, .int .i64 r2]) ∧ Below w.heap.size w w' := by
 have hu24 := Try.underlying24
 have hu78 := Try.underlying78
 have HR0_2 := zA hr0_2
 have HC0_2 := zA hc0_2
 clear hr0_2 hc0_2
 have HB := zA (Below.refl w.heap.size w)
 have H : ((kimberliteref03_Valid.f k a0_0 a0_1 l0_2).bind fun t519 => (if t519 = true then ((kimberliteref03_Out.f k a0_0 a0_1 l0_2).bind fun bt520 => ((kimberliteref03_Row_has.f bt520.1 bt520.2 a1).bind fun t525 => (if t525 = true then ((kimberliteref03_Row_Value.f bt520.1 bt520.2 a1).bind fun t526 => (some (t526, 0))) else (some (0, 6))))) else (some (0, 2)))) = some (r1, r2) := h
 clear h
 replace H := Option.bind_eq_some_iff.mp H
 obtain ⟨t519, A30, H⟩ := H
 replace H : (if t519 = true then ((kimberliteref03_Out.f k a0_0 a0_1 l0_2).bind fun bt520 => ((kimberliteref03_Row_has.f bt520.1 bt520.2 a1).bind fun t525 => (if t525 = true then ((kimberliteref03_Row_Value.f bt520.1 bt520.2 a1).bind fun t526 => (some (t526, 0))) else (some (0, 6))))) else (some (0, 2))) = some (r1, r2) := H
 have A3 := zA A30
 clear A30
 by_cases c4 : t519 = true
 ·
  subst c4
  have H1 : ((kimberliteref03_Out.f k a0_0 a0_1 l0_2).bind fun bt520 => ((kimberliteref03_Row_has.f bt520.1 bt520.2 a1).bind fun t525 => (if t525 = true then ((kimberliteref03_Row_Value.f bt520.1 bt520.2 a1).bind fun t526 => (some (t526, 0))) else (some (0, 6))))) = some (r1, r2) := by rw [if_pos rfl] at H; exact H
  clear H
  have H := H1
  clear H1
  replace H := Option.bind_eq_some_iff.mp H
  obtain ⟨⟨t520, t521⟩, A50, H⟩ := H
  replace H : ((kimberliteref03_Row_has.f t520 t521 a1).bind fun t525 => (if t525 = true then ((kimberliteref03_Row_Value.f t520 t521 a1).bind fun t526 => (some (t526, 0))) else (some (0, 6)))) = some (r1, r2) := H
  have A5 := zA A50
  clear A50
  replace H := Option.bind_eq_some_iff.mp H
  obtain ⟨t525, A60, H⟩ := H
  replace H : (if t525 = true then ((kimberliteref03_Row_Value.f t520 t521 a1).bind fun t526 => (some (t526, 0))) else (some (0, 6))) = some (r1, r2) := H
  have A6 := zA A60
  clear A60
  by_cases c7 : t525 = true
  ·
   subst c7
   have H1 : ((kimberliteref03_Row_Value.f t520 t521 a1).bind fun t526 => (some (t526, 0))) = some (r1, r2) := by rw [if_pos rfl] at H; exact H
   clear H
   have H := H1
   clear H1
   replace H := Option.bind_eq_some_iff.mp H
   obtain ⟨t526, A80, H⟩ := H
   replace H : (some (t526, 0)) = some (r1, r2) := H
   have A8 := zA A80
   clear A80
   simp only [Option.some.injEq, Prod.mk.injEq] at H
   obtain ⟨rfl, rfl⟩ := H
   go_enter Try.func29, Try.ntmps29
   go_wp2_with (first | ((with_reducible refine gate_dst (N := 2) rfl ?_); refine box_event ?hg (N := 2) ?hd (cs := #[.int .i64 a0_0, .int .i64 a0_1, .slice A0_2 l0_2.length c0_2]) (t := 24) ?hr ?_; (case hd => rfl); (case hg => rfl); (case hr => first | (go_simp; done) | (go_simp; rfl)); intro gA hg w9 hbox hb; have n0_ := zA (below_step (by repeat (first | (with_reducible first | exact HB.out | apply zW | apply zX | apply zY) | exact HB.out)) hb); have n1_ := zA (hbox); have n2_ := zA ((by rw [hg]; exact (below_size (by repeat (first | (with_reducible first | exact HB.out | apply zW | apply zX | apply zY) | exact HB.out))) : w.heap.size ≤ gA)); have n3_ := zA ((by rw [hg]; exact (below_size (by repeat (first | (with_reducible first | exact HB.out | apply zW | apply zX | apply zY) | exact HB.out))) : w.heap.size ≤ gA)); clear HB; have HB := n0_; have BK8M := n1_; have GW8M := n2_; have GE8M := n3_; clear n0_ n1_ n2_ n3_; clear hb hbox hg; have hcz10_0 : w9.cell? ⟨gA, 0, none⟩ = some (.int .i64 a0_0) := (blk_cell BK8M.out 0).trans rfl; have hcz10_1 : w9.cell? ⟨gA, 1, none⟩ = some (.int .i64 a0_1) := (blk_cell BK8M.out 1).trans rfl; have hcz10_2 : w9.cell? ⟨gA, 2, none⟩ = some (.slice A0_2 l0_2.length c0_2) := (blk_cell BK8M.out 2).trans rfl; have hfz10_0 := blk_frozen BK8M.out 0; have hfz10_1 := blk_frozen BK8M.out 1; have hfz10_2 := blk_frozen BK8M.out 2) | ((with_reducible refine gate_callee (f := 30) rfl ?_); refine goesL_ (some 8) rfl rfl Try.func30 (by kernel_rfl) rfl #[.agg #[.int .i64 a0_0, .int .i64 a0_1, .slice A0_2 l0_2.length c0_2]] rfl (by (try simp only [List.map_toArray, List.map_cons, List.map_nil]); first | done | rfl | (simp only [List.length_drop, List.length_take]; rfl)) ?_; (with_reducible refine (kimberliteref03_Valid.calls k a0_0 a0_1 _ _ l0_2 true _ ?side1 ?side2 A3.out).mono ?_); (case side1 => repeat (first | exact (Kd.C_below HR0_2.out HB.out) | (with_reducible refine Kd.C_alloc ?_ _) | (with_reducible refine Kd.C_drewN ?_ _) | (with_reducible refine Kd.C_drew ?_))); (case side2 => exact HC0_2.out); rintro e w11 ⟨rfl, hb⟩; refine ⟨_, rfl, ?_⟩; have n0_ := zA (blk_below (g := gA) (o := .cells #[.int .i64 a0_0, .int .i64 a0_1, .slice A0_2 l0_2.length c0_2] 24 (0, 0)) (by (with_reducible repeat (first | refine zN ?_ _ | refine zD ?_ | refine zB ?_ _)); exact BK8M.out) hb); have n1_ := zA (below_step (by repeat (first | (with_reducible first | exact HB.out | apply zW | apply zX | apply zY | refine zS ?_ GE8M.out) | exact HB.out)) hb); clear BK8M; clear HB; have BK8M := n0_; have HB := n1_; clear n0_ n1_; (try clear hb); (try clear hb2); (try clear hk); (try clear hi); have hcz12_0 : w11.cell? ⟨gA, 0, none⟩ = some (.int .i64 a0_0) := (blk_cell BK8M.out 0).trans rfl; have hcz12_1 : w11.cell? ⟨gA, 1, none⟩ = some (.int .i64 a0_1) := (blk_cell BK8M.out 1).trans rfl; have hcz12_2 : w11.cell? ⟨gA, 2, none⟩ = some (.slice A0_2 l0_2.length c0_2) := (blk_cell BK8M.out 2).trans rfl; have hfz12_0 := blk_frozen BK8M.out 0; have hfz12_1 := blk_frozen BK8M.out 1; have hfz12_2 := blk_frozen BK8M.out 2) | ((with_reducible refine gate_callee (f := 64) rfl ?_); refine goesL_ (some 11) rfl rfl Try.func64 (by kernel_rfl) rfl #[.agg #[.int .i64 a0_0, .int .i64 a0_1, .slice A0_2 l0_2.length c0_2]] rfl (by (try simp only [List.map_toArray, List.map_cons, List.map_nil]); first | done | rfl | (simp only [List.length_drop, List.length_take]; rfl)) ?_; (with_reducible refine (kimberliteref03_Out.calls k a0_0 a0_1 _ _ l0_2 t520 t521 _ ?side1 ?side2 A5.out).mono ?_); (case side1 => repeat (first | exact (Kd.C_below HR0_2.out HB.out) | (with_reducible refine Kd.C_alloc ?_ _) | (with_reducible refine Kd.C_drewN ?_ _) | (with_reducible refine Kd.C_drew ?_))); (case side2 => exact HC0_2.out); rintro e w13 ⟨v522, rfl, ho0, hb⟩; refine ⟨_, rfl, ?_⟩; have n0_ := zA (Kd.R_lower ho0 (below_size (by repeat (first | (with_reducible first | exact HB.out | apply zW | apply zX | apply zY | refine zS ?_ GE8M.out) | exact HB.out)))); have n1_ := zA (blk_below (g := gA) (o := .cells #[.int .i64 a0_0, .int .i64 a0_1, .slice A0_2 l0_2.length c0_2] 24 (0, 0)) (by (with_reducible repeat (first | refine zN ?_ _ | refine zD ?_ | refine zB ?_ _)); exact BK8M.out) hb); have n2_ := zA (below_step (by repeat (first | (with_reducible first | exact HB.out | apply zW | apply zX | apply zY | refine zS ?_ GE8M.out) | exact HB.out)) hb); clear BK8M; clear HB; have HO8R := n0_; have BK8M := n1_; have HB := n2_; clear n0_ n1_ n2_; (try clear hb); (try clear hb2); (try clear hk); (try clear hi); (try clear ho0)) | ((with_reducible refine gate_dst (N := 6) rfl ?_); refine box_event ?hg (N := 6) ?hd (cs := #[.int .i64 0, .slice none 0 0]) (t := 78) ?hr ?_; (case hd => rfl); (case hg => rfl); (case hr => first | (go_simp; done) | (go_simp; rfl)); intro gB hg w14 hbox hb; have n0_ := zA (Kd.R_below (by (with_reducible repeat (first | apply Kd.R_alloc | apply Kd.R_drewN | apply Kd.R_drew)); exact HO8R.out) hb); have n1_ := zA (blk_below (g := gA) (o := .cells #[.int .i64 a0_0, .int .i64 a0_1, .slice A0_2 l0_2.length c0_2] 24 (0, 0)) (by (with_reducible repeat (first | refine zN ?_ _ | refine zD ?_ | refine zB ?_ _)); exact BK8M.out) hb); have n2_ := zA (below_step (by repeat (first | (with_reducible first | exact HB.out | apply zW | apply zX | apply zY | refine zS ?_ GE8M.out) | exact HB.out)) hb); have n3_ := zA (hbox); have n4_ := zA ((by rw [hg]; exact (below_size (by repeat (first | (with_reducible first | exact HB.out | apply zW | apply zX | apply zY | refine zS ?_ GE8M.out) | exact HB.out))) : w.heap.size ≤ gB)); have n5_ := zA ((by rw [hg]; exact (below_size (by repeat (first | (with_reducible first | exact HB.out | apply zW | apply zX | apply zY | refine zS ?_ GE8M.out) | exact HB.out))) : w.heap.size ≤ gB)); have n6_ := zA ((by rw [hg]; exact Nat.ne_of_lt (blk_lt (g := gA) (o := .cells #[.int .i64 a0_0, .int .i64 a0_1, .slice A0_2 l0_2.length c0_2] 24 (0, 0)) (by (with_reducible repeat (first | refine zN ?_ _ | refine zD ?_ | refine zB ?_ _)); exact BK8M.out)) : gA ≠ gB)); have n7_ := zA ((by rw [hg]; exact Nat.ne_of_gt (blk_lt (g := gA) (o := .cells #[.int .i64 a0_0, .int .i64 a0_1, .slice A0_2 l0_2.length c0_2] 24 (0, 0)) (by (with_reducible repeat (first | refine zN ?_ _ | refine zD ?_ | refine zB ?_ _)); exact BK8M.out)) : gB ≠ gA)); clear HO8R; clear BK8M; clear HB; have HO8R := n0_; have BK8M := n1_; have HB := n2_; have BK8S := n3_; have GW8S := n4_; have GE8S := n5_; have NB518_524 := n6_; have NB524_518 := n7_; clear n0_ n1_ n2_ n3_ n4_ n5_ n6_ n7_; clear hb hbox hg; have hnb15 := NB524_518.out; have hnc15 := NB518_524.out; have hcz16_0 : w14.cell? ⟨gB, 0, none⟩ = some (.int .i64 0) := (blk_cell BK8S.out 0).trans rfl; have hcz16_1 : w14.cell? ⟨gB, 1, none⟩ = some (.slice none 0 0) := (blk_cell BK8S.out 1).trans rfl; have hfz16_0 := blk_frozen BK8S.out 0; have hfz16_1 := blk_frozen BK8S.out 1; obtain ⟨Ao17, co17, eo17⟩ := Kd.R_slice HO8R.out; subst eo17) | ((with_reducible refine gate_callee (f := 67) rfl ?_); refine goesL_ (some 14) rfl rfl Try.func67 (by kernel_rfl) rfl #[.agg #[.int .i64 t520, .slice Ao17 t521.length co17], .int .i64 a1] rfl (by (try simp only [List.map_toArray, List.map_cons, List.map_nil]); first | done | rfl | (simp only [List.length_drop, List.length_take]; rfl)) ?_; (with_reducible refine (kimberliteref03_Row_has.calls t520 _ _ t521 a1 true _ ?side1 ?side2 A6.out).mono ?_); (case side1 => refine (Kd.R_reads' (e := 3) (base := w.heap.size) (ok := fun k_ => True) (n := t521.length) (c := co17) ?_).2.2; exact (by (with_reducible repeat (first | apply Kd.R_alloc | apply Kd.R_drewN | apply Kd.R_drew)); exact (Kd.R_mono (Kd.R_far (p := ⟨gB, 1, none⟩) (Kd.R_far (p := ⟨gB, 0, none⟩) (Kd.R_types HO8R.out BK8S.out (by decide)) (fun _ hk => hk.2) (.int .i64 t520)) (fun _ hk => hk.2) (.slice Ao17 t521.length co17)) (fun _ h_ => h_.1)))); (case side2 => exact (Kd.R_reads' HO8R.out).2.1); rintro e w18 ⟨rfl, hb⟩; refine ⟨_, rfl, ?_⟩; have n0_ := zA (Kd.R_below (by (with_reducible repeat (first | apply Kd.R_alloc | apply Kd.R_drewN | apply Kd.R_drew)); exact (Kd.R_mono (Kd.R_far (p := ⟨gB, 1, none⟩) (Kd.R_far (p := ⟨gB, 0, none⟩) (Kd.R_types HO8R.out BK8S.out (by decide)) (fun _ hk => hk.2) (.int .i64 t520)) (fun _ hk => hk.2) (.slice Ao17 t521.length co17)) (fun _ h_ => h_.1))) hb); have n1_ := zA (blk_below (g := gA) (o := .cells #[.int .i64 a0_0, .int .i64 a0_1, .slice A0_2 l0_2.length c0_2] 24 (0, 0)) (by (with_reducible repeat (first | refine zN ?_ _ | refine zD ?_ | refine zB ?_ _)); refine blk_far ?_ NB518_524.out _; (with_reducible repeat (first | refine zN ?_ _ | refine zD ?_ | refine zB ?_ _)); refine blk_far ?_ NB518_524.out _; (with_reducible repeat (first | refine zN ?_ _ | refine zD ?_ | refine zB ?_ _)); exact BK8M.out) hb); have n2_ := zA (blk_below (g := gB) (o := .cells #[.int .i64 t520, .slice Ao17 t521.length co17] 78 (0, 0)) (by (with_reducible repeat (first | refine zN ?_ _ | refine zD ?_ | refine zB ?_ _)); refine blk_put (cs := #[.int .i64 t520, .slice none 0 0]) ?_ 1 _ rfl; (with_reducible repeat (first | refine zN ?_ _ | refine zD ?_ | refine zB ?_ _)); refine blk_put (cs := #[.int .i64 0, .slice none 0 0]) ?_ 0 _ rfl; (with_reducible repeat (first | refine zN ?_ _ | refine zD ?_ | refine zB ?_ _)); exact BK8S.out) hb); have n3_ := zA (below_step (by repeat (first | (with_reducible first | exact HB.out | apply zW | apply zX | apply zY | refine zS ?_ GE8M.out | refine zS ?_ GE8S.out) | exact HB.out)) hb); clear HO8R; clear BK8M; clear BK8S; clear HB; have HO8R := n0_; have BK8M := n1_; have BK8S := n2_; have HB := n3_; clear n0_ n1_ n2_ n3_; (try clear hb); (try clear hb2); (try clear hk); (try clear hi); have hcz19_0 : w18.cell? ⟨gB, 0, none⟩ = some (.int .i64 t520) := (blk_cell BK8S.out 0).trans rfl; have hcz19_1 : w18.cell? ⟨gB, 1, none⟩ = some (.slice Ao17 t521.length co17) := (blk_cell BK8S.out 1).trans rfl; have hfz19_0 := blk_frozen BK8S.out 0; have hfz19_1 := blk_frozen BK8S.out 1) | ((with_reducible refine gate_callee (f := 68) rfl ?_); refine goesL_ (some 18) rfl rfl Try.func68 (by kernel_rfl) rfl #[.agg #[.int .i64 t520, .slice Ao17 t521.length co17], .int .i64 a1] rfl (by (try simp only [List.map_toArray, List.map_cons, List.map_nil]); first | done | rfl | (simp only [List.length_drop, List.length_take]; rfl)) ?_; (with_reducible refine (kimberliteref03_Row_Value.calls t520 _ _ t521 a1 t526 _ ?side1 ?side2 A8.out).mono ?_); (case side1 => repeat (first | exact (Kd.R_reads' HO8R.out).2.2 | (with_reducible refine Kd.C_alloc ?_ _) | (with_reducible refine Kd.C_drewN ?_ _) | (with_reducible refine Kd.C_drew ?_))); (case side2 => exact (Kd.R_reads' HO8R.out).2.1); rintro e w20 ⟨rfl, hb⟩; refine ⟨_, rfl, ?_⟩; have n0_ := zA (Kd.R_below (by (with_reducible repeat (first | apply Kd.R_alloc | apply Kd.R_drewN | apply Kd.R_drew)); exact HO8R.out) hb); have n1_ := zA (blk_below (g := gA) (o := .cells #[.int .i64 a0_0, .int .i64 a0_1, .slice A0_2 l0_2.length c0_2] 24 (0, 0)) (by (with_reducible repeat (first | refine zN ?_ _ | refine zD ?_ | refine zB ?_ _)); exact BK8M.out) hb); have n2_ := zA (blk_below (g := gB) (o := .cells #[.int .i64 t520, .slice Ao17 t521.length co17] 78 (0, 0)) (by (with_reducible repeat (first | refine zN ?_ _ | refine zD ?_ | refine zB ?_ _)); exact BK8S.out) hb); have n3_ := zA (below_step (by repeat (first | (with_reducible first | exact HB.out | apply zW | apply zX | apply zY | refine zS ?_ GE8M.out | refine zS ?_ GE8S.out) | exact HB.out)) hb); clear HO8R; clear BK8M; clear BK8S; clear HB; have HO8R := n0_; have BK8M := n1_; have BK8S := n2_; have HB := n3_; clear n0_ n1_ n2_ n3_; (try clear hb); (try clear hb2); (try clear hk); (try clear hi)))
   go_ret2
   exact ⟨by first | rfl | (simp [errW_none, errW_some] <;> rfl) | (simp [*, errW_none, errW_some] <;> rfl), by repeat (first | (with_reducible first | exact HB.out | apply zW | apply zX | apply zY | refine zS ?_ GE8M.out | refine zS ?_ GE8S.out) | exact HB.out)⟩
  ·
   replace c7 := Bool.eq_false_iff.mpr c7
   subst c7
   have H1 : (some (0, 6)) = some (r1, r2) := by rw [if_neg (show ¬ (false = true) by decide)] at H; exact H
   clear H
   have H := H1
   clear H1
   simp only [Option.some.injEq, Prod.mk.injEq] at H
   obtain ⟨rfl, rfl⟩ := H
   go_enter Try.func29, Try.ntmps29
   go_wp2_with (first | ((with_reducible refine gate_dst (N := 2) rfl ?_); refine box_event ?hg (N := 2) ?hd (cs := #[.int .i64 a0_0, .int .i64 a0_1, .slice A0_2 l0_2.length c0_2]) (t := 24) ?hr ?_; (case hd => rfl); (case hg => rfl); (case hr => first | (go_simp; done) | (go_simp; rfl)); intro gA hg w21 hbox hb; have n0_ := zA (below_step (by repeat (first | (with_reducible first | exact HB.out | apply zW | apply zX | apply zY) | exact HB.out)) hb); have n1_ := zA (hbox); have n2_ := zA ((by rw [hg]; exact (below_size (by repeat (first | (with_reducible first | exact HB.out | apply zW | apply zX | apply zY) | exact HB.out))) : w.heap.size ≤ gA)); have n3_ := zA ((by rw [hg]; exact (below_size (by repeat (first | (with_reducible first | exact HB.out | apply zW | apply zX | apply zY) | exact HB.out))) : w.heap.size ≤ gA)); clear HB; have HB := n0_; have BK8M := n1_; have GW8M := n2_; have GE8M := n3_; clear n0_ n1_ n2_ n3_; clear hb hbox hg; have hcz22_0 : w21.cell? ⟨gA, 0, none⟩ = some (.int .i64 a0_0) := (blk_cell BK8M.out 0).trans rfl; have hcz22_1 : w21.cell? ⟨gA, 1, none⟩ = some (.int .i64 a0_1) := (blk_cell BK8M.out 1).trans rfl; have hcz22_2 : w21.cell? ⟨gA, 2, none⟩ = some (.slice A0_2 l0_2.length c0_2) := (blk_cell BK8M.out 2).trans rfl; have hfz22_0 := blk_frozen BK8M.out 0; have hfz22_1 := blk_frozen BK8M.out 1; have hfz22_2 := blk_frozen BK8M.out 2) | ((with_reducible refine gate_callee (f := 30) rfl ?_); refine goesL_ (some 8) rfl rfl Try.func30 (by kernel_rfl) rfl #[.agg #[.int .i64 a0_0, .int .i64 a0_1, .slice A0_2 l0_2.length c0_2]] rfl (by (try simp only [List.map_toArray, List.map_cons, List.map_nil]); first | done | rfl | (simp only [List.length_drop, List.length_take]; rfl)) ?_; (with_reducible refine (kimberliteref03_Valid.calls k a0_0 a0_1 _ _ l0_2 true _ ?side1 ?side2 A3.out).mono ?_); (case side1 => repeat (first | exact (Kd.C_below HR0_2.out HB.out) | (with_reducible refine Kd.C_alloc ?_ _) | (with_reducible refine Kd.C_drewN ?_ _) | (with_reducible refine Kd.C_drew ?_))); (case side2 => exact HC0_2.out); rintro e w23 ⟨rfl, hb⟩; refine ⟨_, rfl, ?_⟩; have n0_ := zA (blk_below (g := gA) (o := .cells #[.int .i64 a0_0, .int .i64 a0_1, .slice A0_2 l0_2.length c0_2] 24 (0, 0)) (by (with_reducible repeat (first | refine zN ?_ _ | refine zD ?_ | refine zB ?_ _)); exact BK8M.out) hb); have n1_ := zA (below_step (by repeat (first | (with_reducible first | exact HB.out | apply zW | apply zX | apply zY | refine zS ?_ GE8M.out) | exact HB.out)) hb); clear BK8M; clear HB; have BK8M := n0_; have HB := n1_; clear n0_ n1_; (try clear hb); (try clear hb2); (try clear hk); (try clear hi); have hcz24_0 : w23.cell? ⟨gA, 0, none⟩ = some (.int .i64 a0_0) := (blk_cell BK8M.out 0).trans rfl; have hcz24_1 : w23.cell? ⟨gA, 1, none⟩ = some (.int .i64 a0_1) := (blk_cell BK8M.out 1).trans rfl; have hcz24_2 : w23.cell? ⟨gA, 2, none⟩ = some (.slice A0_2 l0_2.length c0_2) := (blk_cell BK8M.out 2).trans rfl; have hfz24_0 := blk_frozen BK8M.out 0; have hfz24_1 := blk_frozen BK8M.out 1; have hfz24_2 := blk_frozen BK8M.out 2) | ((with_reducible refine gate_callee (f := 64) rfl ?_); refine goesL_ (some 11) rfl rfl Try.func64 (by kernel_rfl) rfl #[.agg #[.int .i64 a0_0, .int .i64 a0_1, .slice A0_2 l0_2.length c0_2]] rfl (by (try simp only [List.map_toArray, List.map_cons, List.map_nil]); first | done | rfl | (simp only [List.length_drop, List.length_take]; rfl)) ?_; (with_reducible refine (kimberliteref03_Out.calls k a0_0 a0_1 _ _ l0_2 t520 t521 _ ?side1 ?side2 A5.out).mono ?_); (case side1 => repeat (first | exact (Kd.C_below HR0_2.out HB.out) | (with_reducible refine Kd.C_alloc ?_ _) | (with_reducible refine Kd.C_drewN ?_ _) | (with_reducible refine Kd.C_drew ?_))); (case side2 => exact HC0_2.out); rintro e w25 ⟨v522, rfl, ho0, hb⟩; refine ⟨_, rfl, ?_⟩; have n0_ := zA (Kd.R_lower ho0 (below_size (by repeat (first | (with_reducible first | exact HB.out | apply zW | apply zX | apply zY | refine zS ?_ GE8M.out) | exact HB.out)))); have n1_ := zA (blk_below (g := gA) (o := .cells #[.int .i64 a0_0, .int .i64 a0_1, .slice A0_2 l0_2.length c0_2] 24 (0, 0)) (by (with_reducible repeat (first | refine zN ?_ _ | refine zD ?_ | refine zB ?_ _)); exact BK8M.out) hb); have n2_ := zA (below_step (by repeat (first | (with_reducible first | exact HB.out | apply zW | apply zX | apply zY | refine zS ?_ GE8M.out) | exact HB.out)) hb); clear BK8M; clear HB; have HO8R := n0_; have BK8M := n1_; have HB := n2_; clear n0_ n1_ n2_; (try clear hb); (try clear hb2); (try clear hk); (try clear hi); (try clear ho0)) | ((with_reducible refine gate_dst (N := 6) rfl ?_); refine box_event ?hg (N := 6) ?hd (cs := #[.int .i64 0, .slice none 0 0]) (t := 78) ?hr ?_; (case hd => rfl); (case hg => rfl); (case hr => first | (go_simp; done) | (go_simp; rfl)); intro gB hg w26 hbox hb; have n0_ := zA (Kd.R_below (by (with_reducible repeat (first | apply Kd.R_alloc | apply Kd.R_drewN | apply Kd.R_drew)); exact HO8R.out) hb); have n1_ := zA (blk_below (g := gA) (o := .cells #[.int .i64 a0_0, .int .i64 a0_1, .slice A0_2 l0_2.length c0_2] 24 (0, 0)) (by (with_reducible repeat (first | refine zN ?_ _ | refine zD ?_ | refine zB ?_ _)); exact BK8M.out) hb); have n2_ := zA (below_step (by repeat (first | (with_reducible first | exact HB.out | apply zW | apply zX | apply zY | refine zS ?_ GE8M.out) | exact HB.out)) hb); have n3_ := zA (hbox); have n4_ := zA ((by rw [hg]; exact (below_size (by repeat (first | (with_reducible first | exact HB.out | apply zW | apply zX | apply zY | refine zS ?_ GE8M.out) | exact HB.out))) : w.heap.size ≤ gB)); have n5_ := zA ((by rw [hg]; exact (below_size (by repeat (first | (with_reducible first | exact HB.out | apply zW | apply zX | apply zY | refine zS ?_ GE8M.out) | exact HB.out))) : w.heap.size ≤ gB)); have n6_ := zA ((by rw [hg]; exact Nat.ne_of_lt (blk_lt (g := gA) (o := .cells #[.int .i64 a0_0, .int .i64 a0_1, .slice A0_2 l0_2.length c0_2] 24 (0, 0)) (by (with_reducible repeat (first | refine zN ?_ _ | refine zD ?_ | refine zB ?_ _)); exact BK8M.out)) : gA ≠ gB)); have n7_ := zA ((by rw [hg]; exact Nat.ne_of_gt (blk_lt (g := gA) (o := .cells #[.int .i64 a0_0, .int .i64 a0_1, .slice A0_2 l0_2.length c0_2] 24 (0, 0)) (by (with_reducible repeat (first | refine zN ?_ _ | refine zD ?_ | refine zB ?_ _)); exact BK8M.out)) : gB ≠ gA)); clear HO8R; clear BK8M; clear HB; have HO8R := n0_; have BK8M := n1_; have HB := n2_; have BK8S := n3_; have GW8S := n4_; have GE8S := n5_; have NB518_524 := n6_; have NB524_518 := n7_; clear n0_ n1_ n2_ n3_ n4_ n5_ n6_ n7_; clear hb hbox hg; have hnb27 := NB524_518.out; have hnc27 := NB518_524.out; have hcz28_0 : w26.cell? ⟨gB, 0, none⟩ = some (.int .i64 0) := (blk_cell BK8S.out 0).trans rfl; have hcz28_1 : w26.cell? ⟨gB, 1, none⟩ = some (.slice none 0 0) := (blk_cell BK8S.out 1).trans rfl; have hfz28_0 := blk_frozen BK8S.out 0; have hfz28_1 := blk_frozen BK8S.out 1; obtain ⟨Ao29, co29, eo29⟩ := Kd.R_slice HO8R.out; subst eo29) | ((with_reducible refine gate_callee (f := 67) rfl ?_); refine goesL_ (some 14) rfl rfl Try.func67 (by kernel_rfl) rfl #[.agg #[.int .i64 t520, .slice Ao29 t521.length co29], .int .i64 a1] rfl (by (try simp only [List.map_toArray, List.map_cons, List.map_nil]); first | done | rfl | (simp only [List.length_drop, List.length_take]; rfl)) ?_; (with_reducible refine (kimberliteref03_Row_has.calls t520 _ _ t521 a1 false _ ?side1 ?side2 A6.out).mono ?_); (case side1 => refine (Kd.R_reads' (e := 3) (base := w.heap.size) (ok := fun k_ => True) (n := t521.length) (c := co29) ?_).2.2; exact (by (with_reducible repeat (first | apply Kd.R_alloc | apply Kd.R_drewN | apply Kd.R_drew)); exact (Kd.R_mono (Kd.R_far (p := ⟨gB, 1, none⟩) (Kd.R_far (p := ⟨gB, 0, none⟩) (Kd.R_types HO8R.out BK8S.out (by decide)) (fun _ hk => hk.2) (.int .i64 t520)) (fun _ hk => hk.2) (.slice Ao29 t521.length co29)) (fun _ h_ => h_.1)))); (case side2 => exact (Kd.R_reads' HO8R.out).2.1); rintro e w30 ⟨rfl, hb⟩; refine ⟨_, rfl, ?_⟩; have n0_ := zA (Kd.R_below (by (with_reducible repeat (first | apply Kd.R_alloc | apply Kd.R_drewN | apply Kd.R_drew)); exact (Kd.R_mono (Kd.R_far (p := ⟨gB, 1, none⟩) (Kd.R_far (p := ⟨gB, 0, none⟩) (Kd.R_types HO8R.out BK8S.out (by decide)) (fun _ hk => hk.2) (.int .i64 t520)) (fun _ hk => hk.2) (.slice Ao29 t521.length co29)) (fun _ h_ => h_.1))) hb); have n1_ := zA (blk_below (g := gA) (o := .cells #[.int .i64 a0_0, .int .i64 a0_1, .slice A0_2 l0_2.length c0_2] 24 (0, 0)) (by (with_reducible repeat (first | refine zN ?_ _ | refine zD ?_ | refine zB ?_ _)); refine blk_far ?_ NB518_524.out _; (with_reducible repeat (first | refine zN ?_ _ | refine zD ?_ | refine zB ?_ _)); refine blk_far ?_ NB518_524.out _; (with_reducible repeat (first | refine zN ?_ _ | refine zD ?_ | refine zB ?_ _)); exact BK8M.out) hb); have n2_ := zA (blk_below (g := gB) (o := .cells #[.int .i64 t520, .slice Ao29 t521.length co29] 78 (0, 0)) (by (with_reducible repeat (first | refine zN ?_ _ | refine zD ?_ | refine zB ?_ _)); refine blk_put (cs := #[.int .i64 t520, .slice none 0 0]) ?_ 1 _ rfl; (with_reducible repeat (first | refine zN ?_ _ | refine zD ?_ | refine zB ?_ _)); refine blk_put (cs := #[.int .i64 0, .slice none 0 0]) ?_ 0 _ rfl; (with_reducible repeat (first | refine zN ?_ _ | refine zD ?_ | refine zB ?_ _)); exact BK8S.out) hb); have n3_ := zA (below_step (by repeat (first | (with_reducible first | exact HB.out | apply zW | apply zX | apply zY | refine zS ?_ GE8M.out | refine zS ?_ GE8S.out) | exact HB.out)) hb); clear HO8R; clear BK8M; clear BK8S; clear HB; have HO8R := n0_; have BK8M := n1_; have BK8S := n2_; have HB := n3_; clear n0_ n1_ n2_ n3_; (try clear hb); (try clear hb2); (try clear hk); (try clear hi)))
   go_ret2
   exact ⟨by first | rfl | (simp [errW_none, errW_some] <;> rfl) | (simp [*, errW_none, errW_some] <;> rfl), by repeat (first | (with_reducible first | exact HB.out | apply zW | apply zX | apply zY | refine zS ?_ GE8M.out | refine zS ?_ GE8S.out) | exact HB.out)⟩
 ·
  replace c4 := Bool.eq_false_iff.mpr c4
  subst c4
  have H1 : (some (0, 2)) = some (r1, r2) := by rw [if_neg (show ¬ (false = true) by decide)] at H; exact H
  clear H
  have H := H1
  clear H1
  simp only [Option.some.injEq, Prod.mk.injEq] at H
  obtain ⟨rfl, rfl⟩ := H
  go_enter Try.func29, Try.ntmps29
  go_wp2_with (first | ((with_reducible refine gate_dst (N := 2) rfl ?_); refine box_event ?hg (N := 2) ?hd (cs := #[.int .i64 a0_0, .int .i64 a0_1, .slice A0_2 l0_2.length c0_2]) (t := 24) ?hr ?_; (case hd => rfl); (case hg => rfl); (case hr => first | (go_simp; done) | (go_simp; rfl)); intro gA hg w31 hbox hb; have n0_ := zA (below_step (by repeat (first | (with_reducible first | exact HB.out | apply zW | apply zX | apply zY) | exact HB.out)) hb); have n1_ := zA (hbox); have n2_ := zA ((by rw [hg]; exact (below_size (by repeat (first | (with_reducible first | exact HB.out | apply zW | apply zX | apply zY) | exact HB.out))) : w.heap.size ≤ gA)); have n3_ := zA ((by rw [hg]; exact (below_size (by repeat (first | (with_reducible first | exact HB.out | apply zW | apply zX | apply zY) | exact HB.out))) : w.heap.size ≤ gA)); clear HB; have HB := n0_; have BK8M := n1_; have GW8M := n2_; have GE8M := n3_; clear n0_ n1_ n2_ n3_; clear hb hbox hg; have hcz32_0 : w31.cell? ⟨gA, 0, none⟩ = some (.int .i64 a0_0) := (blk_cell BK8M.out 0).trans rfl; have hcz32_1 : w31.cell? ⟨gA, 1, none⟩ = some (.int .i64 a0_1) := (blk_cell BK8M.out 1).trans rfl; have hcz32_2 : w31.cell? ⟨gA, 2, none⟩ = some (.slice A0_2 l0_2.length c0_2) := (blk_cell BK8M.out 2).trans rfl; have hfz32_0 := blk_frozen BK8M.out 0; have hfz32_1 := blk_frozen BK8M.out 1; have hfz32_2 := blk_frozen BK8M.out 2) | ((with_reducible refine gate_callee (f := 30) rfl ?_); refine goesL_ (some 8) rfl rfl Try.func30 (by kernel_rfl) rfl #[.agg #[.int .i64 a0_0, .int .i64 a0_1, .slice A0_2 l0_2.length c0_2]] rfl (by (try simp only [List.map_toArray, List.map_cons, List.map_nil]); first | done | rfl | (simp only [List.length_drop, List.length_take]; rfl)) ?_; (with_reducible refine (kimberliteref03_Valid.calls k a0_0 a0_1 _ _ l0_2 false _ ?side1 ?side2 A3.out).mono ?_); (case side1 => repeat (first | exact (Kd.C_below HR0_2.out HB.out) | (with_reducible refine Kd.C_alloc ?_ _) | (with_reducible refine Kd.C_drewN ?_ _) | (with_reducible refine Kd.C_drew ?_))); (case side2 => exact HC0_2.out); rintro e w33 ⟨rfl, hb⟩; refine ⟨_, rfl, ?_⟩; have n0_ := zA (blk_below (g := gA) (o := .cells #[.int .i64 a0_0, .int .i64 a0_1, .slice A0_2 l0_2.length c0_2] 24 (0, 0)) (by (with_reducible repeat (first | refine zN ?_ _ | refine zD ?_ | refine zB ?_ _)); exact BK8M.out) hb); have n1_ := zA (below_step (by repeat (first | (with_reducible first | exact HB.out | apply zW | apply zX | apply zY | refine zS ?_ GE8M.out) | exact HB.out)) hb); clear BK8M; clear HB; have BK8M := n0_; have HB := n1_; clear n0_ n1_; (try clear hb); (try clear hb2); (try clear hk); (try clear hi)))
  go_ret2
  exact ⟨by first | rfl | (simp [errW_none, errW_some] <;> rfl) | (simp [*, errW_none, errW_some] <;> rfl), by repeat (first | (with_reducible first | exact HB.out | apply zW | apply zX | apply zY | refine zS ?_ GE8M.out) | exact HB.out)⟩
end Go.Proofs.Ytfeeaipbmpmpgaa.PX

namespace Go.Proofs.Ytfeeaipbmpmpgaa.PX
open Go.RowKit Go.Proofs.YtfeeaipbmpmpgaaW.PrintWords Go.Proofs.YtfeeaipbmpmpgaaW.PrintLast Go.Proofs.YtfeeaipbmpmpgaaW.PrintMore
attribute [local go_sem] max2_int min2_int max_two min_two max_three min_three max_four min_four   -- for this text's walks alone
set_option linter.unusedVariables false
set_option linter.unusedSimpArgs false
/-! ### kimberliteref03_Of: function 32 -/
mutual
def kimberliteref03_Of.l0 : Nat → Int → List Int → Int → Option (Int × Int × List Int × Int)
 | 0, _, _, _ => none
 | k + 1, x0, x1, x6 => if x6 < (x1.length : Int) then (if 0 ≤ x6 then (if (rd x1 x6) < (-1099511627776) then (kimberliteref03_Of.j1 k x0 x1 x6 true) else (kimberliteref03_Of.j1 k x0 x1 x6 (decide ((rd x1 x6) > 1099511627776)))) else (none)) else (kimberliteref03_Of.l1 k x0 x1 2)
def kimberliteref03_Of.j1 : Nat → Int → List Int → Int → Bool → Option (Int × Int × List Int × Int)
 | 0, _, _, _, _ => none
 | k + 1, x0, x1, x6, x33 => if x33 = true then (some (0, 0, ([] : List Int), 2)) else (kimberliteref03_Of.l0 k x0 x1 (wrap64 (x6 + 1)))
def kimberliteref03_Of.l1 : Nat → Int → List Int → Int → Option (Int × Int × List Int × Int)
 | 0, _, _, _ => none
 | k + 1, x0, x1, x7 => if x7 < (x1.length : Int) then (if 0 ≤ x7 then (if 0 ≤ (wrap64 (x7 - 1)) then (if (wrap64 (x7 - 1)) < (x1.length : Int) then (if 0 ≤ (wrap64 (x7 - 2)) then (if (wrap64 (x7 - 2)) < (x1.length : Int) then (if (wrap64 ((rd x1 x7) - (rd x1 (wrap64 (x7 - 1))))) < (wrap64 ((rd x1 (wrap64 (x7 - 1))) - (rd x1 (wrap64 (x7 - 2))))) then (some (0, 0, ([] : List Int), 10)) else (kimberliteref03_Of.l1 k x0 x1 (wrap64 (x7 + 1)))) else (none)) else (none)) else (none)) else (none)) else (none)) else ((kimberliteref03_ranged.f k x0 x1).bind fun bt557 => (some (bt557.1, bt557.2.1, bt557.2.2.1, bt557.2.2.2)))
end
def kimberliteref03_Of.f (k : Nat) (a0 : Int) (l1 : List Int) : Option (Int × Int × List Int × Int) := if (l1.length : Int) > 65 then (some (0, 0, ([] : List Int), 3)) else (if (l1.length : Int) = 0 then (some (0, 0, ([] : List Int), 2)) else (kimberliteref03_Of.l0 k a0 l1 0))
theorem kimberliteref03_Of.mono_l : ∀ k, (∀ y0 y1 y2, LeO (kimberliteref03_Of.l0 k y0 y1 y2) (kimberliteref03_Of.l0 (k + 1) y0 y1 y2)) ∧ (∀ y0 y1 y2 y3, LeO (kimberliteref03_Of.j1 k y0 y1 y2 y3) (kimberliteref03_Of.j1 (k + 1) y0 y1 y2 y3)) ∧ (∀ y0 y1 y2, LeO (kimberliteref03_Of.l1 k y0 y1 y2) (kimberliteref03_Of.l1 (k + 1) y0 y1 y2))
 | 0 => ⟨fun _ _ _ r h => by simp [kimberliteref03_Of.l0] at h, fun _ _ _ _ r h => by simp [kimberliteref03_Of.j1] at h, fun _ _ _ r h => by simp [kimberliteref03_Of.l1] at h⟩
 | k + 1 => by
  obtain ⟨ih0, ih1, ih2⟩ := kimberliteref03_Of.mono_l k
  refine ⟨?_, ?_, ?_⟩
  ·
   intro y0 y1 y2
   unfold kimberliteref03_Of.l0
   repeat' first
   | (with_reducible exact ih0 _ _ _)
   | (with_reducible exact ih1 _ _ _ _)
   | (with_reducible exact ih2 _ _ _)
   | (with_reducible exact kimberliteref03_ranged.mono _ _ _)
   | (with_reducible exact LeO.refl _)
   | (with_reducible exact LeO.none _)
   | (with_reducible refine LeO.ite ?_ ?_)
   | (with_reducible refine LeO.bind ?_ (fun _ => ?_))
   | exact ih0 _ _ _
   | exact ih1 _ _ _ _
   | exact ih2 _ _ _
   | exact kimberliteref03_ranged.mono _ _ _
   | exact LeO.none _
   | refine LeO.ite ?_ ?_
   | refine LeO.bind ?_ (fun _ => ?_)
  ·
   intro y0 y1 y2 y3
   unfold kimberliteref03_Of.j1
   repeat' first
   | (with_reducible exact ih0 _ _ _)
   | (with_reducible exact ih1 _ _ _ _)
   | (with_reducible exact ih2 _ _ _)
   | (with_reducible exact kimberliteref03_ranged.mono _ _ _)
   | (with_reducible exact LeO.refl _)
   | (with_reducible exact LeO.none _)
   | (with_reducible refine LeO.ite ?_ ?_)
   | (with_reducible refine LeO.bind ?_ (fun _ => ?_))
   | exact ih0 _ _ _
   | exact ih1 _ _ _ _
   | exact ih2 _ _ _
   | exact kimberliteref03_ranged.mono _ _ _
   | exact LeO.none _
   | refine LeO.ite ?_ ?_
   | refine LeO.bind ?_ (fun _ => ?_)
  ·
   intro y0 y1 y2
   unfold kimberliteref03_Of.l1
   repeat' first
   | (with_reducible exact ih0 _ _ _)
   | (with_reducible exact ih1 _ _ _ _)
   | (with_reducible exact ih2 _ _ _)
   | (with_reducible exact kimberliteref03_ranged.mono _ _ _)
   | (with_reducible exact LeO.refl _)
   | (with_reducible exact LeO.none _)
   | (with_reducible refine LeO.ite ?_ ?_)
   | (with_reducible refine LeO.bind ?_ (fun _ => ?_))
   | exact ih0 _ _ _
   | exact ih1 _ _ _ _
   | exact ih2 _ _ _
   | exact kimberliteref03_ranged.mono _ _ _
   | exact LeO.none _
   | refine LeO.ite ?_ ?_
   | refine LeO.bind ?_ (fun _ => ?_)
theorem kimberliteref03_Of.mono : ∀ a0 a1 k, LeO (kimberliteref03_Of.f k a0 a1) (kimberliteref03_Of.f (k + 1) a0 a1) := by
 intro a0 a1 k
 obtain ⟨ih0, ih1, ih2⟩ := kimberliteref03_Of.mono_l k
 unfold kimberliteref03_Of.f
 repeat' first
   | (with_reducible exact ih0 _ _ _)
   | (with_reducible exact ih1 _ _ _ _)
   | (with_reducible exact ih2 _ _ _)
   | (with_reducible exact kimberliteref03_ranged.mono _ _ _)
   | (with_reducible exact LeO.refl _)
   | (with_reducible exact LeO.none _)
   | (with_reducible refine LeO.ite ?_ ?_)
   | (with_reducible refine LeO.bind ?_ (fun _ => ?_))
   | exact ih0 _ _ _
   | exact ih1 _ _ _ _
   | exact ih2 _ _ _
   | exact kimberliteref03_ranged.mono _ _ _
   | exact LeO.none _
   | refine LeO.ite ?_ ?_
   | refine LeO.bind ?_ (fun _ => ?_)
set_option maxHeartbeats 8000000 in
set_option maxRecDepth 100000 in
theorem kimberliteref03_Of.calls (k : Nat) (a0 : Int) (A1 : Option Addr) (c1 : Nat) (l1 : List Int) (r1 : Int) (r2 : Int) (r3 : List Int) (r4 : Int) (w : World) (hr1 : Kd.C (Kd.int .i64) w A1 l1.length l1) (hc1 : l1.length ≤ c1) (h : kimberliteref03_Of.f k a0 l1 = some (r1, r2, r3, r4)) :
  Calls Try.prog 32 #[.int .i64 a0, .slice A1 l1.length c1] w fun e w' => ∃ v2_ : Value, e = .returned (.tuple #[.agg #[.int .i64 r1, .int .i64 r2, v2_], .int .i64 r4]) ∧ Kd.R (Kd.int .i64) 3 w' w.heap.size (fun _ => True) v2_ r3 ∧ Below w.heap.size w w' := by
 have hu24 := Try.underlying24
 have hu78 := Try.underlying78
 have HR1 := zA hr1
 have HC1 := zA hc1
 clear hr1 hc1
 have HB := zA (Below.refl w.heap.size w)
 have H : (if (l1.length : Int) > 65 then (some (0, 0, ([] : List Int), 3)) else (if (l1.length : Int) = 0 then (some (0, 0, ([] : List Int), 2)) else (kimberliteref03_Of.l0 k a0 l1 0))) = some (r1, r2, r3, r4) := h
 clear h
 by_cases c3 : (l1.length : Int) > 65
 ·
  rw [if_pos c3] at H
  have c3b0 : decide (65 < (l1.length : Int)) = true := decide_eq_true c3
  have c3b1 : decide (65 < l1.length) = true := decide_eq_true (by omega)
  clear c3
  simp only [Option.some.injEq, Prod.mk.injEq] at H
  obtain ⟨rfl, rfl, rfl, rfl⟩ := H
  go_enter Try.func32, Try.ntmps32
  go_wp2_with (first | ((with_reducible refine gate_dst (N := 4) rfl ?_); refine box_event ?hg (N := 4) ?hd (cs := #[.int .i64 0, .int .i64 0, .slice none 0 0]) (t := 24) ?hr ?_; (case hd => rfl); (case hg => rfl); (case hr => first | (go_simp; done) | (go_simp; rfl)); intro gA hg w4 hbox hb; have n0_ := zA (below_step (by repeat (first | (with_reducible first | exact HB.out | apply zW | apply zX | apply zY) | exact HB.out)) hb); have n1_ := zA (hbox); have n2_ := zA ((by rw [hg]; exact (below_size (by repeat (first | (with_reducible first | exact HB.out | apply zW | apply zX | apply zY) | exact HB.out))) : w.heap.size ≤ gA)); have n3_ := zA ((by rw [hg]; exact (below_size (by repeat (first | (with_reducible first | exact HB.out | apply zW | apply zX | apply zY) | exact HB.out))) : w.heap.size ≤ gA)); clear HB; have HB := n0_; have BK8w := n1_; have GW8w := n2_; have GE8w := n3_; clear n0_ n1_ n2_ n3_; clear hb hbox hg; have hcz5_0 : w4.cell? ⟨gA, 0, none⟩ = some (.int .i64 0) := (blk_cell BK8w.out 0).trans rfl; have hcz5_1 : w4.cell? ⟨gA, 1, none⟩ = some (.int .i64 0) := (blk_cell BK8w.out 1).trans rfl; have hcz5_2 : w4.cell? ⟨gA, 2, none⟩ = some (.slice none 0 0) := (blk_cell BK8w.out 2).trans rfl; have hfz5_0 := blk_frozen BK8w.out 0; have hfz5_1 := blk_frozen BK8w.out 1; have hfz5_2 := blk_frozen BK8w.out 2))
  repeat (go_quiet (first | ((with_reducible refine gate_dst (N := 4) rfl ?_); refine box_event ?hg (N := 4) ?hd (cs := #[.int .i64 0, .int .i64 0, .slice none 0 0]) (t := 24) ?hr ?_; (case hd => rfl); (case hg => rfl); (case hr => first | (go_simp; done) | (go_simp; rfl)); intro gA hg w4 hbox hb; have n0_ := zA (below_step (by repeat (first | (with_reducible first | exact HB.out | apply zW | apply zX | apply zY) | exact HB.out)) hb); have n1_ := zA (hbox); have n2_ := zA ((by rw [hg]; exact (below_size (by repeat (first | (with_reducible first | exact HB.out | apply zW | apply zX | apply zY) | exact HB.out))) : w.heap.size ≤ gA)); have n3_ := zA ((by rw [hg]; exact (below_size (by repeat (first | (with_reducible first | exact HB.out | apply zW | apply zX | apply zY) | exact HB.out))) : w.heap.size ≤ gA)); clear HB; have HB := n0_; have BK8w := n1_; have GW8w := n2_; have GE8w := n3_; clear n0_ n1_ n2_ n3_; clear hb hbox hg; have hcz5_0 : w4.cell? ⟨gA, 0, none⟩ = some (.int .i64 0) := (blk_cell BK8w.out 0).trans rfl; have hcz5_1 : w4.cell? ⟨gA, 1, none⟩ = some (.int .i64 0) := (blk_cell BK8w.out 1).trans rfl; have hcz5_2 : w4.cell? ⟨gA, 2, none⟩ = some (.slice none 0 0) := (blk_cell BK8w.out 2).trans rfl; have hfz5_0 := blk_frozen BK8w.out 0; have hfz5_1 := blk_frozen BK8w.out 1; have hfz5_2 := blk_frozen BK8w.out 2)); try go_wp2_with (first | ((with_reducible refine gate_dst (N := 4) rfl ?_); refine box_event ?hg (N := 4) ?hd (cs := #[.int .i64 0, .int .i64 0, .slice none 0 0]) (t := 24) ?hr ?_; (case hd => rfl); (case hg => rfl); (case hr => first | (go_simp; done) | (go_simp; rfl)); intro gA hg w4 hbox hb; have n0_ := zA (below_step (by repeat (first | (with_reducible first | exact HB.out | apply zW | apply zX | apply zY) | exact HB.out)) hb); have n1_ := zA (hbox); have n2_ := zA ((by rw [hg]; exact (below_size (by repeat (first | (with_reducible first | exact HB.out | apply zW | apply zX | apply zY) | exact HB.out))) : w.heap.size ≤ gA)); have n3_ := zA ((by rw [hg]; exact (below_size (by repeat (first | (with_reducible first | exact HB.out | apply zW | apply zX | apply zY) | exact HB.out))) : w.heap.size ≤ gA)); clear HB; have HB := n0_; have BK8w := n1_; have GW8w := n2_; have GE8w := n3_; clear n0_ n1_ n2_ n3_; clear hb hbox hg; have hcz5_0 : w4.cell? ⟨gA, 0, none⟩ = some (.int .i64 0) := (blk_cell BK8w.out 0).trans rfl; have hcz5_1 : w4.cell? ⟨gA, 1, none⟩ = some (.int .i64 0) := (blk_cell BK8w.out 1).trans rfl; have hcz5_2 : w4.cell? ⟨gA, 2, none⟩ = some (.slice none 0 0) := (blk_cell BK8w.out 2).trans rfl; have hfz5_0 := blk_frozen BK8w.out 0; have hfz5_1 := blk_frozen BK8w.out 1; have hfz5_2 := blk_frozen BK8w.out 2)))
  refine bodyPost_ret (results_ct rfl _ _ gA 24 #[.int .i64 0, .int .i64 0, .slice none 0 0] (0, 0) _ rfl (by (with_reducible repeat (first | refine zN ?_ _ | refine zD ?_ | refine zB ?_ _)); refine blk_put (cs := #[.int .i64 0, .int .i64 0, .slice none 0 0]) ?_ 2 _ rfl; (with_reducible repeat (first | refine zN ?_ _ | refine zD ?_ | refine zB ?_ _)); refine blk_put (cs := #[.int .i64 0, .int .i64 0, .slice none 0 0]) ?_ 1 _ rfl; (with_reducible repeat (first | refine zN ?_ _ | refine zD ?_ | refine zB ?_ _)); refine blk_put (cs := #[.int .i64 0, .int .i64 0, .slice none 0 0]) ?_ 0 _ rfl; (with_reducible repeat (first | refine zN ?_ _ | refine zD ?_ | refine zB ?_ _)); exact BK8w.out) Try.underlying24 rfl (by kernel_rfl)) rfl ?_
  exact ⟨_, by first | rfl | (simp [errW_none, errW_some] <;> rfl) | (simp [*, errW_none, errW_some] <;> rfl), by first | exact Kd.R_nil _ _ _ _ _ | exact Kd.N_nil _ _ _ _ _ | exact Kd.V_nil _ _ _ _ _ | exact Kd.Q_nil _ _ _ _ _ | exact Kd.S_nil _ _ _ _ _, by repeat (first | (with_reducible first | exact HB.out | apply zW | apply zX | apply zY | refine zS ?_ GE8w.out) | exact HB.out)⟩
 ·
  rw [if_neg c3] at H
  have c3b0 : decide (65 < (l1.length : Int)) = false := decide_eq_false c3
  have c3b1 : decide (65 < l1.length) = false := decide_eq_false (by omega)
  clear c3
  by_cases c6 : (l1.length : Int) = 0
  ·
   rw [if_pos c6] at H
   have c6b0 : ((l1.length : Int) == 0) = true := beq_iff_eq.mpr c6
   have c6b1 : ((l1.length : Int) != 0) = false := bne_eq_false_iff_eq.mpr c6
   clear c6
   simp only [Option.some.injEq, Prod.mk.injEq] at H
   obtain ⟨rfl, rfl, rfl, rfl⟩ := H
   go_enter Try.func32, Try.ntmps32
   go_wp2_with (first | ((with_reducible refine gate_dst (N := 4) rfl ?_); refine box_event ?hg (N := 4) ?hd (cs := #[.int .i64 0, .int .i64 0, .slice none 0 0]) (t := 24) ?hr ?_; (case hd => rfl); (case hg => rfl); (case hr => first | (go_simp; done) | (go_simp; rfl)); intro gA hg w7 hbox hb; have n0_ := zA (below_step (by repeat (first | (with_reducible first | exact HB.out | apply zW | apply zX | apply zY) | exact HB.out)) hb); have n1_ := zA (hbox); have n2_ := zA ((by rw [hg]; exact (below_size (by repeat (first | (with_reducible first | exact HB.out | apply zW | apply zX | apply zY) | exact HB.out))) : w.heap.size ≤ gA)); have n3_ := zA ((by rw [hg]; exact (below_size (by repeat (first | (with_reducible first | exact HB.out | apply zW | apply zX | apply zY) | exact HB.out))) : w.heap.size ≤ gA)); clear HB; have HB := n0_; have BK8w := n1_; have GW8w := n2_; have GE8w := n3_; clear n0_ n1_ n2_ n3_; clear hb hbox hg; have hcz8_0 : w7.cell? ⟨gA, 0, none⟩ = some (.int .i64 0) := (blk_cell BK8w.out 0).trans rfl; have hcz8_1 : w7.cell? ⟨gA, 1, none⟩ = some (.int .i64 0) := (blk_cell BK8w.out 1).trans rfl; have hcz8_2 : w7.cell? ⟨gA, 2, none⟩ = some (.slice none 0 0) := (blk_cell BK8w.out 2).trans rfl; have hfz8_0 := blk_frozen BK8w.out 0; have hfz8_1 := blk_frozen BK8w.out 1; have hfz8_2 := blk_frozen BK8w.out 2))
   repeat (go_quiet (first | ((with_reducible refine gate_dst (N := 4) rfl ?_); refine box_event ?hg (N := 4) ?hd (cs := #[.int .i64 0, .int .i64 0, .slice none 0 0]) (t := 24) ?hr ?_; (case hd => rfl); (case hg => rfl); (case hr => first | (go_simp; done) | (go_simp; rfl)); intro gA hg w7 hbox hb; have n0_ := zA (below_step (by repeat (first | (with_reducible first | exact HB.out | apply zW | apply zX | apply zY) | exact HB.out)) hb); have n1_ := zA (hbox); have n2_ := zA ((by rw [hg]; exact (below_size (by repeat (first | (with_reducible first | exact HB.out | apply zW | apply zX | apply zY) | exact HB.out))) : w.heap.size ≤ gA)); have n3_ := zA ((by rw [hg]; exact (below_size (by repeat (first | (with_reducible first | exact HB.out | apply zW | apply zX | apply zY) | exact HB.out))) : w.heap.size ≤ gA)); clear HB; have HB := n0_; have BK8w := n1_; have GW8w := n2_; have GE8w := n3_; clear n0_ n1_ n2_ n3_; clear hb hbox hg; have hcz8_0 : w7.cell? ⟨gA, 0, none⟩ = some (.int .i64 0) := (blk_cell BK8w.out 0).trans rfl; have hcz8_1 : w7.cell? ⟨gA, 1, none⟩ = some (.int .i64 0) := (blk_cell BK8w.out 1).trans rfl; have hcz8_2 : w7.cell? ⟨gA, 2, none⟩ = some (.slice none 0 0) := (blk_cell BK8w.out 2).trans rfl; have hfz8_0 := blk_frozen BK8w.out 0; have hfz8_1 := blk_frozen BK8w.out 1; have hfz8_2 := blk_frozen BK8w.out 2)); try go_wp2_with (first | ((with_reducible refine gate_dst (N := 4) rfl ?_); refine box_event ?hg (N := 4) ?hd (cs := #[.int .i64 0, .int .i64 0, .slice none 0 0]) (t := 24) ?hr ?_; (case hd => rfl); (case hg => rfl); (case hr => first | (go_simp; done) | (go_simp; rfl)); intro gA hg w7 hbox hb; have n0_ := zA (below_step (by repeat (first | (with_reducible first | exact HB.out | apply zW | apply zX | apply zY) | exact HB.out)) hb); have n1_ := zA (hbox); have n2_ := zA ((by rw [hg]; exact (below_size (by repeat (first | (with_reducible first | exact HB.out | apply zW | apply zX | apply zY) | exact HB.out))) : w.heap.size ≤ gA)); have n3_ := zA ((by rw [hg]; exact (below_size (by repeat (first | (with_reducible first | exact HB.out | apply zW | apply zX | apply zY) | exact HB.out))) : w.heap.size ≤ gA)); clear HB; have HB := n0_; have BK8w := n1_; have GW8w := n2_; have GE8w := n3_; clear n0_ n1_ n2_ n3_; clear hb hbox hg; have hcz8_0 : w7.cell? ⟨gA, 0, none⟩ = some (.int .i64 0) := (blk_cell BK8w.out 0).trans rfl; have hcz8_1 : w7.cell? ⟨gA, 1, none⟩ = some (.int .i64 0) := (blk_cell BK8w.out 1).trans rfl; have hcz8_2 : w7.cell? ⟨gA, 2, none⟩ = some (.slice none 0 0) := (blk_cell BK8w.out 2).trans rfl; have hfz8_0 := blk_frozen BK8w.out 0; have hfz8_1 := blk_frozen BK8w.out 1; have hfz8_2 := blk_frozen BK8w.out 2)))
   refine bodyPost_ret (results_ct rfl _ _ gA 24 #[.int .i64 0, .int .i64 0, .slice none 0 0] (0, 0) _ rfl (by (with_reducible repeat (first | refine zN ?_ _ | refine zD ?_ | refine zB ?_ _)); refine blk_put (cs := #[.int .i64 0, .int .i64 0, .slice none 0 0]) ?_ 2 _ rfl; (with_reducible repeat (first | refine zN ?_ _ | refine zD ?_ | refine zB ?_ _)); refine blk_put (cs := #[.int .i64 0, .int .i64 0, .slice none 0 0]) ?_ 1 _ rfl; (with_reducible repeat (first | refine zN ?_ _ | refine zD ?_ | refine zB ?_ _)); refine blk_put (cs := #[.int .i64 0, .int .i64 0, .slice none 0 0]) ?_ 0 _ rfl; (with_reducible repeat (first | refine zN ?_ _ | refine zD ?_ | refine zB ?_ _)); exact BK8w.out) Try.underlying24 rfl (by kernel_rfl)) rfl ?_
   exact ⟨_, by first | rfl | (simp [errW_none, errW_some] <;> rfl) | (simp [*, errW_none, errW_some] <;> rfl), by first | exact Kd.R_nil _ _ _ _ _ | exact Kd.N_nil _ _ _ _ _ | exact Kd.V_nil _ _ _ _ _ | exact Kd.Q_nil _ _ _ _ _ | exact Kd.S_nil _ _ _ _ _, by repeat (first | (with_reducible first | exact HB.out | apply zW | apply zX | apply zY | refine zS ?_ GE8w.out) | exact HB.out)⟩
  ·
   rw [if_neg c6] at H
   have c6b0 : ((l1.length : Int) == 0) = false := beq_eq_false_iff_ne.mpr c6
   have c6b1 : ((l1.length : Int) != 0) = true := bne_iff_ne.mpr c6
   have c6b2 : ¬ (l1 = []) := fun h_ => c6 (by rw [h_]; rfl)
   have H' := zA H
   clear H
   go_enter Try.func32, Try.ntmps32
   go_wp2_with (first | ((with_reducible refine gate_dst (N := 4) rfl ?_); refine box_event ?hg (N := 4) ?hd (cs := #[.int .i64 0, .int .i64 0, .slice none 0 0]) (t := 24) ?hr ?_; (case hd => rfl); (case hg => rfl); (case hr => first | (go_simp; done) | (go_simp; rfl)); intro gA hg w9 hbox hb; have n0_ := zA (below_step (by repeat (first | (with_reducible first | exact HB.out | apply zW | apply zX | apply zY) | exact HB.out)) hb); have n1_ := zA (hbox); have n2_ := zA ((by rw [hg]; exact (below_size (by repeat (first | (with_reducible first | exact HB.out | apply zW | apply zX | apply zY) | exact HB.out))) : w.heap.size ≤ gA)); have n3_ := zA ((by rw [hg]; exact (below_size (by repeat (first | (with_reducible first | exact HB.out | apply zW | apply zX | apply zY) | exact HB.out))) : w.heap.size ≤ gA)); clear HB; have HB := n0_; have BK8w := n1_; have GW8w := n2_; have GE8w := n3_; clear n0_ n1_ n2_ n3_; clear hb hbox hg))
   repeat (go_quiet (first | ((with_reducible refine gate_dst (N := 4) rfl ?_); refine box_event ?hg (N := 4) ?hd (cs := #[.int .i64 0, .int .i64 0, .slice none 0 0]) (t := 24) ?hr ?_; (case hd => rfl); (case hg => rfl); (case hr => first | (go_simp; done) | (go_simp; rfl)); intro gA hg w9 hbox hb; have n0_ := zA (below_step (by repeat (first | (with_reducible first | exact HB.out | apply zW | apply zX | apply zY) | exact HB.out)) hb); have n1_ := zA (hbox); have n2_ := zA ((by rw [hg]; exact (below_size (by repeat (first | (with_reducible first | exact HB.out | apply zW | apply zX | apply zY) | exact HB.out))) : w.heap.size ≤ gA)); have n3_ := zA ((by rw [hg]; exact (below_size (by repeat (first | (with_reducible first | exact HB.out | apply zW | apply zX | apply zY) | exact HB.out))) : w.heap.size ≤ gA)); clear HB; have HB := n0_; have BK8w := n1_; have GW8w := n2_; have GE8w := n3_; clear n0_ n1_ n2_ n3_; clear hb hbox hg)); try go_wp2_with (first | ((with_reducible refine gate_dst (N := 4) rfl ?_); refine box_event ?hg (N := 4) ?hd (cs := #[.int .i64 0, .int .i64 0, .slice none 0 0]) (t := 24) ?hr ?_; (case hd => rfl); (case hg => rfl); (case hr => first | (go_simp; done) | (go_simp; rfl)); intro gA hg w9 hbox hb; have n0_ := zA (below_step (by repeat (first | (with_reducible first | exact HB.out | apply zW | apply zX | apply zY) | exact HB.out)) hb); have n1_ := zA (hbox); have n2_ := zA ((by rw [hg]; exact (below_size (by repeat (first | (with_reducible first | exact HB.out | apply zW | apply zX | apply zY) | exact HB.out))) : w.heap.size ≤ gA)); have n3_ := zA ((by rw [hg]; exact (below_size (by repeat (first | (with_reducible first | exact HB.out | apply zW | apply zX | apply zY) | exact HB.out))) : w.heap.size ≤ gA)); clear HB; have HB := n0_; have BK8w := n1_; have GW8w := n2_; have GE8w := n3_; clear n0_ n1_ n2_ n3_; clear hb hbox hg)))
   go_loopg [6] k (fun kq v6 w' => ∃ (x6_1 : Int) (x555000_1 : Int) (x555001_1 : Int), v6 = .int .i64 x6_1 ∧ Aside0 (kimberliteref03_Of.l0 kq a0 l1 x6_1 = some (r1, r2, r3, r4)) ∧ Aside0 (kq ≤ k) ∧ Aside0 (w'.heap[gA]? = some (.cells #[.int .i64 x555000_1, .int .i64 x555001_1, (.slice none 0 0)] 24 (0, 0))) ∧ Aside0 (Below w.heap.size w w'))
   case atStart => exact ⟨(0), (0), (0), (by first | rfl | (simp; done) | (simp [*]; done)), H', ⟨Nat.le_refl _⟩, ⟨by (with_reducible repeat (first | refine zN ?_ _ | refine zD ?_ | refine zB ?_ _)); exact BK8w.out⟩, ⟨by repeat (first | (with_reducible first | exact HB.out | apply zW | apply zX | apply zY | refine zS ?_ GE8w.out) | exact HB.out)⟩⟩
   case round =>
    clear H'
    try clear c1
    try clear p2
    try clear c3
    try clear c3b0
    try clear c3b1
    try clear c6
    try clear c6b0
    try clear c6b1
    try clear c6b2
    try clear hcz5_0
    try clear hcz5_1
    try clear hcz5_2
    try clear hcz8_0
    try clear hcz8_1
    try clear hcz8_2
    try clear hfz5_0
    try clear hfz5_1
    try clear hfz5_2
    try clear hfz8_0
    try clear hfz8_1
    try clear hfz8_2
    obtain ⟨x6_1, x555000_1, x555001_1, rfl, HA, HK1, BK8w, HB⟩ := hrel
    cases gk with
    | zero => exact absurd HA.out (by simp [kimberliteref03_Of.l0])
    | succ k1 =>
     have H := HA.out
     clear HA
     simp only [kimberliteref03_Of.l0] at H
     by_cases c10 : x6_1 < (l1.length : Int)
     ·
      rw [if_pos c10] at H
      have c10b0 : decide (x6_1 < (l1.length : Int)) = true := decide_eq_true c10
      clear c10
      have HC11 := zA H
      clear H
      go_upto_region 8 with (fail)
      repeat (go_quiet (fail); go_upto_region 8 with (fail))
      go_cut [33] (fun v33 wc => ∃ (kq : Nat) (x33_10 : Bool), v33 = .bool x33_10 ∧ Aside0 (kimberliteref03_Of.j1 kq a0 l1 x6_1 x33_10 = some (r1, r2, r3, r4)) ∧ Aside0 (kq ≤ k1) ∧ Aside0 (wc.heap[gA]? = some (.cells #[.int .i64 x555000_1, .int .i64 x555001_1, (.slice none 0 0)] 24 (0, 0))) ∧ Aside0 (Below w.heap.size w wc))
      case first =>
       have H := HC11.out
       clear HC11
       by_cases c12 : 0 ≤ x6_1
       ·
        rw [if_pos c12] at H
        have c12b0 : decide (0 ≤ x6_1) = true := decide_eq_true c12
        clear c12
        (first | rw [c12b0] | (simp only [i64_w, i32_w]; rw [c12b0]) | skip)
        by_cases c13 : (rd l1 x6_1) < (-1099511627776)
        ·
         rw [if_pos c13] at H
         have c13b0 : decide ((rd l1 x6_1) < (-1099511627776)) = true := decide_eq_true c13
         clear c13
         have H' := zA H
         clear H
         have p555 : 0 ≤ (x6_1 : Int) := of_decide_eq_true (by first | (with_reducible assumption) | assumption)
         have q555 : x6_1 < (l1.length : Int) := of_decide_eq_true (by first | (with_reducible assumption) | assumption)
         obtain ⟨ad555, e555, hx555_0⟩ := Kd.at_int HR1.out x6_1 p555 q555
         cases e555
         replace hx555_0 := (HB.out.cell (World.block_lt_of_cell? w _ hx555_0)).trans hx555_0
         replace p555 := eq_true p555
         replace q555 := eq_true q555
         go_wp2
         repeat (go_quiet (fail); try go_wp2)
         go_meet
         case rel => exact ⟨_, (true), (by first | rfl | (simp; done) | (simp [*]; done)), H', ⟨by have := HK1.out; first | omega | exact Nat.le_refl _⟩, ⟨by (with_reducible repeat (first | refine zN ?_ _ | refine zD ?_ | refine zB ?_ _)); exact BK8w.out⟩, ⟨by repeat (first | (with_reducible first | exact HB.out | apply zW | apply zX | apply zY | refine zS ?_ GE8w.out) | exact HB.out)⟩⟩
        ·
         rw [if_neg c13] at H
         have c13b0 : decide ((rd l1 x6_1) < (-1099511627776)) = false := decide_eq_false c13
         clear c13
         have H' := zA H
         clear H
         have p555 : 0 ≤ (x6_1 : Int) := of_decide_eq_true (by first | (with_reducible assumption) | assumption)
         have q555 : x6_1 < (l1.length : Int) := of_decide_eq_true (by first | (with_reducible assumption) | assumption)
         obtain ⟨ad555, e555, hx555_0⟩ := Kd.at_int HR1.out x6_1 p555 q555
         cases e555
         replace hx555_0 := (HB.out.cell (World.block_lt_of_cell? w _ hx555_0)).trans hx555_0
         replace p555 := eq_true p555
         replace q555 := eq_true q555
         have p556 : 0 ≤ (x6_1 : Int) := of_decide_eq_true (by first | (with_reducible assumption) | assumption)
         have q556 : x6_1 < (l1.length : Int) := of_decide_eq_true (by first | (with_reducible assumption) | assumption)
         obtain ⟨ad556, e556, hx556_0⟩ := Kd.at_int HR1.out x6_1 p556 q556
         obtain rfl : ad555 = ad556 := (by injection e556)
         replace hx556_0 := (HB.out.cell (World.block_lt_of_cell? w _ hx556_0)).trans hx556_0
         replace p556 := eq_true p556
         replace q556 := eq_true q556
         go_wp2
         repeat (go_quiet (fail); try go_wp2)
         go_meet
         case rel => exact ⟨_, (decide ((rd l1 x6_1) > 1099511627776)), (by first | rfl | (simp; done) | (simp [*]; done)), H', ⟨by have := HK1.out; first | omega | exact Nat.le_refl _⟩, ⟨by (with_reducible repeat (first | refine zN ?_ _ | refine zD ?_ | refine zB ?_ _)); exact BK8w.out⟩, ⟨by repeat (first | (with_reducible first | exact HB.out | apply zW | apply zX | apply zY | refine zS ?_ GE8w.out) | exact HB.out)⟩⟩
       ·
        rw [if_neg c12] at H
        exact absurd H (by simp)
      case rest =>
       clear HC11
       try clear c1
       try clear p2
       try clear c3
       try clear c3b0
       try clear c3b1
       try clear p5
       try clear q5
       try clear hx5
       try clear c6
       try clear c6b0
       try clear c6b1
       try clear c6b2
       try clear c10
       try clear c10b0
       try clear c12
       try clear c12b0
       try clear c13
       try clear c13b0
       try clear hcz5_0
       try clear hcz5_1
       try clear hcz5_2
       try clear hcz8_0
       try clear hcz8_1
       try clear hcz8_2
       try clear hfz5_0
       try clear hfz5_1
       try clear hfz5_2
       try clear hfz8_0
       try clear hfz8_1
       try clear hfz8_2
       try clear hx555_0
       try clear hx556_0
       try clear p2
       try clear p555
       try clear p556
       try clear q555
       try clear q556
       obtain ⟨kq, x33_10, rfl, HA, HJ10, BK8w, HB⟩ := hcut
       cases kq with
       | zero => exact absurd HA.out (by simp [kimberliteref03_Of.j1])
       | succ kj10 =>
        have H := HA.out
        clear HA
        simp only [kimberliteref03_Of.j1] at H
        by_cases c14 : x33_10 = true
        ·
         subst c14
         have H1 : (some (0, 0, ([] : List Int), 2)) = some (r1, r2, r3, r4) := by rw [if_pos rfl] at H; exact H
         clear H
         have H := H1
         clear H1
         simp only [Option.some.injEq, Prod.mk.injEq] at H
         obtain ⟨rfl, rfl, rfl, rfl⟩ := H
         have hcz15_0 : wc.cell? ⟨gA, 0, none⟩ = some (.int .i64 x555000_1) := (blk_cell BK8w.out 0).trans rfl
         have hcz15_1 : wc.cell? ⟨gA, 1, none⟩ = some (.int .i64 x555001_1) := (blk_cell BK8w.out 1).trans rfl
         have hcz15_2 : wc.cell? ⟨gA, 2, none⟩ = some (.slice none 0 0) := (blk_cell BK8w.out 2).trans rfl
         have hfz15_0 := blk_frozen BK8w.out 0
         have hfz15_1 := blk_frozen BK8w.out 1
         have hfz15_2 := blk_frozen BK8w.out 2
         go_wp2
         repeat (go_quiet (fail); try go_wp2)
         refine bodyPost_ret (results_ct rfl _ _ gA 24 #[.int .i64 0, .int .i64 0, .slice none 0 0] (0, 0) _ rfl (by (with_reducible repeat (first | refine zN ?_ _ | refine zD ?_ | refine zB ?_ _)); refine blk_put (cs := #[.int .i64 0, .int .i64 0, .slice none 0 0]) ?_ 2 _ rfl; (with_reducible repeat (first | refine zN ?_ _ | refine zD ?_ | refine zB ?_ _)); refine blk_put (cs := #[.int .i64 0, .int .i64 x555001_1, .slice none 0 0]) ?_ 1 _ rfl; (with_reducible repeat (first | refine zN ?_ _ | refine zD ?_ | refine zB ?_ _)); refine blk_put (cs := #[.int .i64 x555000_1, .int .i64 x555001_1, .slice none 0 0]) ?_ 0 _ rfl; (with_reducible repeat (first | refine zN ?_ _ | refine zD ?_ | refine zB ?_ _)); exact BK8w.out) Try.underlying24 rfl (by kernel_rfl)) rfl ?_
         exact ⟨_, by first | rfl | (simp [errW_none, errW_some] <;> rfl) | (simp [*, errW_none, errW_some] <;> rfl), by first | exact Kd.R_nil _ _ _ _ _ | exact Kd.N_nil _ _ _ _ _ | exact Kd.V_nil _ _ _ _ _ | exact Kd.Q_nil _ _ _ _ _ | exact Kd.S_nil _ _ _ _ _, by repeat (first | (with_reducible first | exact HB.out | apply zW | apply zX | apply zY | refine zS ?_ GE8w.out) | exact HB.out)⟩
        ·
         replace c14 := Bool.eq_false_iff.mpr c14
         subst c14
         have H1 : (kimberliteref03_Of.l0 kj10 a0 l1 (wrap64 (x6_1 + 1))) = some (r1, r2, r3, r4) := by rw [if_neg (show ¬ (false = true) by decide)] at H; exact H
         clear H
         have H := H1
         clear H1
         have H' := zA H
         clear H
         go_wp2
         repeat (go_quiet (fail); try go_wp2)
         go_roundg kj10
         case measure => have := HK1.out; have := HJ10.out; omega
         case rel => exact ⟨(wrap64 (x6_1 + 1)), (x555000_1), (x555001_1), (by first | rfl | (simp; done) | (simp [*]; done)), H', ⟨by have := HK1.out; have := HJ10.out; omega⟩, ⟨by (with_reducible repeat (first | refine zN ?_ _ | refine zD ?_ | refine zB ?_ _)); exact BK8w.out⟩, ⟨by repeat (first | (with_reducible first | exact HB.out | apply zW | apply zX | apply zY | refine zS ?_ GE8w.out) | exact HB.out)⟩⟩
     ·
      rw [if_neg c10] at H
      have c10b0 : decide (x6_1 < (l1.length : Int)) = false := decide_eq_false c10
      clear c10
      have H' := zA H
      clear H
      go_wp2
      repeat (go_quiet (fail); try go_wp2)
      go_loopg [7] k1 (fun kq v7 w' => ∃ (x7_2 : Int) (x555000_2 : Int) (x555001_2 : Int), v7 = .int .i64 x7_2 ∧ Aside0 (kimberliteref03_Of.l1 kq a0 l1 x7_2 = some (r1, r2, r3, r4)) ∧ Aside0 (kq ≤ k1) ∧ Aside0 (w'.heap[gA]? = some (.cells #[.int .i64 x555000_2, .int .i64 x555001_2, (.slice none 0 0)] 24 (0, 0))) ∧ Aside0 (Below w.heap.size w w'))
      case atStart => exact ⟨(2), (x555000_1), (x555001_1), (by first | rfl | (simp; done) | (simp [*]; done)), H', ⟨Nat.le_refl _⟩, ⟨by (with_reducible repeat (first | refine zN ?_ _ | refine zD ?_ | refine zB ?_ _)); exact BK8w.out⟩, ⟨by repeat (first | (with_reducible first | exact HB.out | apply zW | apply zX | apply zY | refine zS ?_ GE8w.out) | exact HB.out)⟩⟩
      case round =>
       clear H'
       try clear c1
       try clear p2
       try clear c3
       try clear c3b0
       try clear c3b1
       try clear p5
       try clear q5
       try clear hx5
       try clear c6
       try clear c6b0
       try clear c6b1
       try clear c6b2
       try clear p6
       try clear c10
       try clear c10b0
       try clear c12
       try clear c12b0
       try clear c13
       try clear c13b0
       try clear c14
       try clear hcz15_0
       try clear hcz15_1
       try clear hcz15_2
       try clear hcz5_0
       try clear hcz5_1
       try clear hcz5_2
       try clear hcz8_0
       try clear hcz8_1
       try clear hcz8_2
       try clear hfz15_0
       try clear hfz15_1
       try clear hfz15_2
       try clear hfz5_0
       try clear hfz5_1
       try clear hfz5_2
       try clear hfz8_0
       try clear hfz8_1
       try clear hfz8_2
       try clear hx555_0
       try clear hx556_0
       try clear p2
       try clear p5
       try clear p555
       try clear p556
       try clear q5
       try clear q555
       try clear q556
       obtain ⟨x7_2, x555000_2, x555001_2, rfl, HA, HK2, BK8w, HB⟩ := hrel
       cases gk with
       | zero => exact absurd HA.out (by simp [kimberliteref03_Of.l1])
       | succ k2 =>
        have H := HA.out
        clear HA
        simp only [kimberliteref03_Of.l1] at H
        by_cases c16 : x7_2 < (l1.length : Int)
        ·
         rw [if_pos c16] at H
         have c16b0 : decide (x7_2 < (l1.length : Int)) = true := decide_eq_true c16
         clear c16
         by_cases c17 : 0 ≤ x7_2
         ·
          rw [if_pos c17] at H
          have c17b0 : decide (0 ≤ x7_2) = true := decide_eq_true c17
          clear c17
          obtain ⟨ji18, hji18⟩ : ∃ j_ : Int, (wrap64 (x7_2 - 1)) = j_ := ⟨_, rfl⟩
          replace H : (if 0 ≤ (ji18) then (if (ji18) < (l1.length : Int) then (if 0 ≤ (wrap64 (x7_2 - 2)) then (if (wrap64 (x7_2 - 2)) < (l1.length : Int) then (if (wrap64 ((rd l1 x7_2) - (rd l1 (ji18)))) < (wrap64 ((rd l1 (ji18)) - (rd l1 (wrap64 (x7_2 - 2))))) then (some (0, 0, ([] : List Int), 10)) else (kimberliteref03_Of.l1 k2 a0 l1 (wrap64 (x7_2 + 1)))) else (none)) else (none)) else (none)) else (none)) = some (r1, r2, r3, r4) := by first | (rw [hji18] at H; exact H) | (simp only [hji18] at H ⊢; exact H)
          have hji18w : (IntKind.i64.wrap (x7_2 - 1)) = ji18 := (i64_w _).trans hji18
          by_cases c19 : 0 ≤ (ji18)
          ·
           rw [if_pos c19] at H
           have c19b0 : decide (0 ≤ (ji18)) = true := decide_eq_true c19
           clear c19
           by_cases c20 : (ji18) < (l1.length : Int)
           ·
            rw [if_pos c20] at H
            have c20b0 : decide ((ji18) < (l1.length : Int)) = true := decide_eq_true c20
            clear c20
            obtain ⟨ji21, hji21⟩ : ∃ j_ : Int, (wrap64 (x7_2 - 2)) = j_ := ⟨_, rfl⟩
            replace H : (if 0 ≤ (ji21) then (if (ji21) < (l1.length : Int) then (if (wrap64 ((rd l1 x7_2) - (rd l1 (ji18)))) < (wrap64 ((rd l1 (ji18)) - (rd l1 (ji21)))) then (some (0, 0, ([] : List Int), 10)) else (kimberliteref03_Of.l1 k2 a0 l1 (wrap64 (x7_2 + 1)))) else (none)) else (none)) = some (r1, r2, r3, r4) := by first | (rw [hji21] at H; exact H) | (simp only [hji21] at H ⊢; exact H)
            have hji21w : (IntKind.i64.wrap (x7_2 - 2)) = ji21 := (i64_w _).trans hji21
            by_cases c22 : 0 ≤ (ji21)
            ·
             rw [if_pos c22] at H
             have c22b0 : decide (0 ≤ (ji21)) = true := decide_eq_true c22
             clear c22
             by_cases c23 : (ji21) < (l1.length : Int)
             ·
              rw [if_pos c23] at H
              have c23b0 : decide ((ji21) < (l1.length : Int)) = true := decide_eq_true c23
              clear c23
              by_cases c24 : (wrap64 ((rd l1 x7_2) - (rd l1 (ji18)))) < (wrap64 ((rd l1 (ji18)) - (rd l1 (ji21))))
              ·
               rw [if_pos c24] at H
               have c24b0 : decide ((wrap64 ((rd l1 x7_2) - (rd l1 (ji18)))) < (wrap64 ((rd l1 (ji18)) - (rd l1 (ji21))))) = true := decide_eq_true c24
               clear c24
               simp only [Option.some.injEq, Prod.mk.injEq] at H
               obtain ⟨rfl, rfl, rfl, rfl⟩ := H
               have p563 : 0 ≤ (x7_2 : Int) := of_decide_eq_true (by first | (with_reducible assumption) | assumption)
               have q563 : x7_2 < (l1.length : Int) := of_decide_eq_true (by first | (with_reducible assumption) | assumption)
               obtain ⟨ad563, e563, hx563_0⟩ := Kd.at_int HR1.out x7_2 p563 q563
               cases e563
               replace hx563_0 := (HB.out.cell (World.block_lt_of_cell? w _ hx563_0)).trans hx563_0
               replace p563 := eq_true p563
               replace q563 := eq_true q563
               have p564 : 0 ≤ ((ji18) : Int) := of_decide_eq_true (by first | (with_reducible assumption) | assumption)
               have q564 : (ji18) < (l1.length : Int) := of_decide_eq_true (by first | (with_reducible assumption) | assumption)
               obtain ⟨ad564, e564, hx564_0⟩ := Kd.at_int HR1.out (ji18) p564 q564
               obtain rfl : ad563 = ad564 := (by injection e564)
               replace hx564_0 := (HB.out.cell (World.block_lt_of_cell? w _ hx564_0)).trans hx564_0
               replace p564 := eq_true p564
               replace q564 := eq_true q564
               have p565 : 0 ≤ ((ji18) : Int) := of_decide_eq_true (by first | (with_reducible assumption) | assumption)
               have q565 : (ji18) < (l1.length : Int) := of_decide_eq_true (by first | (with_reducible assumption) | assumption)
               obtain ⟨ad565, e565, hx565_0⟩ := Kd.at_int HR1.out (ji18) p565 q565
               obtain rfl : ad563 = ad565 := (by injection e565)
               replace hx565_0 := (HB.out.cell (World.block_lt_of_cell? w _ hx565_0)).trans hx565_0
               replace p565 := eq_true p565
               replace q565 := eq_true q565
               have p566 : 0 ≤ ((ji21) : Int) := of_decide_eq_true (by first | (with_reducible assumption) | assumption)
               have q566 : (ji21) < (l1.length : Int) := of_decide_eq_true (by first | (with_reducible assumption) | assumption)
               obtain ⟨ad566, e566, hx566_0⟩ := Kd.at_int HR1.out (ji21) p566 q566
               obtain rfl : ad563 = ad566 := (by injection e566)
               replace hx566_0 := (HB.out.cell (World.block_lt_of_cell? w _ hx566_0)).trans hx566_0
               replace p566 := eq_true p566
               replace q566 := eq_true q566
               have hcz25_0 : wr.cell? ⟨gA, 0, none⟩ = some (.int .i64 x555000_2) := (blk_cell BK8w.out 0).trans rfl
               have hcz25_1 : wr.cell? ⟨gA, 1, none⟩ = some (.int .i64 x555001_2) := (blk_cell BK8w.out 1).trans rfl
               have hcz25_2 : wr.cell? ⟨gA, 2, none⟩ = some (.slice none 0 0) := (blk_cell BK8w.out 2).trans rfl
               have hfz25_0 := blk_frozen BK8w.out 0
               have hfz25_1 := blk_frozen BK8w.out 1
               have hfz25_2 := blk_frozen BK8w.out 2
               go_wp2
               repeat (go_quiet (fail); try go_wp2)
               refine bodyPost_ret (results_ct rfl _ _ gA 24 #[.int .i64 0, .int .i64 0, .slice none 0 0] (0, 0) _ rfl (by (with_reducible repeat (first | refine zN ?_ _ | refine zD ?_ | refine zB ?_ _)); refine blk_put (cs := #[.int .i64 0, .int .i64 0, .slice none 0 0]) ?_ 2 _ rfl; (with_reducible repeat (first | refine zN ?_ _ | refine zD ?_ | refine zB ?_ _)); refine blk_put (cs := #[.int .i64 0, .int .i64 x555001_2, .slice none 0 0]) ?_ 1 _ rfl; (with_reducible repeat (first | refine zN ?_ _ | refine zD ?_ | refine zB ?_ _)); refine blk_put (cs := #[.int .i64 x555000_2, .int .i64 x555001_2, .slice none 0 0]) ?_ 0 _ rfl; (with_reducible repeat (first | refine zN ?_ _ | refine zD ?_ | refine zB ?_ _)); exact BK8w.out) Try.underlying24 rfl (by kernel_rfl)) rfl ?_
               exact ⟨_, by first | rfl | (simp [errW_none, errW_some] <;> rfl) | (simp only [← hji18, ← hji21]; first | rfl | (simp [errW_none, errW_some] <;> rfl)) | (simp [*, errW_none, errW_some] <;> rfl), by first | exact Kd.R_nil _ _ _ _ _ | exact Kd.N_nil _ _ _ _ _ | exact Kd.V_nil _ _ _ _ _ | exact Kd.Q_nil _ _ _ _ _ | exact Kd.S_nil _ _ _ _ _, by repeat (first | (with_reducible first | exact HB.out | apply zW | apply zX | apply zY | refine zS ?_ GE8w.out) | exact HB.out)⟩
              ·
               rw [if_neg c24] at H
               have c24b0 : decide ((wrap64 ((rd l1 x7_2) - (rd l1 (ji18)))) < (wrap64 ((rd l1 (ji18)) - (rd l1 (ji21))))) = false := decide_eq_false c24
               clear c24
               have H' := zA H
               clear H
               have p563 : 0 ≤ (x7_2 : Int) := of_decide_eq_true (by first | (with_reducible assumption) | assumption)
               have q563 : x7_2 < (l1.length : Int) := of_decide_eq_true (by first | (with_reducible assumption) | assumption)
               obtain ⟨ad563, e563, hx563_0⟩ := Kd.at_int HR1.out x7_2 p563 q563
               cases e563
               replace hx563_0 := (HB.out.cell (World.block_lt_of_cell? w _ hx563_0)).trans hx563_0
               replace p563 := eq_true p563
               replace q563 := eq_true q563
               have p564 : 0 ≤ ((ji18) : Int) := of_decide_eq_true (by first | (with_reducible assumption) | assumption)
               have q564 : (ji18) < (l1.length : Int) := of_decide_eq_true (by first | (with_reducible assumption) | assumption)
               obtain ⟨ad564, e564, hx564_0⟩ := Kd.at_int HR1.out (ji18) p564 q564
               obtain rfl : ad563 = ad564 := (by injection e564)
               replace hx564_0 := (HB.out.cell (World.block_lt_of_cell? w _ hx564_0)).trans hx564_0
               replace p564 := eq_true p564
               replace q564 := eq_true q564
               have p565 : 0 ≤ ((ji18) : Int) := of_decide_eq_true (by first | (with_reducible assumption) | assumption)
               have q565 : (ji18) < (l1.length : Int) := of_decide_eq_true (by first | (with_reducible assumption) | assumption)
               obtain ⟨ad565, e565, hx565_0⟩ := Kd.at_int HR1.out (ji18) p565 q565
               obtain rfl : ad563 = ad565 := (by injection e565)
               replace hx565_0 := (HB.out.cell (World.block_lt_of_cell? w _ hx565_0)).trans hx565_0
               replace p565 := eq_true p565
               replace q565 := eq_true q565
               have p566 : 0 ≤ ((ji21) : Int) := of_decide_eq_true (by first | (with_reducible assumption) | assumption)
               have q566 : (ji21) < (l1.length : Int) := of_decide_eq_true (by first | (with_reducible assumption) | assumption)
               obtain ⟨ad566, e566, hx566_0⟩ := Kd.at_int HR1.out (ji21) p566 q566
               obtain rfl : ad563 = ad566 := (by injection e566)
               replace hx566_0 := (HB.out.cell (World.block_lt_of_cell? w _ hx566_0)).trans hx566_0
               replace p566 := eq_true p566
               replace q566 := eq_true q566
               go_wp2
               repeat (go_quiet (fail); try go_wp2)
               go_roundg k2
               case measure => have := HK1.out; have := HK2.out; omega
               case rel => exact ⟨(wrap64 (x7_2 + 1)), (x555000_2), (x555001_2), (by first | rfl | (simp; done) | (simp [*]; done)), H', ⟨by have := HK1.out; have := HK2.out; omega⟩, ⟨by (with_reducible repeat (first | refine zN ?_ _ | refine zD ?_ | refine zB ?_ _)); exact BK8w.out⟩, ⟨by repeat (first | (with_reducible first | exact HB.out | apply zW | apply zX | apply zY | refine zS ?_ GE8w.out) | exact HB.out)⟩⟩
             ·
              rw [if_neg c23] at H
              exact absurd H (by simp)
            ·
             rw [if_neg c22] at H
             exact absurd H (by simp)
           ·
            rw [if_neg c20] at H
            exact absurd H (by simp)
          ·
           rw [if_neg c19] at H
           exact absurd H (by simp)
         ·
          rw [if_neg c17] at H
          exact absurd H (by simp)
        ·
         rw [if_neg c16] at H
         have c16b0 : decide (x7_2 < (l1.length : Int)) = false := decide_eq_false c16
         clear c16
         replace H := Option.bind_eq_some_iff.mp H
         obtain ⟨⟨t557, t558, t559, t562⟩, A260, H⟩ := H
         replace H : (some (t557, t558, t559, t562)) = some (r1, r2, r3, r4) := H
         have A26 := zA A260
         clear A260
         simp only [Option.some.injEq, Prod.mk.injEq] at H
         obtain ⟨rfl, rfl, rfl, rfl⟩ := H
         go_wp2_with (first | (go_at_call 72; (with_reducible refine (kimberliteref03_ranged.calls k2 a0 _ _ l1 t557 t558 t559 t562 _ ?side1 ?side2 A26.out).mono ?_); (case side1 => repeat (first | exact (Kd.C_below HR1.out HB.out) | (with_reducible refine Kd.C_alloc ?_ _) | (with_reducible refine Kd.C_drewN ?_ _) | (with_reducible refine Kd.C_drew ?_))); (case side2 => exact HC1.out); rintro e w27 ⟨v560, rfl, ho0, hb⟩; have n0_ := zA (Kd.R_lower ho0 (below_size (by repeat (first | (with_reducible first | exact HB.out | apply zW | apply zX | apply zY | refine zS ?_ GE8w.out) | exact HB.out)))); have n1_ := zA (blk_below (g := gA) (o := .cells #[.int .i64 x555000_2, .int .i64 x555001_2, .slice none 0 0] 24 (0, 0)) (by (with_reducible repeat (first | refine zN ?_ _ | refine zD ?_ | refine zB ?_ _)); exact BK8w.out) hb); have n2_ := zA (below_step (by repeat (first | (with_reducible first | exact HB.out | apply zW | apply zX | apply zY | refine zS ?_ GE8w.out) | exact HB.out)) hb); clear BK8w; clear HB; have HO93 := n0_; have BK8w := n1_; have HB := n2_; clear n0_ n1_ n2_; (try clear hb); (try clear hb2); (try clear hk); (try clear hi); (try clear ho0); have hcz28_0 : w27.cell? ⟨gA, 0, none⟩ = some (.int .i64 x555000_2) := (blk_cell BK8w.out 0).trans rfl; have hcz28_1 : w27.cell? ⟨gA, 1, none⟩ = some (.int .i64 x555001_2) := (blk_cell BK8w.out 1).trans rfl; have hcz28_2 : w27.cell? ⟨gA, 2, none⟩ = some (.slice none 0 0) := (blk_cell BK8w.out 2).trans rfl; have hfz28_0 := blk_frozen BK8w.out 0; have hfz28_1 := blk_frozen BK8w.out 1; have hfz28_2 := blk_frozen BK8w.out 2; obtain ⟨Ao29, co29, eo29⟩ := Kd.R_slice HO93.out; subst eo29))
         repeat (go_quiet (first | (go_at_call 72; (with_reducible refine (kimberliteref03_ranged.calls k2 a0 _ _ l1 t557 t558 t559 t562 _ ?side1 ?side2 A26.out).mono ?_); (case side1 => repeat (first | exact (Kd.C_below HR1.out HB.out) | (with_reducible refine Kd.C_alloc ?_ _) | (with_reducible refine Kd.C_drewN ?_ _) | (with_reducible refine Kd.C_drew ?_))); (case side2 => exact HC1.out); rintro e w27 ⟨v560, rfl, ho0, hb⟩; have n0_ := zA (Kd.R_lower ho0 (below_size (by repeat (first | (with_reducible first | exact HB.out | apply zW | apply zX | apply zY | refine zS ?_ GE8w.out) | exact HB.out)))); have n1_ := zA (blk_below (g := gA) (o := .cells #[.int .i64 x555000_2, .int .i64 x555001_2, .slice none 0 0] 24 (0, 0)) (by (with_reducible repeat (first | refine zN ?_ _ | refine zD ?_ | refine zB ?_ _)); exact BK8w.out) hb); have n2_ := zA (below_step (by repeat (first | (with_reducible first | exact HB.out | apply zW | apply zX | apply zY | refine zS ?_ GE8w.out) | exact HB.out)) hb); clear BK8w; clear HB; have HO93 := n0_; have BK8w := n1_; have HB := n2_; clear n0_ n1_ n2_; (try clear hb); (try clear hb2); (try clear hk); (try clear hi); (try clear ho0); have hcz28_0 : w27.cell? ⟨gA, 0, none⟩ = some (.int .i64 x555000_2) := (blk_cell BK8w.out 0).trans rfl; have hcz28_1 : w27.cell? ⟨gA, 1, none⟩ = some (.int .i64 x555001_2) := (blk_cell BK8w.out 1).trans rfl; have hcz28_2 : w27.cell? ⟨gA, 2, none⟩ = some (.slice none 0 0) := (blk_cell BK8w.out 2).trans rfl; have hfz28_0 := blk_frozen BK8w.out 0; have hfz28_1 := blk_frozen BK8w.out 1; have hfz28_2 := blk_frozen BK8w.out 2; obtain ⟨Ao29, co29, eo29⟩ := Kd.R_slice HO93.out; subst eo29)); try go_wp2_with (first | (go_at_call 72; (with_reducible refine (kimberliteref03_ranged.calls k2 a0 _ _ l1 t557 t558 t559 t562 _ ?side1 ?side2 A26.out).mono ?_); (case side1 => repeat (first | exact (Kd.C_below HR1.out HB.out) | (with_reducible refine Kd.C_alloc ?_ _) | (with_reducible refine Kd.C_drewN ?_ _) | (with_reducible refine Kd.C_drew ?_))); (case side2 => exact HC1.out); rintro e w27 ⟨v560, rfl, ho0, hb⟩; have n0_ := zA (Kd.R_lower ho0 (below_size (by repeat (first | (with_reducible first | exact HB.out | apply zW | apply zX | apply zY | refine zS ?_ GE8w.out) | exact HB.out)))); have n1_ := zA (blk_below (g := gA) (o := .cells #[.int .i64 x555000_2, .int .i64 x555001_2, .slice none 0 0] 24 (0, 0)) (by (with_reducible repeat (first | refine zN ?_ _ | refine zD ?_ | refine zB ?_ _)); exact BK8w.out) hb); have n2_ := zA (below_step (by repeat (first | (with_reducible first | exact HB.out | apply zW | apply zX | apply zY | refine zS ?_ GE8w.out) | exact HB.out)) hb); clear BK8w; clear HB; have HO93 := n0_; have BK8w := n1_; have HB := n2_; clear n0_ n1_ n2_; (try clear hb); (try clear hb2); (try clear hk); (try clear hi); (try clear ho0); have hcz28_0 : w27.cell? ⟨gA, 0, none⟩ = some (.int .i64 x555000_2) := (blk_cell BK8w.out 0).trans rfl; have hcz28_1 : w27.cell? ⟨gA, 1, none⟩ = some (.int .i64 x555001_2) := (blk_cell BK8w.out 1).trans rfl; have hcz28_2 : w27.cell? ⟨gA, 2, none⟩ = some (.slice none 0 0) := (blk_cell BK8w.out 2).trans rfl; have hfz28_0 := blk_frozen BK8w.out 0; have hfz28_1 := blk_frozen BK8w.out 1; have hfz28_2 := blk_frozen BK8w.out 2; obtain ⟨Ao29, co29, eo29⟩ := Kd.R_slice HO93.out; subst eo29)))
         refine bodyPost_ret (results_ct rfl _ _ gA 24 #[.int .i64 t557, .int .i64 t558, .slice Ao29 t559.length co29] (0, 0) _ rfl (by (with_reducible repeat (first | refine zN ?_ _ | refine zD ?_ | refine zB ?_ _)); refine blk_put (cs := #[.int .i64 t557, .int .i64 t558, .slice none 0 0]) ?_ 2 _ rfl; (with_reducible repeat (first | refine zN ?_ _ | refine zD ?_ | refine zB ?_ _)); refine blk_put (cs := #[.int .i64 t557, .int .i64 x555001_2, .slice none 0 0]) ?_ 1 _ rfl; (with_reducible repeat (first | refine zN ?_ _ | refine zD ?_ | refine zB ?_ _)); refine blk_put (cs := #[.int .i64 x555000_2, .int .i64 x555001_2, .slice none 0 0]) ?_ 0 _ rfl; (with_reducible repeat (first | refine zN ?_ _ | refine zD ?_ | refine zB ?_ _)); exact BK8w.out) Try.underlying24 rfl (by kernel_rfl)) rfl ?_
         exact ⟨_, by first | rfl | (simp [errW_none, errW_some] <;> rfl) | (simp [*, errW_none, errW_some] <;> rfl), by (with_reducible repeat (first | apply Kd.R_alloc | apply Kd.R_drewN | apply Kd.R_drew)); exact Kd.R_mono (Kd.R_far (p := ⟨gA, 2, none⟩) (Kd.R_far (p := ⟨gA, 1, none⟩) (Kd.R_far (p := ⟨gA, 0, none⟩) (Kd.R_types HO93.out BK8w.out (by decide)) (fun _ hk => hk.2) (.int .i64 t557)) (fun _ hk => hk.2) (.int .i64 t558)) (fun _ hk => hk.2) (.slice Ao29 t559.length co29)) (fun _ hk => trivial), by repeat (first | (with_reducible first | exact HB.out | apply zW | apply zX | apply zY | refine zS ?_ GE8w.out) | exact HB.out)⟩
end Go.Proofs.Ytfeeaipbmpmpgaa.PX

namespace Go.Proofs.Ytfeeaipbmpmpgaa.PX
open Go.RowKit Go.Proofs.YtfeeaipbmpmpgaaW.PrintWords Go.Proofs.YtfeeaipbmpmpgaaW.PrintLast Go.Proofs.YtfeeaipbmpmpgaaW.PrintMore
set_option linter.unusedVariables false
set_option linter.unusedSimpArgs false

theorem alive_join : joinR 0 0 [1, 3] 0 0 [2, 2] = (0, 0, [1, 2, 2, 3], 0) := by
  have hs : sortI ([1, 3] ++ [2, 2]) = [1, 2, 2, 3] := by simp [sortI, List.mergeSort, List.MergeSort.Internal.splitInTwo]
  unfold joinR madeR
  rw [hs]
  decide +kernel
theorem alive_split : splitR [⟨0, 0, [1, 3]⟩, ⟨0, 0, [2, 2]⟩] 3 = ([1, 2], 5, 2, 0) := by
  decide +kernel
theorem C_blk {w : World} {g : Nat} {e : Nat} {cs : Array Value} (xs : List Int) (h : w.heap[g]? = some (.cells cs e (0, 0))) (hc : cs = (xs.map (Value.int .i64)).toArray) (hm : xs.length ≤ 1000) : Kd.C (Kd.int .i64) w (some ⟨g, 0, none⟩) xs.length xs := by
  subst hc
  refine ⟨rfl, by omega, fun _ => ⟨_, rfl, fun j p hj => ⟨[.int .i64 p], rfl, rfl, fun i u hu => ?_⟩⟩⟩
  have hs : (Kd.int .i64).sz = 1 := rfl
  rw [hs, Nat.mul_one]
  cases i with
  | succ i => simp at hu
  | zero =>
    have hu' : Value.int .i64 p = u := by simpa using hu
    subst hu'
    rw [Nat.add_zero, add_plain, blk_cell h]
    simp [hj]
theorem alive_join_calls (g0 g1 : Nat) (W : World) (h0 : W.heap[g0]? = some (.cells #[.int .i64 1, .int .i64 3] 3 (0, 0))) (h1 : W.heap[g1]? = some (.cells #[.int .i64 2, .int .i64 2] 3 (0, 0))) :
    Calls Try.prog 14 #[.agg #[.int .i64 0, .int .i64 0, .slice (some ⟨g0, 0, none⟩) 2 2], .agg #[.int .i64 0, .int .i64 0, .slice (some ⟨g1, 0, none⟩) 2 2]] W fun e w' => ∃ v, e = .returned (.tuple #[.agg #[.int .i64 0, .int .i64 0, v], .int .i64 0]) ∧ Kd.R (Kd.int .i64) 3 w' W.heap.size (fun _ => True) v [1, 2, 2, 3] ∧ Below W.heap.size W w' :=
  curve_Join.calls 0 0 _ 2 [1, 3] 0 0 _ 2 [2, 2] _ _ _ _ W (C_blk [1, 3] h0 rfl (by decide)) (by decide) (C_blk [2, 2] h1 rfl (by decide)) (by decide) (congrArg some alive_join)
theorem C_curves {W : World} {g g0 g1 : Nat} (hb : W.heap[g]? = some (.cells #[.int .i64 0, .int .i64 0, .slice (some ⟨g0, 0, none⟩) 2 2, .int .i64 0, .int .i64 0, .slice (some ⟨g1, 0, none⟩) 2 2] 24 (0, 0)))
    (h0 : W.heap[g0]? = some (.cells #[.int .i64 1, .int .i64 3] 3 (0, 0))) (h1 : W.heap[g1]? = some (.cells #[.int .i64 2, .int .i64 2] 3 (0, 0))) :
    Kd.C k24 W (some ⟨g, 0, none⟩) 2 [⟨0, 0, [1, 3]⟩, ⟨0, 0, [2, 2]⟩] := by
  have hsz : k24.sz = 3 := rfl
  refine ⟨rfl, by omega, fun _ => ⟨_, rfl, fun j p hj => ?_⟩⟩
  match j with
  | 0 =>
    have : p = ⟨0, 0, [1, 3]⟩ := by simpa using hj.symm
    subst this
    refine ⟨_, rfl, k24_mk W ⟨0, 0, [1, 3]⟩ (c2 := 2) (by decide) (C_blk [1, 3] h0 rfl (by decide)), fun i u hu => ?_⟩
    rw [add_plain, blk_cell hb, hsz, Nat.zero_mul, Nat.zero_add]
    match i with
    | 0 => simpa using hu
    | 1 => simpa using hu
    | 2 => simpa using hu
    | i + 3 => simp at hu
  | 1 =>
    have : p = ⟨0, 0, [2, 2]⟩ := by simpa using hj.symm
    subst this
    refine ⟨_, rfl, k24_mk W ⟨0, 0, [2, 2]⟩ (c2 := 2) (by decide) (C_blk [2, 2] h1 rfl (by decide)), fun i u hu => ?_⟩
    rw [add_plain, blk_cell hb, hsz, Nat.one_mul]
    match i with
    | 0 => simpa using hu
    | 1 => simpa using hu
    | 2 => simpa using hu
    | i + 3 => simp at hu
  | j + 2 => simp at hj
theorem alive_split_calls (g g0 g1 : Nat) (W : World) (hb : W.heap[g]? = some (.cells #[.int .i64 0, .int .i64 0, .slice (some ⟨g0, 0, none⟩) 2 2, .int .i64 0, .int .i64 0, .slice (some ⟨g1, 0, none⟩) 2 2] 24 (0, 0)))
    (h0 : W.heap[g0]? = some (.cells #[.int .i64 1, .int .i64 3] 3 (0, 0))) (h1 : W.heap[g1]? = some (.cells #[.int .i64 2, .int .i64 2] 3 (0, 0))) :
    Calls Try.prog 19 #[.slice (some ⟨g, 0, none⟩) 2 2, .int .i64 3] W fun e w' => ∃ v, e = .returned (.tuple #[v, .int .i64 5, .int .i64 2, .int .i64 0]) ∧ Kd.R (Kd.int .i64) 3 w' W.heap.size (fun _ => True) v [1, 2] ∧ Below W.heap.size W w' :=
  curve_Split.calls _ 2 [⟨0, 0, [1, 3]⟩, ⟨0, 0, [2, 2]⟩] 3 _ _ _ _ W (C_curves hb h0 h1) (by decide) (congrArg some alive_split)
def aliveW (w : World) : World :=
  (((w.alloc (.cells #[.int .i64 1, .int .i64 3] 3)).alloc (.cells #[.int .i64 2, .int .i64 2] 3)).alloc (.cells #[.int .i64 0, .int .i64 0, .slice (some ⟨w.heap.size, 0, none⟩) 2 2] 24)).alloc (.cells #[.int .i64 0, .int .i64 0, .slice (some ⟨w.heap.size + 1, 0, none⟩) 2 2] 24)
theorem size1 (w : World) (o : Obj) : (w.alloc o).heap.size = w.heap.size + 1 := by simp
theorem aliveW_facts (w : World) : (aliveW w).heap[w.heap.size]? = some (.cells #[.int .i64 1, .int .i64 3] 3 (0, 0)) ∧ (aliveW w).heap[w.heap.size + 1]? = some (.cells #[.int .i64 2, .int .i64 2] 3 (0, 0)) ∧
    (aliveW w).heap[w.heap.size + 1 + 1]? = some (.cells #[.int .i64 0, .int .i64 0, .slice (some ⟨w.heap.size, 0, none⟩) 2 2] 24 (0, 0)) ∧ (aliveW w).heap[w.heap.size + 1 + 1 + 1]? = some (.cells #[.int .i64 0, .int .i64 0, .slice (some ⟨w.heap.size + 1, 0, none⟩) 2 2] 24 (0, 0)) ∧ Below w.heap.size w (aliveW w) := by
  refine ⟨blk_alloc (blk_alloc (blk_alloc (blk_new _ _) _) _) _, ?_, ?_, ?_, below_alloc (below_alloc (below_alloc (below_alloc (Below.refl _ _) _) _) _) _⟩
  · rw [← size1 w (.cells #[.int .i64 1, .int .i64 3] 3)]
    exact blk_alloc (blk_alloc (blk_new _ _) _) _
  · rw [← size1 w (.cells #[.int .i64 1, .int .i64 3] 3), ← size1 (w.alloc (.cells #[.int .i64 1, .int .i64 3] 3)) (.cells #[.int .i64 2, .int .i64 2] 3)]
    exact blk_alloc (blk_new _ _) _
  · have h := blk_new (((w.alloc (.cells #[.int .i64 1, .int .i64 3] 3)).alloc (.cells #[.int .i64 2, .int .i64 2] 3)).alloc (.cells #[.int .i64 0, .int .i64 0, .slice (some ⟨w.heap.size, 0, none⟩) 2 2] 24)) (.cells #[.int .i64 0, .int .i64 0, .slice (some ⟨w.heap.size + 1, 0, none⟩) 2 2] 24)
    rw [size1, size1, size1] at h
    exact h
theorem same_lit {w : World} (A : Option Addr) (c : Nat) (l : List Int) (n : Nat) (hn : n = l.length) (cs : Array Value) (hcs : cs = (l.map (Value.int .i64)).toArray) (hc : l.length ≤ c) (hr : Kd.C (Kd.int .i64) w A l.length l) (hm : l.length ≤ 1000 := by decide) (hs : kimberlitelaw03_same.f 1000 l l = some true := by decide +kernel) :
    Calls Try.prog 24 #[.slice A n c, .slice (some ⟨w.heap.size, 0, none⟩) n n] (w.alloc (.cells cs 3)) fun e w' => e = .returned (.bool true) ∧ Below w.heap.size w w' := by
  subst hn
  refine (kimberlitelaw03_same.calls 1000 A c l _ l.length l true _ (Kd.C_alloc hr _) hc (C_blk l (blk_new _ _) hcs hm) (Nat.le_refl _) hs).mono ?_
  rintro e w' ⟨rfl, hd⟩
  exact ⟨rfl, below_then (below_alloc (Below.refl _ _) _) (by simp) hd.below⟩
def aliveV (w1 : World) (Av : Option Addr) (cv : Nat) (g0 g1 : Nat) : World :=
  (w1.alloc (.cells #[.int .i64 0, .int .i64 0, .slice Av 4 cv] 24)).alloc (.cells #[.int .i64 0, .int .i64 0, .slice (some ⟨g0, 0, none⟩) 2 2, .int .i64 0, .int .i64 0, .slice (some ⟨g1, 0, none⟩) 2 2] 24)
theorem aliveV_facts (w1 : World) (Av : Option Addr) (cv : Nat) (g0 g1 : Nat) : (aliveV w1 Av cv g0 g1).heap[w1.heap.size]? = some (.cells #[.int .i64 0, .int .i64 0, .slice Av 4 cv] 24 (0, 0)) ∧
    (aliveV w1 Av cv g0 g1).heap[w1.heap.size + 1]? = some (.cells #[.int .i64 0, .int .i64 0, .slice (some ⟨g0, 0, none⟩) 2 2, .int .i64 0, .int .i64 0, .slice (some ⟨g1, 0, none⟩) 2 2] 24 (0, 0)) ∧ Below w1.heap.size w1 (aliveV w1 Av cv g0 g1) := by
  refine ⟨blk_alloc (blk_new _ _) _, ?_, below_alloc (below_alloc (Below.refl _ _) _) _⟩
  rw [← size1 w1 (.cells #[.int .i64 0, .int .i64 0, .slice Av 4 cv] 24)]
  exact blk_new _ _
def kimberlitelaw03_alive.f : Option Bool := some true
set_option maxHeartbeats 8000000 in
set_option maxRecDepth 100000 in
theorem kimberlitelaw03_alive.calls (r : Bool) (w : World) (h : kimberlitelaw03_alive.f = some r) :
    Calls Try.prog 17 #[] w fun e w' => e = .returned (.bool r) ∧ Below w.heap.size w w' := by
  obtain rfl := Option.some.inj h
  clear h
  have hu24 := Try.underlying24
  obtain ⟨B0, B1, B2, B3, HBW⟩ := aliveW_facts w
  have A0 := Aside0.mk B0
  have A1 := Aside0.mk B1
  have A2 := Aside0.mk B2
  have A3 := Aside0.mk B3
  have AW := Aside0.mk HBW
  clear B0 B1 B2 B3 HBW
  go_enter Try.func17, Try.ntmps17
  go_wp2_with fail
  change Calls _ _ _ (aliveW w) _
  generalize aliveW w = W at A0 A1 A2 A3 AW ⊢
  generalize hg0 : w.heap.size = g0 at A0 A1 A2 A3 ⊢
  generalize hg1 : g0 + 1 = g1 at A0 A1 A2 A3 ⊢
  generalize hg2 : g1 + 1 = g2 at A0 A1 A2 A3 ⊢
  generalize hg3 : g2 + 1 = g3 at A0 A1 A2 A3 ⊢
  clear hg0 hg1 hg2 hg3
  refine (alive_join_calls g0 g1 W A0.out A1.out).mono ?_
  rintro e w1 ⟨v, rfl, hR, hB⟩
  obtain ⟨Av, cv, rfl, hcv, hCv⟩ := Kd.R_reads hR
  have HR := Aside0.mk hCv
  have HV := Aside0.mk hcv
  have HB := Aside0.mk hB
  have hc20 : w1.cell? ⟨g2, 0, none⟩ = some (.int .i64 0) := (blk_cell (blk_below A2.out hB) 0).trans rfl
  have hc21 : w1.cell? ⟨g2, 1, none⟩ = some (.int .i64 0) := (blk_cell (blk_below A2.out hB) 1).trans rfl
  have hc22 : w1.cell? ⟨g2, 2, none⟩ = some (.slice (some ⟨g0, 0, none⟩) 2 2) := (blk_cell (blk_below A2.out hB) 2).trans rfl
  have hc30 : w1.cell? ⟨g3, 0, none⟩ = some (.int .i64 0) := (blk_cell (blk_below A3.out hB) 0).trans rfl
  have hc31 : w1.cell? ⟨g3, 1, none⟩ = some (.int .i64 0) := (blk_cell (blk_below A3.out hB) 1).trans rfl
  have hc32 : w1.cell? ⟨g3, 2, none⟩ = some (.slice (some ⟨g1, 0, none⟩) 2 2) := (blk_cell (blk_below A3.out hB) 2).trans rfl
  have hl2 : g2 < w1.heap.size := blk_lt (blk_below A2.out hB)
  have hl3 : g3 < w1.heap.size := blk_lt (blk_below A3.out hB)
  clear hR hB hcv hCv
  go_wp2_with fail
  change Calls _ _ _ (aliveV w1 Av cv g0 g1) _
  obtain ⟨D0, D1, D2⟩ := aliveV_facts w1 Av cv g0 g1
  have E0 := blk_below (blk_below A0.out HB.out) D2
  have E1 := blk_below (blk_below A1.out HB.out) D2
  have HRv := Aside0.mk (Kd.C_below HR.out D2)
  have HB2 := Aside0.mk (below_then AW.out AW.out.size (below_then HB.out HB.out.size D2))
  generalize aliveV w1 Av cv g0 g1 = V at D0 D1 E0 E1 HRv HB2 ⊢
  generalize w1.heap.size = n0 at D0 D1 E0 E1 ⊢
  clear hc20 hc21 hc22 hc30 hc31 hc32 hl2 hl3 D2
  refine (alive_split_calls (n0 + 1) g0 g1 V D1 E0 E1).mono ?_
  rintro e w2 ⟨v2, rfl, hR2, hB3⟩
  obtain ⟨Au, cu, rfl, hcu, hCu⟩ := Kd.R_reads hR2
  have HU := Aside0.mk hCu
  have HUc := Aside0.mk hcu
  have hn0 : w2.cell? ⟨n0, 2, none⟩ = some (.slice Av 4 cv) := (blk_cell (blk_below D0 hB3) 2).trans rfl
  have HV2 := Aside0.mk (Kd.C_below HRv.out hB3)
  have HB4 := Aside0.mk (below_then HB2.out HB2.out.size hB3)
  clear D0 D1 E0 E1 hR2 hB3 hCu hcu
  go_wp2_with fail
  refine (same_lit (w := w2) Av cv [1, 2, 2, 3] 4 rfl _ rfl HV.out HV2.out).mono ?_
  rintro e w3 ⟨rfl, hb5⟩
  have HB5 := Aside0.mk (below_then HB4.out HB4.out.size hb5)
  have HU2 := Aside0.mk (Kd.C_below HU.out hb5)
  clear hb5
  go_wp2_with fail
  refine (same_lit (w := w3) Au cu [1, 2] 2 rfl _ rfl HUc.out HU2.out).mono ?_
  rintro e w4 ⟨rfl, hb6⟩
  have HB6 := Aside0.mk (below_then HB5.out HB5.out.size hb6)
  clear hb6
  go_wp2
  go_ret
  exact ⟨rfl, HB6.out⟩
end Go.Proofs.Ytfeeaipbmpmpgaa.PX
