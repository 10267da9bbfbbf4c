/- The conjugate of a join is the sum of the conjugates: what CurveDual computes is true for every two curves and prices. No condition beyond what the row itself says. -/
import Derived.WalkKit
import Derived.ProofKit
import Derived.OpenShut
import Derived.ShutString
import Derived.ChangeOld
import Derived.Below
import Derived.SizedLaws
import Derived.Test.YtfeeaipbmpmpgaaBDual2
import Derived.Test.YtfeeaipbmpmpgaaBDual1
import Derived.Test.YtfeeaipbmpmpgaaRows
namespace Go.Proofs.Ytfeeaipbmpmpgaa.PX
open Go.RowKit Go.Proofs.YtfeeaipbmpmpgaaW.PrintWords Go.Proofs.YtfeeaipbmpmpgaaW.PrintLast Go.Proofs.YtfeeaipbmpmpgaaW.PrintMore
attribute [local go_sem] max2_int min2_int max_two min_two max_three min_three max_four min_four
set_option linter.unusedVariables false
set_option linter.unusedSimpArgs false

/-- The sums of two lists, one by one. -/
def addL : List Int → List Int → List Int
  | x :: l, y :: m => (x + y) :: addL l m
  | _, _ => []
theorem addL_length (l m : List Int) (h : l.length = m.length) : (addL l m).length = l.length := by
  induction l generalizing m with
  | nil => cases m <;> rfl
  | cons x l ih => cases m with
    | nil => simp at h
    | cons y m => simp only [addL, List.length_cons]; rw [ih m (by simpa using h)]
theorem addL_getElem (l m : List Int) (h : l.length = m.length) (i : Nat) (hi : i < l.length) : (addL l m)[i]'(by rw [addL_length l m h]; exact hi) = l[i] + m[i]'(by omega) := by
  induction l generalizing m i with
  | nil => simp at hi
  | cons x l ih => cases m with
    | nil => simp at h
    | cons y m => cases i with
      | zero => rfl
      | succ i =>
        simp only [addL, List.getElem_cons_succ]
        exact ih m (by simpa using h) i (by simpa using hi)
/-- The sums up to k, behind them what was there. -/
def addK (l m : List Int) (k : Nat) : List Int := (addL l m).take k ++ l.drop k
theorem addK_length (l m : List Int) (h : l.length = m.length) (k : Nat) (hk : k ≤ l.length) : (addK l m k).length = l.length := by
  unfold addK
  rw [List.length_append, List.length_take, addL_length l m h, List.length_drop]
  omega
theorem addK_at (l m : List Int) (h : l.length = m.length) (k : Nat) (hk : k < l.length) : (addK l m k).getD k 0 = l[k] := by
  unfold addK
  have e : ((addL l m).take k).length = k := by rw [List.length_take, addL_length l m h]; omega
  rw [List.getD_eq_getElem?_getD, List.getElem?_append_right (by omega), e, Nat.sub_self, List.getElem?_drop]
  simp [hk]
theorem addK_set (l m : List Int) (h : l.length = m.length) (k : Nat) (hk : k < l.length) : (addK l m k).set k (l[k] + m[k]'(by omega)) = addK l m (k + 1) := by
  have e : ((addL l m).take k).length = k := by rw [List.length_take, addL_length l m h]; omega
  unfold addK
  rw [List.set_append_right _ _ (by omega), e, Nat.sub_self, List.drop_eq_getElem_cons hk, List.set_cons_zero, List.take_succ_eq_append_getElem (by rw [addL_length l m h]; exact hk), addL_getElem l m h k hk, List.append_assoc]
  rfl
theorem addK_all (l m : List Int) (h : l.length = m.length) : addK l m l.length = addL l m := by
  unfold addK
  rw [List.drop_length, List.append_nil, List.take_of_length_le (by rw [addL_length l m h]; exact Nat.le_refl _)]
theorem addK_zero (l m : List Int) : addK l m 0 = l := by simp [addK]
theorem R_head {W : World} {B n c : Nat} {ok : Nat → Prop} {A : Option Addr} {xs : List Int} (h : Kd.R (Kd.int .i64) 3 W B ok (.slice A n c) xs) (h0 : 0 < xs.length) : ∃ g, A = some ⟨g, 0, none⟩ ∧ B ≤ g ∧ (Value.slice A n c).ownBlock = some g := by
  have hown := Kd.own_of_R h
  rcases hown.2 with ⟨e, hz⟩ | ⟨g, cap, cur, e, hg, _⟩
  · omega
  · injection e with e1 e2 e3
    subst e1
    exact ⟨g, rfl, hg, rfl⟩
structure AddAt (wc wr : World) (g8 g9 : Nat) (x y1 y2 : Int) (A1 : Option Addr) (c1 : Nat) (A2 : Option Addr) (c2 : Nat) (l1 l2 : List Int) (k : Nat) : Prop where
  below : Below wc.heap.size wc wr
  b8 : wr.heap[g8]? = some (.cells #[.int .i64 x, .int .i64 y1, .slice A1 l1.length c1] 24 (0, 0))
  b9 : wr.heap[g9]? = some (.cells #[.int .i64 x, .int .i64 y2, .slice A2 l2.length c2] 24 (0, 0))
  r1 : Kd.R (Kd.int .i64) 3 wr wc.heap.size (fun _ => True) (.slice A1 l1.length c1) (addK l1 l2 k)
  r2 : Kd.R (Kd.int .i64) 3 wr wc.heap.size (fun k => some k ≠ (Value.slice A1 l1.length c1).ownBlock) (.slice A2 l2.length c2) l2
theorem AddAt.start {w wc W : World} {g8 g9 : Nat} {x y1 y2 : Int} {A1 : Option Addr} {c1 : Nat} {A2 : Option Addr} {c2 : Nat} {l1 l2 : List Int} (h : Pair w wc W g8 g9 x y1 y2 A1 c1 A2 c2 l1 l2) (y : Int) : AddAt wc (W.setCell ⟨g8, 1, none⟩ (.int .i64 y)) g8 g9 x y y2 A1 c1 A2 c2 l1 l2 0 where
  below := below_set h.below h.ge8
  b8 := blk_put h.b8 1 _ rfl
  b9 := (Below.heap_setCell W ⟨g8, 1, none⟩ (.int .i64 y) g9 (Ne.symm h.ne)).trans h.b9
  r1 := by rw [addK_zero]; exact Kd.R_set h.r1 h.b8 (by decide) 1 _
  r2 := Kd.R_set h.r2 h.b8 (by decide) 1 _
theorem AddAt.step {wc wr : World} {g8 g9 : Nat} {x y1 y2 : Int} {h1 : Nat} {c1 : Nat} {A2 : Option Addr} {c2 : Nat} {l1 l2 : List Int} {k : Nat} (h : AddAt wc wr g8 g9 x y1 y2 (some ⟨h1, 0, none⟩) c1 A2 c2 l1 l2 k) (hl : l1.length = l2.length) (hk : k < l1.length) :
    AddAt wc (wr.setCell ⟨h1, k, none⟩ (.int .i64 (l1[k] + l2[k]'(by omega)))) g8 g9 x y1 y2 (some ⟨h1, 0, none⟩) c1 A2 c2 l1 l2 (k + 1) := by
  have hp := Kd.R_putg h.r1 (k : Int) (l1[k] + l2[k]'(by omega))
  rw [Int.toNat_natCast, addK_set l1 l2 hl k hk] at hp
  obtain ⟨g, e, hge, ho⟩ := R_head h.r1 (by rw [addK_length l1 l2 hl k (by omega)]; omega)
  obtain rfl : h1 = g := by injection e with e; injection e
  exact ⟨below_set h.below hge, blk_grown h.b8 hp.2 (Kd.R_ne h.r1 h.b8 (by decide)), blk_grown h.b9 hp.2 (Kd.R_ne h.r1 h.b9 (by decide)), hp.1, Kd.R_grown h.r2 hp.2 (fun k hk => hk)⟩
def addR (a b : Int) (l : List Int) (a' b' : Int) (l' : List Int) : Int × Int × List Int × Int :=
  if valB a b l = true then if valB a' b' l' = true then
    if mn (a + (l.length : Int)) (a' + (l'.length : Int)) < mx a a' then (0, 0, [], 6)
    else madeR (mx a a') (cval a b l (mx a a') + cval a' b' l' (mx a a')) (addL (partL a l (mx a a') (mn (a + (l.length : Int)) (a' + (l'.length : Int)))) (partL a' l' (mx a a') (mn (a + (l.length : Int)) (a' + (l'.length : Int)))))
  else (0, 0, [], 2) else (0, 0, [], 2)
def curve_Add.f (a0_0 : Int) (a0_1 : Int) (l0_2 : List Int) (a1_0 : Int) (a1_1 : Int) (l1_2 : List Int) : Option (Int × Int × List Int × Int) := some (addR a0_0 a0_1 l0_2 a1_0 a1_1 l1_2)
def PairAt (w wz : World) (lo x1 x2 : Int) (l1 l2 : List Int) (v8 v9 : Value) (wd : World) : Prop := ∃ (g8 g9 : Nat) (A1 : Option Addr) (c1 : Nat) (A2 : Option Addr) (c2 : Nat), v8 = .pointer (some ⟨g8, 0, none⟩) ∧ v9 = .pointer (some ⟨g9, 0, none⟩) ∧ Aside0 (Pair w wz wd g8 g9 lo x1 x2 A1 c1 A2 c2 l1 l2)
theorem PairAt.mk {w wz wd : World} {lo x1 x2 : Int} {l1 l2 : List Int} {g8 g9 : Nat} {A1 : Option Addr} {c1 : Nat} {A2 : Option Addr} {c2 : Nat} (h : Pair w wz wd g8 g9 lo x1 x2 A1 c1 A2 c2 l1 l2) : PairAt w wz lo x1 x2 l1 l2 (.pointer (some ⟨g8, 0, none⟩)) (.pointer (some ⟨g9, 0, none⟩)) wd := ⟨_, _, _, _, _, _, rfl, rfl, ⟨h⟩⟩
def AddRel (wz : World) (g8 g9 : Nat) (x y1 y2 : Int) (A1 : Option Addr) (c1 : Nat) (A2 : Option Addr) (c2 : Nat) (l1 l2 : List Int) (i : Value) (wr : World) : Prop := ∃ k : Nat, k ≤ l2.length ∧ i = .int .i64 (k : Int) ∧ Aside0 (AddAt wz wr g8 g9 x y1 y2 A1 c1 A2 c2 l1 l2 k)
def AddPost (w : World) (r1 r2 : Int) (r3 : List Int) (r4 : Int) (e : Ending) (w' : World) : Prop := ∃ v, e = .returned (.tuple #[.agg #[.int .i64 r1, .int .i64 r2, v], .int .i64 r4]) ∧ Kd.R (Kd.int .i64) 3 w' w.heap.size (fun _ => True) v r3 ∧ Below w.heap.size w w'
def StrErr (w : World) (q : Int) (e : Ending) (w' : World) : Prop := e = .returned (.tuple #[.agg #[.int .i64 0, .int .i64 0, .slice none 0 0], .int .i64 q]) ∧ Below w.heap.size w w'
set_option maxHeartbeats 4000000 in
set_option maxRecDepth 100000 in
theorem add_invalid1 (a b : Int) (A : Option Addr) (c : Nat) (l : List Int) (a' b' : Int) (A' : Option Addr) (c' : Nat) (l' : List Int) (w : World) (hr : Kd.C (Kd.int .i64) w A l.length l) (hc : l.length ≤ c) (hr' : Kd.C (Kd.int .i64) w A' l'.length l') (hc' : l'.length ≤ c') (hv : valB a b l = false) :
    Calls Try.prog 38 #[.agg #[.int .i64 a, .int .i64 b, .slice A l.length c], .agg #[.int .i64 a', .int .i64 b', .slice A' l'.length c']] w (StrErr w 2) := by
  have hu24 := Try.underlying24
  have HV := Aside0.mk (fun (w1 : World) (hw : Below w.heap.size w w1) => curve_Valid.calls a b A c l _ w1 (Kd.C_below hr hw) hc rfl)
  have HV' := Aside0.mk (fun (w1 : World) (hw : Below w.heap.size w w1) => curve_Valid.calls a' b' A' c' l' _ w1 (Kd.C_below hr' hw) hc' rfl)
  have HB := Aside0.mk (Below.refl w.heap.size w)
  rw [hv] at HV
  clear hr hc hr' hc' hv
  go_enter Try.func38, Try.ntmps38
  go_wp2_with (first | ((with_reducible refine gate_dst (N := 2) rfl ?_); refine box_event ?hg (N := 2) ?hd (cs := #[.int .i64 a, .int .i64 b, .slice A l.length c]) (t := 24) ?hr ?_; (case hd => rfl); (case hg => rfl); (case hr => first | (go_simp; done) | (go_simp; rfl)); intro g2 hg w2 hbox hb; have GE2 := Aside0.mk (Nat.le_trans HB.out.size (Nat.le_of_eq hg.symm)); have HB_ := Aside0.mk (below_then HB.out HB.out.size hb); clear HB; have HB := HB_; clear HB_; have BK2 := Aside0.mk hbox; have c20 := (blk_cell BK2.out 0); have f20 := blk_frozen BK2.out 0; have c21 := (blk_cell BK2.out 1); have f21 := blk_frozen BK2.out 1; have c22 := (blk_cell BK2.out 2); have f22 := blk_frozen BK2.out 2; clear hbox hb hg) | ((with_reducible refine gate_dst (N := 3) rfl ?_); refine box_event ?hg (N := 3) ?hd (cs := #[.int .i64 a', .int .i64 b', .slice A' l'.length c']) (t := 24) ?hr ?_; (case hd => rfl); (case hg => rfl); (case hr => first | (go_simp; done) | (go_simp; rfl)); intro g3 hg w3 hbox hb; have GE3 := Aside0.mk (Nat.le_trans HB.out.size (Nat.le_of_eq hg.symm)); have HB_ := Aside0.mk (below_then HB.out HB.out.size hb); clear HB; have HB := HB_; clear HB_; have nb_ := Aside0.mk (blk_below BK2.out hb); (try clear c20 c21 c22 f20 f21 f22); clear BK2; have BK2 := nb_; clear nb_; have c20 := (blk_cell BK2.out 0); have f20 := blk_frozen BK2.out 0; have c21 := (blk_cell BK2.out 1); have f21 := blk_frozen BK2.out 1; have c22 := (blk_cell BK2.out 2); have f22 := blk_frozen BK2.out 2; have BK3 := Aside0.mk hbox; have c30 := (blk_cell BK3.out 0); have f30 := blk_frozen BK3.out 0; have c31 := (blk_cell BK3.out 1); have f31 := blk_frozen BK3.out 1; have c32 := (blk_cell BK3.out 2); have f32 := blk_frozen BK3.out 2; clear hbox hb hg) | ((with_reducible refine gate_dst (N := 4) rfl ?_); refine box_event ?hg (N := 4) ?hd (cs := #[.int .i64 0, .int .i64 0, .slice none 0 0]) (t := 24) ?hr ?_; (case hd => rfl); (case hg => rfl); (case hr => first | (go_simp; done) | (go_simp; rfl)); intro g4 hg w4 hbox hb; have GE4 := Aside0.mk (Nat.le_trans HB.out.size (Nat.le_of_eq hg.symm)); have HB_ := Aside0.mk (below_then HB.out HB.out.size hb); clear HB; have HB := HB_; clear HB_; have nb_ := Aside0.mk (blk_below BK2.out hb); (try clear c20 c21 c22 f20 f21 f22); clear BK2; have BK2 := nb_; clear nb_; have c20 := (blk_cell BK2.out 0); have f20 := blk_frozen BK2.out 0; have c21 := (blk_cell BK2.out 1); have f21 := blk_frozen BK2.out 1; have c22 := (blk_cell BK2.out 2); have f22 := blk_frozen BK2.out 2; have nb_ := Aside0.mk (blk_below BK3.out hb); (try clear c30 c31 c32 f30 f31 f32); clear BK3; have BK3 := nb_; clear nb_; have c30 := (blk_cell BK3.out 0); have f30 := blk_frozen BK3.out 0; have c31 := (blk_cell BK3.out 1); have f31 := blk_frozen BK3.out 1; have c32 := (blk_cell BK3.out 2); have f32 := blk_frozen BK3.out 2; have BK4 := Aside0.mk hbox; have c40 := (blk_cell BK4.out 0); have f40 := blk_frozen BK4.out 0; have c41 := (blk_cell BK4.out 1); have f41 := blk_frozen BK4.out 1; have c42 := (blk_cell BK4.out 2); have f42 := blk_frozen BK4.out 2; clear hbox hb hg) | (go_at_call 16; (with_reducible refine (HV.out _ HB.out).mono ?_); rintro e w5 ⟨rfl, hb⟩; have HB_ := Aside0.mk (below_then HB.out HB.out.size hb); clear HB; have HB := HB_; clear HB_; have nb_ := Aside0.mk (blk_below BK2.out hb); (try clear c20 c21 c22 f20 f21 f22); clear BK2; have BK2 := nb_; clear nb_; have c20 := (blk_cell BK2.out 0); have f20 := blk_frozen BK2.out 0; have c21 := (blk_cell BK2.out 1); have f21 := blk_frozen BK2.out 1; have c22 := (blk_cell BK2.out 2); have f22 := blk_frozen BK2.out 2; have nb_ := Aside0.mk (blk_below BK3.out hb); (try clear c30 c31 c32 f30 f31 f32); clear BK3; have BK3 := nb_; clear nb_; have c30 := (blk_cell BK3.out 0); have f30 := blk_frozen BK3.out 0; have c31 := (blk_cell BK3.out 1); have f31 := blk_frozen BK3.out 1; have c32 := (blk_cell BK3.out 2); have f32 := blk_frozen BK3.out 2; have nb_ := Aside0.mk (blk_below BK4.out hb); (try clear c40 c41 c42 f40 f41 f42); clear BK4; have BK4 := nb_; clear nb_; have c40 := (blk_cell BK4.out 0); have f40 := blk_frozen BK4.out 0; have c41 := (blk_cell BK4.out 1); have f41 := blk_frozen BK4.out 1; have c42 := (blk_cell BK4.out 2); have f42 := blk_frozen BK4.out 2; clear hb))
  have q1 := blk_put BK4.out 0 (.int .i64 0) rfl
  have q2 := blk_put q1 1 (.int .i64 0) rfl
  have q3 := blk_put q2 2 (.slice none 0 0) rfl
  have bb := below_set (j := 2) (v := .slice none 0 0) (below_set (j := 1) (v := .int .i64 0) (below_set (j := 0) (v := .int .i64 0) HB.out GE4.out) GE4.out) GE4.out
  exact bodyPost_ret (results_ct rfl _ _ g4 24 #[.int .i64 0, .int .i64 0, .slice none 0 0] (0, 0) _ rfl q3 hu24 rfl (by kernel_rfl)) rfl ⟨rfl, bb⟩
set_option maxHeartbeats 4000000 in
set_option maxRecDepth 100000 in
theorem add_invalid2 (a b : Int) (A : Option Addr) (c : Nat) (l : List Int) (a' b' : Int) (A' : Option Addr) (c' : Nat) (l' : List Int) (w : World) (hr : Kd.C (Kd.int .i64) w A l.length l) (hc : l.length ≤ c) (hr' : Kd.C (Kd.int .i64) w A' l'.length l') (hc' : l'.length ≤ c') (hv : valB a b l = true) (hv' : valB a' b' l' = false) :
    Calls Try.prog 38 #[.agg #[.int .i64 a, .int .i64 b, .slice A l.length c], .agg #[.int .i64 a', .int .i64 b', .slice A' l'.length c']] w (StrErr w 2) := by
  have hu24 := Try.underlying24
  have HV := Aside0.mk (fun (w1 : World) (hw : Below w.heap.size w w1) => curve_Valid.calls a b A c l _ w1 (Kd.C_below hr hw) hc rfl)
  have HV' := Aside0.mk (fun (w1 : World) (hw : Below w.heap.size w w1) => curve_Valid.calls a' b' A' c' l' _ w1 (Kd.C_below hr' hw) hc' rfl)
  have HB := Aside0.mk (Below.refl w.heap.size w)
  rw [hv] at HV
  rw [hv'] at HV'
  clear hr hc hr' hc' hv hv'
  go_enter Try.func38, Try.ntmps38
  go_wp2_with (first | ((with_reducible refine gate_dst (N := 2) rfl ?_); refine box_event ?hg (N := 2) ?hd (cs := #[.int .i64 a, .int .i64 b, .slice A l.length c]) (t := 24) ?hr ?_; (case hd => rfl); (case hg => rfl); (case hr => first | (go_simp; done) | (go_simp; rfl)); intro g2 hg w2 hbox hb; have GE2 := Aside0.mk (Nat.le_trans HB.out.size (Nat.le_of_eq hg.symm)); have HB_ := Aside0.mk (below_then HB.out HB.out.size hb); clear HB; have HB := HB_; clear HB_; have BK2 := Aside0.mk hbox; have c20 := (blk_cell BK2.out 0); have f20 := blk_frozen BK2.out 0; have c21 := (blk_cell BK2.out 1); have f21 := blk_frozen BK2.out 1; have c22 := (blk_cell BK2.out 2); have f22 := blk_frozen BK2.out 2; clear hbox hb hg) | ((with_reducible refine gate_dst (N := 3) rfl ?_); refine box_event ?hg (N := 3) ?hd (cs := #[.int .i64 a', .int .i64 b', .slice A' l'.length c']) (t := 24) ?hr ?_; (case hd => rfl); (case hg => rfl); (case hr => first | (go_simp; done) | (go_simp; rfl)); intro g3 hg w3 hbox hb; have GE3 := Aside0.mk (Nat.le_trans HB.out.size (Nat.le_of_eq hg.symm)); have HB_ := Aside0.mk (below_then HB.out HB.out.size hb); clear HB; have HB := HB_; clear HB_; have nb_ := Aside0.mk (blk_below BK2.out hb); (try clear c20 c21 c22 f20 f21 f22); clear BK2; have BK2 := nb_; clear nb_; have c20 := (blk_cell BK2.out 0); have f20 := blk_frozen BK2.out 0; have c21 := (blk_cell BK2.out 1); have f21 := blk_frozen BK2.out 1; have c22 := (blk_cell BK2.out 2); have f22 := blk_frozen BK2.out 2; have BK3 := Aside0.mk hbox; have c30 := (blk_cell BK3.out 0); have f30 := blk_frozen BK3.out 0; have c31 := (blk_cell BK3.out 1); have f31 := blk_frozen BK3.out 1; have c32 := (blk_cell BK3.out 2); have f32 := blk_frozen BK3.out 2; clear hbox hb hg) | ((with_reducible refine gate_dst (N := 4) rfl ?_); refine box_event ?hg (N := 4) ?hd (cs := #[.int .i64 0, .int .i64 0, .slice none 0 0]) (t := 24) ?hr ?_; (case hd => rfl); (case hg => rfl); (case hr => first | (go_simp; done) | (go_simp; rfl)); intro g4 hg w4 hbox hb; have GE4 := Aside0.mk (Nat.le_trans HB.out.size (Nat.le_of_eq hg.symm)); have HB_ := Aside0.mk (below_then HB.out HB.out.size hb); clear HB; have HB := HB_; clear HB_; have nb_ := Aside0.mk (blk_below BK2.out hb); (try clear c20 c21 c22 f20 f21 f22); clear BK2; have BK2 := nb_; clear nb_; have c20 := (blk_cell BK2.out 0); have f20 := blk_frozen BK2.out 0; have c21 := (blk_cell BK2.out 1); have f21 := blk_frozen BK2.out 1; have c22 := (blk_cell BK2.out 2); have f22 := blk_frozen BK2.out 2; have nb_ := Aside0.mk (blk_below BK3.out hb); (try clear c30 c31 c32 f30 f31 f32); clear BK3; have BK3 := nb_; clear nb_; have c30 := (blk_cell BK3.out 0); have f30 := blk_frozen BK3.out 0; have c31 := (blk_cell BK3.out 1); have f31 := blk_frozen BK3.out 1; have c32 := (blk_cell BK3.out 2); have f32 := blk_frozen BK3.out 2; have BK4 := Aside0.mk hbox; have c40 := (blk_cell BK4.out 0); have f40 := blk_frozen BK4.out 0; have c41 := (blk_cell BK4.out 1); have f41 := blk_frozen BK4.out 1; have c42 := (blk_cell BK4.out 2); have f42 := blk_frozen BK4.out 2; clear hbox hb hg) | (go_at_call 16; (with_reducible refine (HV.out _ HB.out).mono ?_); rintro e w5 ⟨rfl, hb⟩; have HB_ := Aside0.mk (below_then HB.out HB.out.size hb); clear HB; have HB := HB_; clear HB_; have nb_ := Aside0.mk (blk_below BK2.out hb); (try clear c20 c21 c22 f20 f21 f22); clear BK2; have BK2 := nb_; clear nb_; have c20 := (blk_cell BK2.out 0); have f20 := blk_frozen BK2.out 0; have c21 := (blk_cell BK2.out 1); have f21 := blk_frozen BK2.out 1; have c22 := (blk_cell BK2.out 2); have f22 := blk_frozen BK2.out 2; have nb_ := Aside0.mk (blk_below BK3.out hb); (try clear c30 c31 c32 f30 f31 f32); clear BK3; have BK3 := nb_; clear nb_; have c30 := (blk_cell BK3.out 0); have f30 := blk_frozen BK3.out 0; have c31 := (blk_cell BK3.out 1); have f31 := blk_frozen BK3.out 1; have c32 := (blk_cell BK3.out 2); have f32 := blk_frozen BK3.out 2; have nb_ := Aside0.mk (blk_below BK4.out hb); (try clear c40 c41 c42 f40 f41 f42); clear BK4; have BK4 := nb_; clear nb_; have c40 := (blk_cell BK4.out 0); have f40 := blk_frozen BK4.out 0; have c41 := (blk_cell BK4.out 1); have f41 := blk_frozen BK4.out 1; have c42 := (blk_cell BK4.out 2); have f42 := blk_frozen BK4.out 2; clear hb) | (go_at_call 16; (with_reducible refine (HV'.out _ HB.out).mono ?_); rintro e w5 ⟨rfl, hb⟩; have HB_ := Aside0.mk (below_then HB.out HB.out.size hb); clear HB; have HB := HB_; clear HB_; have nb_ := Aside0.mk (blk_below BK2.out hb); (try clear c20 c21 c22 f20 f21 f22); clear BK2; have BK2 := nb_; clear nb_; have c20 := (blk_cell BK2.out 0); have f20 := blk_frozen BK2.out 0; have c21 := (blk_cell BK2.out 1); have f21 := blk_frozen BK2.out 1; have c22 := (blk_cell BK2.out 2); have f22 := blk_frozen BK2.out 2; have nb_ := Aside0.mk (blk_below BK3.out hb); (try clear c30 c31 c32 f30 f31 f32); clear BK3; have BK3 := nb_; clear nb_; have c30 := (blk_cell BK3.out 0); have f30 := blk_frozen BK3.out 0; have c31 := (blk_cell BK3.out 1); have f31 := blk_frozen BK3.out 1; have c32 := (blk_cell BK3.out 2); have f32 := blk_frozen BK3.out 2; have nb_ := Aside0.mk (blk_below BK4.out hb); (try clear c40 c41 c42 f40 f41 f42); clear BK4; have BK4 := nb_; clear nb_; have c40 := (blk_cell BK4.out 0); have f40 := blk_frozen BK4.out 0; have c41 := (blk_cell BK4.out 1); have f41 := blk_frozen BK4.out 1; have c42 := (blk_cell BK4.out 2); have f42 := blk_frozen BK4.out 2; clear hb))
  have q1 := blk_put BK4.out 0 (.int .i64 0) rfl
  have q2 := blk_put q1 1 (.int .i64 0) rfl
  have q3 := blk_put q2 2 (.slice none 0 0) rfl
  have bb := below_set (j := 2) (v := .slice none 0 0) (below_set (j := 1) (v := .int .i64 0) (below_set (j := 0) (v := .int .i64 0) HB.out GE4.out) GE4.out) GE4.out
  exact bodyPost_ret (results_ct rfl _ _ g4 24 #[.int .i64 0, .int .i64 0, .slice none 0 0] (0, 0) _ rfl q3 hu24 rfl (by kernel_rfl)) rfl ⟨rfl, bb⟩
set_option maxHeartbeats 4000000 in
set_option maxRecDepth 100000 in
theorem add_apart (a b : Int) (A : Option Addr) (c : Nat) (l : List Int) (a' b' : Int) (A' : Option Addr) (c' : Nat) (l' : List Int) (w : World) (hr : Kd.C (Kd.int .i64) w A l.length l) (hc : l.length ≤ c) (hr' : Kd.C (Kd.int .i64) w A' l'.length l') (hc' : l'.length ≤ c') (hv : valB a b l = true) (hv' : valB a' b' l' = true) (lo hi : Int) (hlo : mx a a' = lo) (hhi : mn (a + (l.length : Int)) (a' + (l'.length : Int)) = hi) (hlt : hi < lo) :
    Calls Try.prog 38 #[.agg #[.int .i64 a, .int .i64 b, .slice A l.length c], .agg #[.int .i64 a', .int .i64 b', .slice A' l'.length c']] w (StrErr w 6) := by
  have hu24 := Try.underlying24
  have HV := Aside0.mk (fun (w1 : World) (hw : Below w.heap.size w w1) => curve_Valid.calls a b A c l _ w1 (Kd.C_below hr hw) hc rfl)
  have HV' := Aside0.mk (fun (w1 : World) (hw : Below w.heap.size w w1) => curve_Valid.calls a' b' A' c' l' _ w1 (Kd.C_below hr' hw) hc' rfl)
  have HB := Aside0.mk (Below.refl w.heap.size w)
  rw [hv] at HV
  rw [hv'] at HV'
  obtain ⟨p1, p2, p3, p4, p5⟩ := val_from hv
  obtain ⟨q1, q2, q3, q4, q5⟩ := val_from hv'
  have HT := Aside0.mk (fun (w1 : World) (hw : Below w.heap.size w w1) => curve_to.calls a b A c l (a + (l.length : Int)) w1 (Kd.C_below hr hw) hc (by unfold curve_to.f; rw [w64 (by omega) (by omega)]))
  have HT' := Aside0.mk (fun (w1 : World) (hw : Below w.heap.size w w1) => curve_to.calls a' b' A' c' l' (a' + (l'.length : Int)) w1 (Kd.C_below hr' hw) hc' (by unfold curve_to.f; rw [w64 (by omega) (by omega)]))
  have hlt' : decide (hi < lo) = true := decide_eq_true hlt
  have hmax : (if a < a' then a' else a) = lo := hlo
  have hmin : (if a' + (l'.length : Int) < a + (l.length : Int) then a' + (l'.length : Int) else a + (l.length : Int)) = hi := hhi
  clear hr hc hr' hc' hv hv' hlo hhi hlt
  go_enter Try.func38, Try.ntmps38
  go_wp2_with (first | ((with_reducible refine gate_dst (N := 2) rfl ?_); refine box_event ?hg (N := 2) ?hd (cs := #[.int .i64 a, .int .i64 b, .slice A l.length c]) (t := 24) ?hr ?_; (case hd => rfl); (case hg => rfl); (case hr => first | (go_simp; done) | (go_simp; rfl)); intro g2 hg w2 hbox hb; have GE2 := Aside0.mk (Nat.le_trans HB.out.size (Nat.le_of_eq hg.symm)); have HB_ := Aside0.mk (below_then HB.out HB.out.size hb); clear HB; have HB := HB_; clear HB_; have BK2 := Aside0.mk hbox; have c20 := (blk_cell BK2.out 0); have f20 := blk_frozen BK2.out 0; have c21 := (blk_cell BK2.out 1); have f21 := blk_frozen BK2.out 1; have c22 := (blk_cell BK2.out 2); have f22 := blk_frozen BK2.out 2; clear hbox hb hg) | ((with_reducible refine gate_dst (N := 3) rfl ?_); refine box_event ?hg (N := 3) ?hd (cs := #[.int .i64 a', .int .i64 b', .slice A' l'.length c']) (t := 24) ?hr ?_; (case hd => rfl); (case hg => rfl); (case hr => first | (go_simp; done) | (go_simp; rfl)); intro g3 hg w3 hbox hb; have GE3 := Aside0.mk (Nat.le_trans HB.out.size (Nat.le_of_eq hg.symm)); have HB_ := Aside0.mk (below_then HB.out HB.out.size hb); clear HB; have HB := HB_; clear HB_; have nb_ := Aside0.mk (blk_below BK2.out hb); (try clear c20 c21 c22 f20 f21 f22); clear BK2; have BK2 := nb_; clear nb_; have c20 := (blk_cell BK2.out 0); have f20 := blk_frozen BK2.out 0; have c21 := (blk_cell BK2.out 1); have f21 := blk_frozen BK2.out 1; have c22 := (blk_cell BK2.out 2); have f22 := blk_frozen BK2.out 2; have BK3 := Aside0.mk hbox; have c30 := (blk_cell BK3.out 0); have f30 := blk_frozen BK3.out 0; have c31 := (blk_cell BK3.out 1); have f31 := blk_frozen BK3.out 1; have c32 := (blk_cell BK3.out 2); have f32 := blk_frozen BK3.out 2; clear hbox hb hg) | ((with_reducible refine gate_dst (N := 4) rfl ?_); refine box_event ?hg (N := 4) ?hd (cs := #[.int .i64 0, .int .i64 0, .slice none 0 0]) (t := 24) ?hr ?_; (case hd => rfl); (case hg => rfl); (case hr => first | (go_simp; done) | (go_simp; rfl)); intro g4 hg w4 hbox hb; have GE4 := Aside0.mk (Nat.le_trans HB.out.size (Nat.le_of_eq hg.symm)); have HB_ := Aside0.mk (below_then HB.out HB.out.size hb); clear HB; have HB := HB_; clear HB_; have nb_ := Aside0.mk (blk_below BK2.out hb); (try clear c20 c21 c22 f20 f21 f22); clear BK2; have BK2 := nb_; clear nb_; have c20 := (blk_cell BK2.out 0); have f20 := blk_frozen BK2.out 0; have c21 := (blk_cell BK2.out 1); have f21 := blk_frozen BK2.out 1; have c22 := (blk_cell BK2.out 2); have f22 := blk_frozen BK2.out 2; have nb_ := Aside0.mk (blk_below BK3.out hb); (try clear c30 c31 c32 f30 f31 f32); clear BK3; have BK3 := nb_; clear nb_; have c30 := (blk_cell BK3.out 0); have f30 := blk_frozen BK3.out 0; have c31 := (blk_cell BK3.out 1); have f31 := blk_frozen BK3.out 1; have c32 := (blk_cell BK3.out 2); have f32 := blk_frozen BK3.out 2; have BK4 := Aside0.mk hbox; have c40 := (blk_cell BK4.out 0); have f40 := blk_frozen BK4.out 0; have c41 := (blk_cell BK4.out 1); have f41 := blk_frozen BK4.out 1; have c42 := (blk_cell BK4.out 2); have f42 := blk_frozen BK4.out 2; clear hbox hb hg) | (go_at_call 16; (with_reducible refine (HV.out _ HB.out).mono ?_); rintro e w5 ⟨rfl, hb⟩; have HB_ := Aside0.mk (below_then HB.out HB.out.size hb); clear HB; have HB := HB_; clear HB_; have nb_ := Aside0.mk (blk_below BK2.out hb); (try clear c20 c21 c22 f20 f21 f22); clear BK2; have BK2 := nb_; clear nb_; have c20 := (blk_cell BK2.out 0); have f20 := blk_frozen BK2.out 0; have c21 := (blk_cell BK2.out 1); have f21 := blk_frozen BK2.out 1; have c22 := (blk_cell BK2.out 2); have f22 := blk_frozen BK2.out 2; have nb_ := Aside0.mk (blk_below BK3.out hb); (try clear c30 c31 c32 f30 f31 f32); clear BK3; have BK3 := nb_; clear nb_; have c30 := (blk_cell BK3.out 0); have f30 := blk_frozen BK3.out 0; have c31 := (blk_cell BK3.out 1); have f31 := blk_frozen BK3.out 1; have c32 := (blk_cell BK3.out 2); have f32 := blk_frozen BK3.out 2; have nb_ := Aside0.mk (blk_below BK4.out hb); (try clear c40 c41 c42 f40 f41 f42); clear BK4; have BK4 := nb_; clear nb_; have c40 := (blk_cell BK4.out 0); have f40 := blk_frozen BK4.out 0; have c41 := (blk_cell BK4.out 1); have f41 := blk_frozen BK4.out 1; have c42 := (blk_cell BK4.out 2); have f42 := blk_frozen BK4.out 2; clear hb) | (go_at_call 16; (with_reducible refine (HV'.out _ HB.out).mono ?_); rintro e w5 ⟨rfl, hb⟩; have HB_ := Aside0.mk (below_then HB.out HB.out.size hb); clear HB; have HB := HB_; clear HB_; have nb_ := Aside0.mk (blk_below BK2.out hb); (try clear c20 c21 c22 f20 f21 f22); clear BK2; have BK2 := nb_; clear nb_; have c20 := (blk_cell BK2.out 0); have f20 := blk_frozen BK2.out 0; have c21 := (blk_cell BK2.out 1); have f21 := blk_frozen BK2.out 1; have c22 := (blk_cell BK2.out 2); have f22 := blk_frozen BK2.out 2; have nb_ := Aside0.mk (blk_below BK3.out hb); (try clear c30 c31 c32 f30 f31 f32); clear BK3; have BK3 := nb_; clear nb_; have c30 := (blk_cell BK3.out 0); have f30 := blk_frozen BK3.out 0; have c31 := (blk_cell BK3.out 1); have f31 := blk_frozen BK3.out 1; have c32 := (blk_cell BK3.out 2); have f32 := blk_frozen BK3.out 2; have nb_ := Aside0.mk (blk_below BK4.out hb); (try clear c40 c41 c42 f40 f41 f42); clear BK4; have BK4 := nb_; clear nb_; have c40 := (blk_cell BK4.out 0); have f40 := blk_frozen BK4.out 0; have c41 := (blk_cell BK4.out 1); have f41 := blk_frozen BK4.out 1; have c42 := (blk_cell BK4.out 2); have f42 := blk_frozen BK4.out 2; clear hb))
  go_cut [6, 7] (fun v6 v7 wc => v6 = .int .i64 lo ∧ v7 = .int .i64 hi ∧ Aside0 (wc.heap[g2]? = some (.cells #[.int .i64 a, .int .i64 b, .slice A l.length c] 24 (0, 0))) ∧ Aside0 (wc.heap[g3]? = some (.cells #[.int .i64 a', .int .i64 b', .slice A' l'.length c'] 24 (0, 0))) ∧ Aside0 (wc.heap[g4]? = some (.cells #[.int .i64 0, .int .i64 0, .slice none 0 0] 24 (0, 0))) ∧ Aside0 (Below w.heap.size w wc))
  case first =>
    have hbd := below_drew (Below.refl w5.heap.size w5)
    have HB_ := Aside0.mk (below_then HB.out HB.out.size hbd)
    clear HB
    have HB := HB_
    clear HB_
    have nb_ := Aside0.mk (blk_below BK2.out hbd)
    (try clear c20 c21 c22 f20 f21 f22)
    clear BK2
    have BK2 := nb_
    clear nb_
    have c20 := (blk_cell BK2.out 0)
    have f20 := blk_frozen BK2.out 0
    have c21 := (blk_cell BK2.out 1)
    have f21 := blk_frozen BK2.out 1
    have c22 := (blk_cell BK2.out 2)
    have f22 := blk_frozen BK2.out 2
    have nb_ := Aside0.mk (blk_below BK3.out hbd)
    (try clear c30 c31 c32 f30 f31 f32)
    clear BK3
    have BK3 := nb_
    clear nb_
    have c30 := (blk_cell BK3.out 0)
    have f30 := blk_frozen BK3.out 0
    have c31 := (blk_cell BK3.out 1)
    have f31 := blk_frozen BK3.out 1
    have c32 := (blk_cell BK3.out 2)
    have f32 := blk_frozen BK3.out 2
    have nb_ := Aside0.mk (blk_below BK4.out hbd)
    (try clear c40 c41 c42 f40 f41 f42)
    clear BK4
    have BK4 := nb_
    clear nb_
    have c40 := (blk_cell BK4.out 0)
    have f40 := blk_frozen BK4.out 0
    have c41 := (blk_cell BK4.out 1)
    have f41 := blk_frozen BK4.out 1
    have c42 := (blk_cell BK4.out 2)
    have f42 := blk_frozen BK4.out 2
    clear hbd
    go_region_held3 (fun W => W.cell? ⟨g2, 0, none⟩ = some (.int .i64 a) ∧ W.cell? ⟨g2, 1, none⟩ = some (.int .i64 b) ∧ W.cell? ⟨g2, 2, none⟩ = some (.slice A l.length c) ∧ W.cell? ⟨g3, 0, none⟩ = some (.int .i64 a') ∧ W.cell? ⟨g3, 1, none⟩ = some (.int .i64 b') ∧ W.cell? ⟨g3, 2, none⟩ = some (.slice A' l'.length c')) (exact ⟨(blk_cell BK2.out 0).trans rfl, (blk_cell BK2.out 1).trans rfl, (blk_cell BK2.out 2).trans rfl, (blk_cell BK3.out 0).trans rfl, (blk_cell BK3.out 1).trans rfl, (blk_cell BK3.out 2).trans rfl⟩) (first | (go_at_call 58; (with_reducible refine (HT.out _ HB.out).mono ?_); rintro e w6 ⟨rfl, hb⟩; have HB_ := Aside0.mk (below_then HB.out HB.out.size hb); clear HB; have HB := HB_; clear HB_; have nb_ := Aside0.mk (blk_below BK2.out hb); (try clear c20 c21 c22 f20 f21 f22); clear BK2; have BK2 := nb_; clear nb_; have c20 := (blk_cell BK2.out 0); have f20 := blk_frozen BK2.out 0; have c21 := (blk_cell BK2.out 1); have f21 := blk_frozen BK2.out 1; have c22 := (blk_cell BK2.out 2); have f22 := blk_frozen BK2.out 2; have nb_ := Aside0.mk (blk_below BK3.out hb); (try clear c30 c31 c32 f30 f31 f32); clear BK3; have BK3 := nb_; clear nb_; have c30 := (blk_cell BK3.out 0); have f30 := blk_frozen BK3.out 0; have c31 := (blk_cell BK3.out 1); have f31 := blk_frozen BK3.out 1; have c32 := (blk_cell BK3.out 2); have f32 := blk_frozen BK3.out 2; have nb_ := Aside0.mk (blk_below BK4.out hb); (try clear c40 c41 c42 f40 f41 f42); clear BK4; have BK4 := nb_; clear nb_; have c40 := (blk_cell BK4.out 0); have f40 := blk_frozen BK4.out 0; have c41 := (blk_cell BK4.out 1); have f41 := blk_frozen BK4.out 1; have c42 := (blk_cell BK4.out 2); have f42 := blk_frozen BK4.out 2; clear hb) | (go_at_call 58; (with_reducible refine (HT'.out _ HB.out).mono ?_); rintro e w7 ⟨rfl, hb⟩; have HB_ := Aside0.mk (below_then HB.out HB.out.size hb); clear HB; have HB := HB_; clear HB_; have nb_ := Aside0.mk (blk_below BK2.out hb); (try clear c20 c21 c22 f20 f21 f22); clear BK2; have BK2 := nb_; clear nb_; have c20 := (blk_cell BK2.out 0); have f20 := blk_frozen BK2.out 0; have c21 := (blk_cell BK2.out 1); have f21 := blk_frozen BK2.out 1; have c22 := (blk_cell BK2.out 2); have f22 := blk_frozen BK2.out 2; have nb_ := Aside0.mk (blk_below BK3.out hb); (try clear c30 c31 c32 f30 f31 f32); clear BK3; have BK3 := nb_; clear nb_; have c30 := (blk_cell BK3.out 0); have f30 := blk_frozen BK3.out 0; have c31 := (blk_cell BK3.out 1); have f31 := blk_frozen BK3.out 1; have c32 := (blk_cell BK3.out 2); have f32 := blk_frozen BK3.out 2; have nb_ := Aside0.mk (blk_below BK4.out hb); (try clear c40 c41 c42 f40 f41 f42); clear BK4; have BK4 := nb_; clear nb_; have c40 := (blk_cell BK4.out 0); have f40 := blk_frozen BK4.out 0; have c41 := (blk_cell BK4.out 1); have f41 := blk_frozen BK4.out 1; have c42 := (blk_cell BK4.out 2); have f42 := blk_frozen BK4.out 2; clear hb))
    all_goals go_wp2
    all_goals go_meet
    all_goals exact ⟨rfl, rfl, BK2, BK3, BK4, HB⟩
  case rest =>
  clear BK2 BK3 BK4 HB
  (try clear c20 c21 c22 f20 f21 f22); (try clear c30 c31 c32 f30 f31 f32); (try clear c40 c41 c42 f40 f41 f42); skip
  obtain ⟨rfl, rfl, BK2, BK3, BK4, HB⟩ := hcut
  have hlt2 : hi < lo := of_decide_eq_true hlt'
  have c20 := (blk_cell BK2.out 0)
  have f20 := blk_frozen BK2.out 0
  have c21 := (blk_cell BK2.out 1)
  have f21 := blk_frozen BK2.out 1
  have c22 := (blk_cell BK2.out 2)
  have f22 := blk_frozen BK2.out 2
  have c30 := (blk_cell BK3.out 0)
  have f30 := blk_frozen BK3.out 0
  have c31 := (blk_cell BK3.out 1)
  have f31 := blk_frozen BK3.out 1
  have c32 := (blk_cell BK3.out 2)
  have f32 := blk_frozen BK3.out 2
  have c40 := (blk_cell BK4.out 0)
  have f40 := blk_frozen BK4.out 0
  have c41 := (blk_cell BK4.out 1)
  have f41 := blk_frozen BK4.out 1
  have c42 := (blk_cell BK4.out 2)
  have f42 := blk_frozen BK4.out 2
  go_wp2
  have q1 := blk_put BK4.out 0 (.int .i64 0) rfl
  have q2 := blk_put q1 1 (.int .i64 0) rfl
  have q3 := blk_put q2 2 (.slice none 0 0) rfl
  have bb := below_set (j := 2) (v := .slice none 0 0) (below_set (j := 1) (v := .int .i64 0) (below_set (j := 0) (v := .int .i64 0) HB.out GE4.out) GE4.out) GE4.out
  exact bodyPost_ret (results_ct rfl _ _ g4 24 #[.int .i64 0, .int .i64 0, .slice none 0 0] (0, 0) _ rfl q3 hu24 rfl (by kernel_rfl)) rfl ⟨rfl, bb⟩
set_option maxHeartbeats 8000000 in
set_option maxRecDepth 100000 in
theorem add_ok (a b : Int) (A : Option Addr) (c : Nat) (l : List Int) (a' b' : Int) (A' : Option Addr) (c' : Nat) (l' : List Int) (w : World) (hr : Kd.C (Kd.int .i64) w A l.length l) (hc : l.length ≤ c) (hr' : Kd.C (Kd.int .i64) w A' l'.length l') (hc' : l'.length ≤ c') (hv : valB a b l = true) (hv' : valB a' b' l' = true) (lo hi : Int) (hlo : mx a a' = lo) (hhi : mn (a + (l.length : Int)) (a' + (l'.length : Int)) = hi) (hle : lo ≤ hi) (r1 r2 : Int) (r3 : List Int) (r4 : Int) (he : madeR lo (cval a b l lo + cval a' b' l' lo) (addL (partL a l lo hi) (partL a' l' lo hi)) = (r1, r2, r3, r4)) :
    Calls Try.prog 38 #[.agg #[.int .i64 a, .int .i64 b, .slice A l.length c], .agg #[.int .i64 a', .int .i64 b', .slice A' l'.length c']] w (AddPost w r1 r2 r3 r4) := by
  have hu24 := Try.underlying24
  have HV := Aside0.mk (fun (w1 : World) (hw : Below w.heap.size w w1) => curve_Valid.calls a b A c l _ w1 (Kd.C_below hr hw) hc rfl)
  have HV' := Aside0.mk (fun (w1 : World) (hw : Below w.heap.size w w1) => curve_Valid.calls a' b' A' c' l' _ w1 (Kd.C_below hr' hw) hc' rfl)
  have HB := Aside0.mk (Below.refl w.heap.size w)
  rw [hv] at HV
  rw [hv'] at HV'
  obtain ⟨p1, p2, p3, p4, p5⟩ := val_from hv
  obtain ⟨q1, q2, q3, q4, q5⟩ := val_from hv'
  have HT := Aside0.mk (fun (w1 : World) (hw : Below w.heap.size w w1) => curve_to.calls a b A c l (a + (l.length : Int)) w1 (Kd.C_below hr hw) hc (by unfold curve_to.f; rw [w64 (by omega) (by omega)]))
  have HT' := Aside0.mk (fun (w1 : World) (hw : Below w.heap.size w w1) => curve_to.calls a' b' A' c' l' (a' + (l'.length : Int)) w1 (Kd.C_below hr' hw) hc' (by unfold curve_to.f; rw [w64 (by omega) (by omega)]))
  have hle' : decide (hi < lo) = false := decide_eq_false (by omega)
  have hmax : (if a < a' then a' else a) = lo := hlo
  have hmin : (if a' + (l'.length : Int) < a + (l.length : Int) then a' + (l'.length : Int) else a + (l.length : Int)) = hi := hhi
  have hd1 : a ≤ lo ∧ a' ≤ lo := by rw [← hlo]; unfold mx; split <;> omega
  have hd2 : hi ≤ a + (l.length : Int) ∧ hi ≤ a' + (l'.length : Int) := by rw [← hhi]; unfold mn; split <;> omega
  have HP := Aside0.mk (fun (w1 : World) (hw : Below w.heap.size w w1) => curve_part.calls a b A c l lo hi _ _ _ w1 (Kd.C_below hr hw) hc (part_some hv hd1.1 hle hd2.1))
  have HP' := Aside0.mk (fun (w1 : World) (hw : Below w.heap.size w w1) => curve_part.calls a' b' A' c' l' lo hi _ _ _ w1 (Kd.C_below hr' hw) hc' (part_some hv' hd1.2 hle hd2.2))
  have hx1 := cval_bound hv (lo - a).toNat
  have hx2 := cval_bound hv' (lo - a').toNat
  have hy1 : -1099578736640 ≤ cval a b l lo ∧ cval a b l lo ≤ 1099578736640 := ⟨hx1.1, hx1.2.1⟩
  have hy2 : -1099578736640 ≤ cval a' b' l' lo ∧ cval a' b' l' lo ≤ 1099578736640 := ⟨hx2.1, hx2.2.1⟩
  have hlen : (partL a l lo hi).length = (partL a' l' lo hi).length := by rw [partL_length hd1.1 hle hd2.1, partL_length hd1.2 hle hd2.2]
  have hmem : ∀ s ∈ partL a l lo hi, -1048576 ≤ s ∧ s ≤ 1048576 := fun s hs => (val_all hv).2 s (List.mem_of_mem_take (List.mem_of_mem_drop hs))
  have hmem' : ∀ s ∈ partL a' l' lo hi, -1048576 ≤ s ∧ s ≤ 1048576 := fun s hs => (val_all hv').2 s (List.mem_of_mem_take (List.mem_of_mem_drop hs))
  clear hx1 hx2
  generalize cval a b l lo = x1 at *
  generalize cval a' b' l' lo = x2 at *
  generalize partL a l lo hi = l1 at *
  generalize partL a' l' lo hi = l2 at *
  clear hr hc hr' hc' hv hv' hlo hhi hle
  have HMd := Aside0.mk (fun (P : Nat → Prop) (u : Value) (w0 w1 : World) h1 h2 => curve_made.calls lo (x1 + x2) P u (addL l1 l2) r1 r2 r3 r4 w0 w1 h1 h2 ((made_some lo (x1 + x2) (addL l1 l2)).trans (congrArg some he)))
  have HLEN := Aside0.mk hlen
  have HMEM := Aside0.mk (And.intro hmem hmem')
  obtain ⟨y11, y12⟩ := hy1
  obtain ⟨y21, y22⟩ := hy2
  clear he hlen hmem hmem'
  go_enter Try.func38, Try.ntmps38
  go_wp2_with (first | ((with_reducible refine gate_dst (N := 2) rfl ?_); refine box_event ?hg (N := 2) ?hd (cs := #[.int .i64 a, .int .i64 b, .slice A l.length c]) (t := 24) ?hr ?_; (case hd => rfl); (case hg => rfl); (case hr => first | (go_simp; done) | (go_simp; rfl)); intro g2 hg w2 hbox hb; have GE2 := Aside0.mk (Nat.le_trans HB.out.size (Nat.le_of_eq hg.symm)); have HB_ := Aside0.mk (below_then HB.out HB.out.size hb); clear HB; have HB := HB_; clear HB_; have BK2 := Aside0.mk hbox; have c20 := (blk_cell BK2.out 0); have f20 := blk_frozen BK2.out 0; have c21 := (blk_cell BK2.out 1); have f21 := blk_frozen BK2.out 1; have c22 := (blk_cell BK2.out 2); have f22 := blk_frozen BK2.out 2; clear hbox hb hg) | ((with_reducible refine gate_dst (N := 3) rfl ?_); refine box_event ?hg (N := 3) ?hd (cs := #[.int .i64 a', .int .i64 b', .slice A' l'.length c']) (t := 24) ?hr ?_; (case hd => rfl); (case hg => rfl); (case hr => first | (go_simp; done) | (go_simp; rfl)); intro g3 hg w3 hbox hb; have GE3 := Aside0.mk (Nat.le_trans HB.out.size (Nat.le_of_eq hg.symm)); have HB_ := Aside0.mk (below_then HB.out HB.out.size hb); clear HB; have HB := HB_; clear HB_; have nb_ := Aside0.mk (blk_below BK2.out hb); (try clear c20 c21 c22 f20 f21 f22); clear BK2; have BK2 := nb_; clear nb_; have c20 := (blk_cell BK2.out 0); have f20 := blk_frozen BK2.out 0; have c21 := (blk_cell BK2.out 1); have f21 := blk_frozen BK2.out 1; have c22 := (blk_cell BK2.out 2); have f22 := blk_frozen BK2.out 2; have BK3 := Aside0.mk hbox; have c30 := (blk_cell BK3.out 0); have f30 := blk_frozen BK3.out 0; have c31 := (blk_cell BK3.out 1); have f31 := blk_frozen BK3.out 1; have c32 := (blk_cell BK3.out 2); have f32 := blk_frozen BK3.out 2; clear hbox hb hg) | ((with_reducible refine gate_dst (N := 4) rfl ?_); refine box_event ?hg (N := 4) ?hd (cs := #[.int .i64 0, .int .i64 0, .slice none 0 0]) (t := 24) ?hr ?_; (case hd => rfl); (case hg => rfl); (case hr => first | (go_simp; done) | (go_simp; rfl)); intro g4 hg w4 hbox hb; have GE4 := Aside0.mk (Nat.le_trans HB.out.size (Nat.le_of_eq hg.symm)); have HB_ := Aside0.mk (below_then HB.out HB.out.size hb); clear HB; have HB := HB_; clear HB_; have nb_ := Aside0.mk (blk_below BK2.out hb); (try clear c20 c21 c22 f20 f21 f22); clear BK2; have BK2 := nb_; clear nb_; have c20 := (blk_cell BK2.out 0); have f20 := blk_frozen BK2.out 0; have c21 := (blk_cell BK2.out 1); have f21 := blk_frozen BK2.out 1; have c22 := (blk_cell BK2.out 2); have f22 := blk_frozen BK2.out 2; have nb_ := Aside0.mk (blk_below BK3.out hb); (try clear c30 c31 c32 f30 f31 f32); clear BK3; have BK3 := nb_; clear nb_; have c30 := (blk_cell BK3.out 0); have f30 := blk_frozen BK3.out 0; have c31 := (blk_cell BK3.out 1); have f31 := blk_frozen BK3.out 1; have c32 := (blk_cell BK3.out 2); have f32 := blk_frozen BK3.out 2; have BK4 := Aside0.mk hbox; have c40 := (blk_cell BK4.out 0); have f40 := blk_frozen BK4.out 0; have c41 := (blk_cell BK4.out 1); have f41 := blk_frozen BK4.out 1; have c42 := (blk_cell BK4.out 2); have f42 := blk_frozen BK4.out 2; clear hbox hb hg) | (go_at_call 16; (with_reducible refine (HV.out _ HB.out).mono ?_); rintro e w5 ⟨rfl, hb⟩; have HB_ := Aside0.mk (below_then HB.out HB.out.size hb); clear HB; have HB := HB_; clear HB_; have nb_ := Aside0.mk (blk_below BK2.out hb); (try clear c20 c21 c22 f20 f21 f22); clear BK2; have BK2 := nb_; clear nb_; have c20 := (blk_cell BK2.out 0); have f20 := blk_frozen BK2.out 0; have c21 := (blk_cell BK2.out 1); have f21 := blk_frozen BK2.out 1; have c22 := (blk_cell BK2.out 2); have f22 := blk_frozen BK2.out 2; have nb_ := Aside0.mk (blk_below BK3.out hb); (try clear c30 c31 c32 f30 f31 f32); clear BK3; have BK3 := nb_; clear nb_; have c30 := (blk_cell BK3.out 0); have f30 := blk_frozen BK3.out 0; have c31 := (blk_cell BK3.out 1); have f31 := blk_frozen BK3.out 1; have c32 := (blk_cell BK3.out 2); have f32 := blk_frozen BK3.out 2; have nb_ := Aside0.mk (blk_below BK4.out hb); (try clear c40 c41 c42 f40 f41 f42); clear BK4; have BK4 := nb_; clear nb_; have c40 := (blk_cell BK4.out 0); have f40 := blk_frozen BK4.out 0; have c41 := (blk_cell BK4.out 1); have f41 := blk_frozen BK4.out 1; have c42 := (blk_cell BK4.out 2); have f42 := blk_frozen BK4.out 2; clear hb) | (go_at_call 16; (with_reducible refine (HV'.out _ HB.out).mono ?_); rintro e w5 ⟨rfl, hb⟩; have HB_ := Aside0.mk (below_then HB.out HB.out.size hb); clear HB; have HB := HB_; clear HB_; have nb_ := Aside0.mk (blk_below BK2.out hb); (try clear c20 c21 c22 f20 f21 f22); clear BK2; have BK2 := nb_; clear nb_; have c20 := (blk_cell BK2.out 0); have f20 := blk_frozen BK2.out 0; have c21 := (blk_cell BK2.out 1); have f21 := blk_frozen BK2.out 1; have c22 := (blk_cell BK2.out 2); have f22 := blk_frozen BK2.out 2; have nb_ := Aside0.mk (blk_below BK3.out hb); (try clear c30 c31 c32 f30 f31 f32); clear BK3; have BK3 := nb_; clear nb_; have c30 := (blk_cell BK3.out 0); have f30 := blk_frozen BK3.out 0; have c31 := (blk_cell BK3.out 1); have f31 := blk_frozen BK3.out 1; have c32 := (blk_cell BK3.out 2); have f32 := blk_frozen BK3.out 2; have nb_ := Aside0.mk (blk_below BK4.out hb); (try clear c40 c41 c42 f40 f41 f42); clear BK4; have BK4 := nb_; clear nb_; have c40 := (blk_cell BK4.out 0); have f40 := blk_frozen BK4.out 0; have c41 := (blk_cell BK4.out 1); have f41 := blk_frozen BK4.out 1; have c42 := (blk_cell BK4.out 2); have f42 := blk_frozen BK4.out 2; clear hb))
  go_cut [6, 7] (fun v6 v7 wc => v6 = .int .i64 lo ∧ v7 = .int .i64 hi ∧ Aside0 (wc.heap[g2]? = some (.cells #[.int .i64 a, .int .i64 b, .slice A l.length c] 24 (0, 0))) ∧ Aside0 (wc.heap[g3]? = some (.cells #[.int .i64 a', .int .i64 b', .slice A' l'.length c'] 24 (0, 0))) ∧ Aside0 (wc.heap[g4]? = some (.cells #[.int .i64 0, .int .i64 0, .slice none 0 0] 24 (0, 0))) ∧ Aside0 (Below w.heap.size w wc))
  case first =>
    have hbd := below_drew (Below.refl w5.heap.size w5)
    have HB_ := Aside0.mk (below_then HB.out HB.out.size hbd)
    clear HB
    have HB := HB_
    clear HB_
    have nb_ := Aside0.mk (blk_below BK2.out hbd)
    (try clear c20 c21 c22 f20 f21 f22)
    clear BK2
    have BK2 := nb_
    clear nb_
    have c20 := (blk_cell BK2.out 0)
    have f20 := blk_frozen BK2.out 0
    have c21 := (blk_cell BK2.out 1)
    have f21 := blk_frozen BK2.out 1
    have c22 := (blk_cell BK2.out 2)
    have f22 := blk_frozen BK2.out 2
    have nb_ := Aside0.mk (blk_below BK3.out hbd)
    (try clear c30 c31 c32 f30 f31 f32)
    clear BK3
    have BK3 := nb_
    clear nb_
    have c30 := (blk_cell BK3.out 0)
    have f30 := blk_frozen BK3.out 0
    have c31 := (blk_cell BK3.out 1)
    have f31 := blk_frozen BK3.out 1
    have c32 := (blk_cell BK3.out 2)
    have f32 := blk_frozen BK3.out 2
    have nb_ := Aside0.mk (blk_below BK4.out hbd)
    (try clear c40 c41 c42 f40 f41 f42)
    clear BK4
    have BK4 := nb_
    clear nb_
    have c40 := (blk_cell BK4.out 0)
    have f40 := blk_frozen BK4.out 0
    have c41 := (blk_cell BK4.out 1)
    have f41 := blk_frozen BK4.out 1
    have c42 := (blk_cell BK4.out 2)
    have f42 := blk_frozen BK4.out 2
    clear hbd
    go_region_held3 (fun W => W.cell? ⟨g2, 0, none⟩ = some (.int .i64 a) ∧ W.cell? ⟨g2, 1, none⟩ = some (.int .i64 b) ∧ W.cell? ⟨g2, 2, none⟩ = some (.slice A l.length c) ∧ W.cell? ⟨g3, 0, none⟩ = some (.int .i64 a') ∧ W.cell? ⟨g3, 1, none⟩ = some (.int .i64 b') ∧ W.cell? ⟨g3, 2, none⟩ = some (.slice A' l'.length c')) (exact ⟨(blk_cell BK2.out 0).trans rfl, (blk_cell BK2.out 1).trans rfl, (blk_cell BK2.out 2).trans rfl, (blk_cell BK3.out 0).trans rfl, (blk_cell BK3.out 1).trans rfl, (blk_cell BK3.out 2).trans rfl⟩) (first | (go_at_call 58; (with_reducible refine (HT.out _ HB.out).mono ?_); rintro e w6 ⟨rfl, hb⟩; have HB_ := Aside0.mk (below_then HB.out HB.out.size hb); clear HB; have HB := HB_; clear HB_; have nb_ := Aside0.mk (blk_below BK2.out hb); (try clear c20 c21 c22 f20 f21 f22); clear BK2; have BK2 := nb_; clear nb_; have c20 := (blk_cell BK2.out 0); have f20 := blk_frozen BK2.out 0; have c21 := (blk_cell BK2.out 1); have f21 := blk_frozen BK2.out 1; have c22 := (blk_cell BK2.out 2); have f22 := blk_frozen BK2.out 2; have nb_ := Aside0.mk (blk_below BK3.out hb); (try clear c30 c31 c32 f30 f31 f32); clear BK3; have BK3 := nb_; clear nb_; have c30 := (blk_cell BK3.out 0); have f30 := blk_frozen BK3.out 0; have c31 := (blk_cell BK3.out 1); have f31 := blk_frozen BK3.out 1; have c32 := (blk_cell BK3.out 2); have f32 := blk_frozen BK3.out 2; have nb_ := Aside0.mk (blk_below BK4.out hb); (try clear c40 c41 c42 f40 f41 f42); clear BK4; have BK4 := nb_; clear nb_; have c40 := (blk_cell BK4.out 0); have f40 := blk_frozen BK4.out 0; have c41 := (blk_cell BK4.out 1); have f41 := blk_frozen BK4.out 1; have c42 := (blk_cell BK4.out 2); have f42 := blk_frozen BK4.out 2; clear hb) | (go_at_call 58; (with_reducible refine (HT'.out _ HB.out).mono ?_); rintro e w7 ⟨rfl, hb⟩; have HB_ := Aside0.mk (below_then HB.out HB.out.size hb); clear HB; have HB := HB_; clear HB_; have nb_ := Aside0.mk (blk_below BK2.out hb); (try clear c20 c21 c22 f20 f21 f22); clear BK2; have BK2 := nb_; clear nb_; have c20 := (blk_cell BK2.out 0); have f20 := blk_frozen BK2.out 0; have c21 := (blk_cell BK2.out 1); have f21 := blk_frozen BK2.out 1; have c22 := (blk_cell BK2.out 2); have f22 := blk_frozen BK2.out 2; have nb_ := Aside0.mk (blk_below BK3.out hb); (try clear c30 c31 c32 f30 f31 f32); clear BK3; have BK3 := nb_; clear nb_; have c30 := (blk_cell BK3.out 0); have f30 := blk_frozen BK3.out 0; have c31 := (blk_cell BK3.out 1); have f31 := blk_frozen BK3.out 1; have c32 := (blk_cell BK3.out 2); have f32 := blk_frozen BK3.out 2; have nb_ := Aside0.mk (blk_below BK4.out hb); (try clear c40 c41 c42 f40 f41 f42); clear BK4; have BK4 := nb_; clear nb_; have c40 := (blk_cell BK4.out 0); have f40 := blk_frozen BK4.out 0; have c41 := (blk_cell BK4.out 1); have f41 := blk_frozen BK4.out 1; have c42 := (blk_cell BK4.out 2); have f42 := blk_frozen BK4.out 2; clear hb))
    all_goals go_wp2
    all_goals go_meet
    all_goals exact ⟨rfl, rfl, BK2, BK3, BK4, HB⟩
  case rest =>
  clear BK2 BK3 BK4 HB
  (try clear c20 c21 c22 f20 f21 f22); (try clear c30 c31 c32 f30 f31 f32); (try clear c40 c41 c42 f40 f41 f42); skip
  obtain ⟨rfl, rfl, BK2, BK3, BK4, HB⟩ := hcut
  have KP := Aside0.mk (fun (W : World) (hb : Below wc.heap.size wc W) => And.intro ((blk_cell (blk_below BK2.out hb) 0).trans rfl) (And.intro ((blk_cell (blk_below BK2.out hb) 1).trans rfl) (And.intro ((blk_cell (blk_below BK2.out hb) 2).trans rfl) (And.intro ((blk_cell (blk_below BK3.out hb) 0).trans rfl) (And.intro ((blk_cell (blk_below BK3.out hb) 1).trans rfl) ((blk_cell (blk_below BK3.out hb) 2).trans rfl))))))
  have c20 := (blk_cell BK2.out 0)
  have f20 := blk_frozen BK2.out 0
  have c21 := (blk_cell BK2.out 1)
  have f21 := blk_frozen BK2.out 1
  have c22 := (blk_cell BK2.out 2)
  have f22 := blk_frozen BK2.out 2
  have c30 := (blk_cell BK3.out 0)
  have f30 := blk_frozen BK3.out 0
  have c31 := (blk_cell BK3.out 1)
  have f31 := blk_frozen BK3.out 1
  have c32 := (blk_cell BK3.out 2)
  have f32 := blk_frozen BK3.out 2
  have c40 := (blk_cell BK4.out 0)
  have f40 := blk_frozen BK4.out 0
  have c41 := (blk_cell BK4.out 1)
  have f41 := blk_frozen BK4.out 1
  have c42 := (blk_cell BK4.out 2)
  have f42 := blk_frozen BK4.out 2
  go_wp2
  clear hmax hmin BK2 BK3
  (try clear c20 c21 c22 f20 f21 f22); (try clear c30 c31 c32 f30 f31 f32); (try clear c40 c41 c42 f40 f41 f42); skip
  obtain ⟨wz, rfl⟩ : ∃ w0 : World, w0 = wc := ⟨_, rfl⟩
  have HM := Aside0.mk (Mid.first HB.out l1 l2)
  go_cut [8, 9] (fun v8 v9 wd => PairAt w wz lo x1 x2 l1 l2 v8 v9 wd)
  case first =>
    go_region_held3 (fun W => W.cell? ⟨g2, 0, none⟩ = some (.int .i64 a) ∧ W.cell? ⟨g2, 1, none⟩ = some (.int .i64 b) ∧ W.cell? ⟨g2, 2, none⟩ = some (.slice A l.length c) ∧ W.cell? ⟨g3, 0, none⟩ = some (.int .i64 a') ∧ W.cell? ⟨g3, 1, none⟩ = some (.int .i64 b') ∧ W.cell? ⟨g3, 2, none⟩ = some (.slice A' l'.length c')) ((refine KP.out _ ?_; with_reducible (repeat (first | exact HM.out.below | exact Below.refl _ _ | refine below_alloc ?_ _ | refine below_set ?_ (by first | exact Nat.le_refl _ | exact hQ7 | exact hQ7.1 | exact hQ7.2 | exact hQ7.2.1 | exact hQ7.2.2) | refine below_drew ?_)))) (first | (go_at_call 76; (with_reducible refine (HP.out _ ?_).mono ?_); (with_reducible (first | exact HM.out.drew.all | exact HM.out.alloc.drew.all | exact HM.out.alloc.alloc.drew.all)); rintro e w6 ⟨v1, rfl, hR, hb⟩; (with_reducible (first | have HN := Aside0.mk (HM.out.drew.call1 hb hR) | have HN := Aside0.mk (HM.out.alloc.drew.call1 hb hR) | have HN := Aside0.mk (HM.out.alloc.alloc.drew.call1 hb hR))); clear HM; have HM := HN; clear HN; obtain ⟨A1, c1, rfl⟩ := Kd.R_slice hR; have hL6 := HM.out.cells; (try simp only [List.forall_mem_cons, List.not_mem_nil, false_implies, implies_true, and_true, sizeA, sizeD] at hL6); have hQ6 := HM.out.ge; (try simp only [List.forall_mem_cons, List.not_mem_nil, false_implies, implies_true, and_true, sizeA, sizeD] at hQ6); clear hR hb) | (go_at_call 76; (with_reducible refine (HP'.out _ ?_).mono ?_); (with_reducible (first | exact HM.out.all | exact HM.out.alloc.all | exact HM.out.alloc.alloc.all)); rintro e w7 ⟨v2, rfl, hR, hb⟩; (with_reducible (first | have HN := Aside0.mk (HM.out.call2 hb hR) | have HN := Aside0.mk (HM.out.alloc.call2 hb hR) | have HN := Aside0.mk (HM.out.alloc.alloc.call2 hb hR))); clear HM; have HM := HN; clear HN; obtain ⟨A2, c2, rfl⟩ := Kd.R_slice hR; have hL7 := HM.out.cells; (try simp only [List.forall_mem_cons, List.not_mem_nil, false_implies, implies_true, and_true, sizeA, sizeD] at hL7); have hQ7 := HM.out.ge; (try simp only [List.forall_mem_cons, List.not_mem_nil, false_implies, implies_true, and_true, sizeA, sizeD] at hQ7); (try simp only [sizeA, sizeD] at HM); clear hR hb))
    all_goals go_wp2
    all_goals go_meet
    all_goals (with_reducible refine PairAt.mk ?_ (A1 := A1) (c1 := c1) (A2 := A2) (c2 := c2))
    all_goals (with_reducible first | exact HM.out.finA | exact HM.out.finB | exact HM.out.finC | exact HM.out.finD | exact HM.out.finE1 | exact HM.out.finE2)
  case rest =>
  obtain ⟨g8, g9, A1, c1, A2, c2, rfl, rfl, HPr⟩ := hcut
  obtain ⟨_, _, hC1⟩ := Kd.R_reads' HPr.out.r1
  obtain ⟨_, _, hC2⟩ := Kd.R_reads' HPr.out.r2
  have hm1 : l1.length ≤ 9223372036854775807 := hC1.2.1
  have hm2 : l2.length ≤ 9223372036854775807 := hC2.2.1
  clear hC1 hC2
  have BK8 := Aside0.mk HPr.out.b8
  have BK9 := Aside0.mk HPr.out.b9
  have HBz := HB
  clear HM KP HB
  have c80 := (blk_cell BK8.out 0)
  have f80 := blk_frozen BK8.out 0
  have c81 := (blk_cell BK8.out 1)
  have f81 := blk_frozen BK8.out 1
  have c82 := (blk_cell BK8.out 2)
  have f82 := blk_frozen BK8.out 2
  have c90 := (blk_cell BK9.out 0)
  have f90 := blk_frozen BK9.out 0
  have c91 := (blk_cell BK9.out 1)
  have f91 := blk_frozen BK9.out 1
  have c92 := (blk_cell BK9.out 2)
  have f92 := blk_frozen BK9.out 2
  go_wp2
  have HA0 := Aside0.mk (AddAt.start HPr.out (x1 + x2))
  (try clear c80 c81 c82 f80 f81 f82)
  (try clear c90 c91 c92 f90 f91 f92)
  clear BK8 BK9
  have HB := HBz
  clear HBz HPr
  go_loopw [52] (fun i wr => AddRel wz g8 g9 lo (x1 + x2) x2 A1 c1 A2 c2 l1 l2 i wr) (fun i _ => l2.length - (intOf i).toNat)
  case atStart => exact ⟨0, Nat.zero_le _, rfl, HA0⟩
  case round =>
    clear HA0
    obtain ⟨k, hk, rfl, HS⟩ := hrel
    by_cases hlt : k < l2.length
    · have hlt1 : k < l1.length := by have := HLEN.out; omega
      obtain ⟨h1, rfl, _, _⟩ := R_head HS.out.r1 (by rw [addK_length l1 l2 HLEN.out k (by omega)]; omega)
      obtain ⟨h2, rfl, _, _⟩ := R_head HS.out.r2 (by omega)
      obtain ⟨hc1, hf1⟩ := Kd.R_celln 0 HS.out.r1 (k : Int) (by omega) (by omega)
      obtain ⟨hc2, _⟩ := Kd.R_celln 0 HS.out.r2 (k : Int) (by omega) (by omega)
      have e1 : rdOf (0 : Int) (addK l1 l2 k) (k : Int) = l1[k] := (by unfold rdOf; rw [Int.toNat_natCast]; exact addK_at l1 l2 HLEN.out k hlt1)
      have e2 : rdOf (0 : Int) l2 (k : Int) = l2[k] := (by unfold rdOf; rw [Int.toNat_natCast, List.getD_eq_getElem?_getD]; simp [hlt])
      rw [e1, Int.toNat_natCast] at hc1
      rw [e2, Int.toNat_natCast] at hc2
      rw [Int.toNat_natCast] at hf1
      have hb1 := HMEM.out.1 _ (List.getElem_mem hlt1)
      have hb2 := HMEM.out.2 _ (List.getElem_mem hlt)
      obtain ⟨b1, b2⟩ := hb1
      obtain ⟨b3, b4⟩ := hb2
      have HST := Aside0.mk (HS.out.step HLEN.out hlt1)
      clear e1 e2
      generalize l1[k] = u at *
      generalize l2[k] = v at *
      have hd2 := (blk_cell HS.out.b8 2).trans rfl
      go_wp2
      go_roundw
      case rel => exact ⟨k + 1, by omega, congrArg (Value.int .i64) (by omega), HST⟩
      case measure => simp [intOf]; omega
    · obtain rfl : k = l2.length := by omega
      have hR := HS.out.r1
      rw [show l2.length = l1.length from HLEN.out.symm, addK_all l1 l2 HLEN.out] at hR
      have hlt2 : ¬ (l2.length < l2.length) := hlt
      have hd0 := (blk_cell HS.out.b8 0)
      have hd1 := (blk_cell HS.out.b8 1)
      have hd2 := (blk_cell HS.out.b8 2)
      have HBS := Aside0.mk HS.out.below
      have HRS := Aside0.mk hR
      clear hR HS hlt hlt2
      go_wp2_with (go_at_call 51; (with_reducible refine (HMd.out (fun _ => True) (.slice A1 l1.length c1) wz wr HBS.out HRS.out).mono ?_); rintro e w4 ⟨v2, rfl, hR4, hb4, _⟩; have HB5 := Aside0.mk hb4; have HR5 := Aside0.mk hR4; have BKz := Aside0.mk (blk_below BK4.out hb4); obtain ⟨A5, c5, rfl⟩ := Kd.R_slice hR4; clear hR4 hb4; have hy0 := (blk_cell BKz.out 0); have hy1 := (blk_cell BKz.out 1); have hy2 := (blk_cell BKz.out 2); have hx0 := blk_frozen BKz.out 0; have hx1 := blk_frozen BKz.out 1; have hx2 := blk_frozen BKz.out 2)
      have q1 := blk_put BKz.out 0 (.int .i64 r1) rfl
      have q2 := blk_put q1 1 (.int .i64 r2) rfl
      have q3 := blk_put q2 2 (.slice A5 r3.length c5) rfl
      have rr := Kd.R_set (Kd.R_set (Kd.R_set HR5.out BKz.out (by decide) 0 (.int .i64 r1)) q1 (by decide) 1 (.int .i64 r2)) q2 (by decide) 2 (.slice A5 r3.length c5)
      have bb := below_set (j := 2) (v := .slice A5 r3.length c5) (below_set (j := 1) (v := .int .i64 r2) (below_set (j := 0) (v := .int .i64 r1) (below_then HB.out HB.out.size HB5.out) GE4.out) GE4.out) GE4.out
      exact bodyPost_ret (results_ct rfl _ _ g4 24 #[.int .i64 r1, .int .i64 r2, .slice A5 r3.length c5] (0, 0) _ rfl q3 hu24 rfl (by kernel_rfl)) rfl ⟨_, rfl, Kd.R_mono (Kd.R_lower rr HB.out.size) (fun _ _ => trivial), bb⟩
theorem curve_Add.calls (a0_0 : Int) (a0_1 : Int) (A0_2 : Option Addr) (c0_2 : Nat) (l0_2 : List Int) (a1_0 : Int) (a1_1 : Int) (A1_2 : Option Addr) (c1_2 : Nat) (l1_2 : List Int) (r1 : Int) (r2 : Int) (r3 : List Int) (r4 : Int) (w : World) (hr0_2 : Kd.C (Kd.int .i64) w A0_2 l0_2.length l0_2) (hc0_2 : l0_2.length ≤ c0_2) (hr1_2 : Kd.C (Kd.int .i64) w A1_2 l1_2.length l1_2) (hc1_2 : l1_2.length ≤ c1_2) (h : curve_Add.f a0_0 a0_1 l0_2 a1_0 a1_1 l1_2 = some (r1, r2, r3, r4)) :
    Calls Try.prog 38 #[.agg #[.int .i64 a0_0, .int .i64 a0_1, .slice A0_2 l0_2.length c0_2], .agg #[.int .i64 a1_0, .int .i64 a1_1, .slice A1_2 l1_2.length c1_2]] w fun e w' => ∃ v2_ : Value, e = .returned (.tuple #[.agg #[.int .i64 r1, .int .i64 r2, v2_], .int .i64 r4]) ∧ Kd.R (Kd.int .i64) 3 w' w.heap.size (fun _ => True) v2_ r3 ∧ Below w.heap.size w w' := by
  have h := Option.some.inj h
  unfold addR at h
  have err : ∀ q : Int, ((0, 0, [], q) : Int × Int × List Int × Int) = (r1, r2, r3, r4) → ∀ e w', StrErr w q e w' → ∃ v2_ : Value, e = .returned (.tuple #[.agg #[.int .i64 r1, .int .i64 r2, v2_], .int .i64 r4]) ∧ Kd.R (Kd.int .i64) 3 w' w.heap.size (fun _ => True) v2_ r3 ∧ Below w.heap.size w w' := by
    intro q hq e w' ⟨he, hb⟩
    simp only [Prod.mk.injEq] at hq
    obtain ⟨rfl, rfl, rfl, rfl⟩ := hq
    exact ⟨_, he, Kd.R_nil _ _ _ _ _, hb⟩
  by_cases h1 : valB a0_0 a0_1 l0_2 = true
  · rw [if_pos h1] at h
    by_cases h2 : valB a1_0 a1_1 l1_2 = true
    · rw [if_pos h2] at h
      by_cases h3 : mn (a0_0 + (l0_2.length : Int)) (a1_0 + (l1_2.length : Int)) < mx a0_0 a1_0
      · rw [if_pos h3] at h
        exact (add_apart _ _ _ _ _ _ _ _ _ _ w hr0_2 hc0_2 hr1_2 hc1_2 h1 h2 _ _ rfl rfl h3).mono (err 6 h)
      · rw [if_neg h3] at h
        exact add_ok _ _ _ _ _ _ _ _ _ _ w hr0_2 hc0_2 hr1_2 hc1_2 h1 h2 _ _ rfl rfl (by omega) r1 r2 r3 r4 h
    · rw [if_neg h2] at h
      exact (add_invalid2 _ _ _ _ _ _ _ _ _ _ w hr0_2 hc0_2 hr1_2 hc1_2 h1 (Bool.eq_false_iff.2 h2)).mono (err 2 h)
  · rw [if_neg h1] at h
    exact (add_invalid1 _ _ _ _ _ _ _ _ _ _ w hr0_2 hc0_2 hr1_2 hc1_2 (Bool.eq_false_iff.2 h1)).mono (err 2 h)
end Go.Proofs.Ytfeeaipbmpmpgaa.PX

namespace Go.Proofs.Ytfeeaipbmpmpgaa.PX
open Go.RowKit Go.Proofs.YtfeeaipbmpmpgaaW.PrintWords Go.Proofs.YtfeeaipbmpmpgaaW.PrintLast Go.Proofs.YtfeeaipbmpmpgaaW.PrintMore
set_option linter.unusedVariables false
set_option linter.unusedSimpArgs false

theorem alive_join : joinR 0 0 [1, 3] 0 0 [2, 2] = (0, 0, [1, 2, 2, 3], 0) := by
  have hs : sortI ([1, 3] ++ [2, 2]) = [1, 2, 2, 3] := by simp [sortI, List.mergeSort, List.MergeSort.Internal.splitInTwo]
  unfold joinR madeR
  rw [hs]
  decide +kernel
theorem alive_split : splitR [⟨0, 0, [1, 3]⟩, ⟨0, 0, [2, 2]⟩] 3 = ([1, 2], 5, 2, 0) := by
  decide +kernel
theorem C_blk {w : World} {g : Nat} {e : Nat} {cs : Array Value} (xs : List Int) (h : w.heap[g]? = some (.cells cs e (0, 0))) (hc : cs = (xs.map (Value.int .i64)).toArray) (hm : xs.length ≤ 1000) : Kd.C (Kd.int .i64) w (some ⟨g, 0, none⟩) xs.length xs := by
  subst hc
  refine ⟨rfl, by omega, fun _ => ⟨_, rfl, fun j p hj => ⟨[.int .i64 p], rfl, rfl, fun i u hu => ?_⟩⟩⟩
  have hs : (Kd.int .i64).sz = 1 := rfl
  rw [hs, Nat.mul_one]
  cases i with
  | succ i => simp at hu
  | zero =>
    have hu' : Value.int .i64 p = u := by simpa using hu
    subst hu'
    rw [Nat.add_zero, add_plain, blk_cell h]
    simp [hj]
theorem alive_join_calls (g0 g1 : Nat) (W : World) (h0 : W.heap[g0]? = some (.cells #[.int .i64 1, .int .i64 3] 3 (0, 0))) (h1 : W.heap[g1]? = some (.cells #[.int .i64 2, .int .i64 2] 3 (0, 0))) :
    Calls Try.prog 14 #[.agg #[.int .i64 0, .int .i64 0, .slice (some ⟨g0, 0, none⟩) 2 2], .agg #[.int .i64 0, .int .i64 0, .slice (some ⟨g1, 0, none⟩) 2 2]] W fun e w' => ∃ v, e = .returned (.tuple #[.agg #[.int .i64 0, .int .i64 0, v], .int .i64 0]) ∧ Kd.R (Kd.int .i64) 3 w' W.heap.size (fun _ => True) v [1, 2, 2, 3] ∧ Below W.heap.size W w' :=
  curve_Join.calls 0 0 _ 2 [1, 3] 0 0 _ 2 [2, 2] _ _ _ _ W (C_blk [1, 3] h0 rfl (by decide)) (by decide) (C_blk [2, 2] h1 rfl (by decide)) (by decide) (congrArg some alive_join)
theorem C_curves {W : World} {g g0 g1 : Nat} (hb : W.heap[g]? = some (.cells #[.int .i64 0, .int .i64 0, .slice (some ⟨g0, 0, none⟩) 2 2, .int .i64 0, .int .i64 0, .slice (some ⟨g1, 0, none⟩) 2 2] 24 (0, 0)))
    (h0 : W.heap[g0]? = some (.cells #[.int .i64 1, .int .i64 3] 3 (0, 0))) (h1 : W.heap[g1]? = some (.cells #[.int .i64 2, .int .i64 2] 3 (0, 0))) :
    Kd.C k24 W (some ⟨g, 0, none⟩) 2 [⟨0, 0, [1, 3]⟩, ⟨0, 0, [2, 2]⟩] := by
  have hsz : k24.sz = 3 := rfl
  refine ⟨rfl, by omega, fun _ => ⟨_, rfl, fun j p hj => ?_⟩⟩
  match j with
  | 0 =>
    have : p = ⟨0, 0, [1, 3]⟩ := by simpa using hj.symm
    subst this
    refine ⟨_, rfl, k24_mk W ⟨0, 0, [1, 3]⟩ (c2 := 2) (by decide) (C_blk [1, 3] h0 rfl (by decide)), fun i u hu => ?_⟩
    rw [add_plain, blk_cell hb, hsz, Nat.zero_mul, Nat.zero_add]
    match i with
    | 0 => simpa using hu
    | 1 => simpa using hu
    | 2 => simpa using hu
    | i + 3 => simp at hu
  | 1 =>
    have : p = ⟨0, 0, [2, 2]⟩ := by simpa using hj.symm
    subst this
    refine ⟨_, rfl, k24_mk W ⟨0, 0, [2, 2]⟩ (c2 := 2) (by decide) (C_blk [2, 2] h1 rfl (by decide)), fun i u hu => ?_⟩
    rw [add_plain, blk_cell hb, hsz, Nat.one_mul]
    match i with
    | 0 => simpa using hu
    | 1 => simpa using hu
    | 2 => simpa using hu
    | i + 3 => simp at hu
  | j + 2 => simp at hj
theorem alive_split_calls (g g0 g1 : Nat) (W : World) (hb : W.heap[g]? = some (.cells #[.int .i64 0, .int .i64 0, .slice (some ⟨g0, 0, none⟩) 2 2, .int .i64 0, .int .i64 0, .slice (some ⟨g1, 0, none⟩) 2 2] 24 (0, 0)))
    (h0 : W.heap[g0]? = some (.cells #[.int .i64 1, .int .i64 3] 3 (0, 0))) (h1 : W.heap[g1]? = some (.cells #[.int .i64 2, .int .i64 2] 3 (0, 0))) :
    Calls Try.prog 19 #[.slice (some ⟨g, 0, none⟩) 2 2, .int .i64 3] W fun e w' => ∃ v, e = .returned (.tuple #[v, .int .i64 5, .int .i64 2, .int .i64 0]) ∧ Kd.R (Kd.int .i64) 3 w' W.heap.size (fun _ => True) v [1, 2] ∧ Below W.heap.size W w' :=
  curve_Split.calls _ 2 [⟨0, 0, [1, 3]⟩, ⟨0, 0, [2, 2]⟩] 3 _ _ _ _ W (C_curves hb h0 h1) (by decide) (congrArg some alive_split)
def aliveW (w : World) : World :=
  (((w.alloc (.cells #[.int .i64 1, .int .i64 3] 3)).alloc (.cells #[.int .i64 2, .int .i64 2] 3)).alloc (.cells #[.int .i64 0, .int .i64 0, .slice (some ⟨w.heap.size, 0, none⟩) 2 2] 24)).alloc (.cells #[.int .i64 0, .int .i64 0, .slice (some ⟨w.heap.size + 1, 0, none⟩) 2 2] 24)
theorem size1 (w : World) (o : Obj) : (w.alloc o).heap.size = w.heap.size + 1 := by simp
theorem aliveW_facts (w : World) : (aliveW w).heap[w.heap.size]? = some (.cells #[.int .i64 1, .int .i64 3] 3 (0, 0)) ∧ (aliveW w).heap[w.heap.size + 1]? = some (.cells #[.int .i64 2, .int .i64 2] 3 (0, 0)) ∧
    (aliveW w).heap[w.heap.size + 1 + 1]? = some (.cells #[.int .i64 0, .int .i64 0, .slice (some ⟨w.heap.size, 0, none⟩) 2 2] 24 (0, 0)) ∧ (aliveW w).heap[w.heap.size + 1 + 1 + 1]? = some (.cells #[.int .i64 0, .int .i64 0, .slice (some ⟨w.heap.size + 1, 0, none⟩) 2 2] 24 (0, 0)) ∧ Below w.heap.size w (aliveW w) := by
  refine ⟨blk_alloc (blk_alloc (blk_alloc (blk_new _ _) _) _) _, ?_, ?_, ?_, below_alloc (below_alloc (below_alloc (below_alloc (Below.refl _ _) _) _) _) _⟩
  · rw [← size1 w (.cells #[.int .i64 1, .int .i64 3] 3)]
    exact blk_alloc (blk_alloc (blk_new _ _) _) _
  · rw [← size1 w (.cells #[.int .i64 1, .int .i64 3] 3), ← size1 (w.alloc (.cells #[.int .i64 1, .int .i64 3] 3)) (.cells #[.int .i64 2, .int .i64 2] 3)]
    exact blk_alloc (blk_new _ _) _
  · have h := blk_new (((w.alloc (.cells #[.int .i64 1, .int .i64 3] 3)).alloc (.cells #[.int .i64 2, .int .i64 2] 3)).alloc (.cells #[.int .i64 0, .int .i64 0, .slice (some ⟨w.heap.size, 0, none⟩) 2 2] 24)) (.cells #[.int .i64 0, .int .i64 0, .slice (some ⟨w.heap.size + 1, 0, none⟩) 2 2] 24)
    rw [size1, size1, size1] at h
    exact h
theorem same_lit {w : World} (A : Option Addr) (c : Nat) (l : List Int) (n : Nat) (hn : n = l.length) (cs : Array Value) (hcs : cs = (l.map (Value.int .i64)).toArray) (hc : l.length ≤ c) (hr : Kd.C (Kd.int .i64) w A l.length l) (hm : l.length ≤ 1000 := by decide) (hs : kimberlitelaw03_same.f 1000 l l = some true := by decide +kernel) :
    Calls Try.prog 24 #[.slice A n c, .slice (some ⟨w.heap.size, 0, none⟩) n n] (w.alloc (.cells cs 3)) fun e w' => e = .returned (.bool true) ∧ Below w.heap.size w w' := by
  subst hn
  refine (kimberlitelaw03_same.calls 1000 A c l _ l.length l true _ (Kd.C_alloc hr _) hc (C_blk l (blk_new _ _) hcs hm) (Nat.le_refl _) hs).mono ?_
  rintro e w' ⟨rfl, hd⟩
  exact ⟨rfl, below_then (below_alloc (Below.refl _ _) _) (by simp) hd.below⟩
def aliveV (w1 : World) (Av : Option Addr) (cv : Nat) (g0 g1 : Nat) : World :=
  (w1.alloc (.cells #[.int .i64 0, .int .i64 0, .slice Av 4 cv] 24)).alloc (.cells #[.int .i64 0, .int .i64 0, .slice (some ⟨g0, 0, none⟩) 2 2, .int .i64 0, .int .i64 0, .slice (some ⟨g1, 0, none⟩) 2 2] 24)
theorem aliveV_facts (w1 : World) (Av : Option Addr) (cv : Nat) (g0 g1 : Nat) : (aliveV w1 Av cv g0 g1).heap[w1.heap.size]? = some (.cells #[.int .i64 0, .int .i64 0, .slice Av 4 cv] 24 (0, 0)) ∧
    (aliveV w1 Av cv g0 g1).heap[w1.heap.size + 1]? = some (.cells #[.int .i64 0, .int .i64 0, .slice (some ⟨g0, 0, none⟩) 2 2, .int .i64 0, .int .i64 0, .slice (some ⟨g1, 0, none⟩) 2 2] 24 (0, 0)) ∧ Below w1.heap.size w1 (aliveV w1 Av cv g0 g1) := by
  refine ⟨blk_alloc (blk_new _ _) _, ?_, below_alloc (below_alloc (Below.refl _ _) _) _⟩
  rw [← size1 w1 (.cells #[.int .i64 0, .int .i64 0, .slice Av 4 cv] 24)]
  exact blk_new _ _
def kimberlitelaw03_alive.f : Option Bool := some true
set_option maxHeartbeats 8000000 in
set_option maxRecDepth 100000 in
theorem kimberlitelaw03_alive.calls (r : Bool) (w : World) (h : kimberlitelaw03_alive.f = some r) :
    Calls Try.prog 17 #[] w fun e w' => e = .returned (.bool r) ∧ Below w.heap.size w w' := by
  obtain rfl := Option.some.inj h
  clear h
  have hu24 := Try.underlying24
  obtain ⟨B0, B1, B2, B3, HBW⟩ := aliveW_facts w
  have A0 := Aside0.mk B0
  have A1 := Aside0.mk B1
  have A2 := Aside0.mk B2
  have A3 := Aside0.mk B3
  have AW := Aside0.mk HBW
  clear B0 B1 B2 B3 HBW
  go_enter Try.func17, Try.ntmps17
  go_wp2_with fail
  change Calls _ _ _ (aliveW w) _
  generalize aliveW w = W at A0 A1 A2 A3 AW ⊢
  generalize hg0 : w.heap.size = g0 at A0 A1 A2 A3 ⊢
  generalize hg1 : g0 + 1 = g1 at A0 A1 A2 A3 ⊢
  generalize hg2 : g1 + 1 = g2 at A0 A1 A2 A3 ⊢
  generalize hg3 : g2 + 1 = g3 at A0 A1 A2 A3 ⊢
  clear hg0 hg1 hg2 hg3
  refine (alive_join_calls g0 g1 W A0.out A1.out).mono ?_
  rintro e w1 ⟨v, rfl, hR, hB⟩
  obtain ⟨Av, cv, rfl, hcv, hCv⟩ := Kd.R_reads hR
  have HR := Aside0.mk hCv
  have HV := Aside0.mk hcv
  have HB := Aside0.mk hB
  have hc20 : w1.cell? ⟨g2, 0, none⟩ = some (.int .i64 0) := (blk_cell (blk_below A2.out hB) 0).trans rfl
  have hc21 : w1.cell? ⟨g2, 1, none⟩ = some (.int .i64 0) := (blk_cell (blk_below A2.out hB) 1).trans rfl
  have hc22 : w1.cell? ⟨g2, 2, none⟩ = some (.slice (some ⟨g0, 0, none⟩) 2 2) := (blk_cell (blk_below A2.out hB) 2).trans rfl
  have hc30 : w1.cell? ⟨g3, 0, none⟩ = some (.int .i64 0) := (blk_cell (blk_below A3.out hB) 0).trans rfl
  have hc31 : w1.cell? ⟨g3, 1, none⟩ = some (.int .i64 0) := (blk_cell (blk_below A3.out hB) 1).trans rfl
  have hc32 : w1.cell? ⟨g3, 2, none⟩ = some (.slice (some ⟨g1, 0, none⟩) 2 2) := (blk_cell (blk_below A3.out hB) 2).trans rfl
  have hl2 : g2 < w1.heap.size := blk_lt (blk_below A2.out hB)
  have hl3 : g3 < w1.heap.size := blk_lt (blk_below A3.out hB)
  clear hR hB hcv hCv
  go_wp2_with fail
  change Calls _ _ _ (aliveV w1 Av cv g0 g1) _
  obtain ⟨D0, D1, D2⟩ := aliveV_facts w1 Av cv g0 g1
  have E0 := blk_below (blk_below A0.out HB.out) D2
  have E1 := blk_below (blk_below A1.out HB.out) D2
  have HRv := Aside0.mk (Kd.C_below HR.out D2)
  have HB2 := Aside0.mk (below_then AW.out AW.out.size (below_then HB.out HB.out.size D2))
  generalize aliveV w1 Av cv g0 g1 = V at D0 D1 E0 E1 HRv HB2 ⊢
  generalize w1.heap.size = n0 at D0 D1 E0 E1 ⊢
  clear hc20 hc21 hc22 hc30 hc31 hc32 hl2 hl3 D2
  refine (alive_split_calls (n0 + 1) g0 g1 V D1 E0 E1).mono ?_
  rintro e w2 ⟨v2, rfl, hR2, hB3⟩
  obtain ⟨Au, cu, rfl, hcu, hCu⟩ := Kd.R_reads hR2
  have HU := Aside0.mk hCu
  have HUc := Aside0.mk hcu
  have hn0 : w2.cell? ⟨n0, 2, none⟩ = some (.slice Av 4 cv) := (blk_cell (blk_below D0 hB3) 2).trans rfl
  have HV2 := Aside0.mk (Kd.C_below HRv.out hB3)
  have HB4 := Aside0.mk (below_then HB2.out HB2.out.size hB3)
  clear D0 D1 E0 E1 hR2 hB3 hCu hcu
  go_wp2_with fail
  refine (same_lit (w := w2) Av cv [1, 2, 2, 3] 4 rfl _ rfl HV.out HV2.out).mono ?_
  rintro e w3 ⟨rfl, hb5⟩
  have HB5 := Aside0.mk (below_then HB4.out HB4.out.size hb5)
  have HU2 := Aside0.mk (Kd.C_below HU.out hb5)
  clear hb5
  go_wp2_with fail
  refine (same_lit (w := w3) Au cu [1, 2] 2 rfl _ rfl HUc.out HU2.out).mono ?_
  rintro e w4 ⟨rfl, hb6⟩
  have HB6 := Aside0.mk (below_then HB5.out HB5.out.size hb6)
  clear hb6
  go_wp2
  go_ret
  exact ⟨rfl, HB6.out⟩
end Go.Proofs.Ytfeeaipbmpmpgaa.PX

namespace Go.Proofs.Ytfeeaipbmpmpgaa.PX
open Go.RowKit Go.Proofs.YtfeeaipbmpmpgaaW.PrintWords Go.Proofs.YtfeeaipbmpmpgaaW.PrintLast Go.Proofs.YtfeeaipbmpmpgaaW.PrintMore
attribute [local go_sem] max2_int min2_int max_two min_two max_three min_three max_four min_four   -- for this text's walks alone
set_option linter.unusedVariables false
set_option linter.unusedSimpArgs false
/-! ### kimberlitelaw03_CurveDual: function 12 -/
def kimberlitelaw03_CurveDual.j0 : Nat → Bool → Int → Int → List Int → Int → Int → List Int → Int → Int → List Int → Option (Bool)
 | 0, _, _, _, _, _, _, _, _, _, _ => none
 | k + 1, x58, x1130000, x1130001, x1130002, x1137000, x1137001, x1137002, x1144000, x1144001, x1144002 => if x58 = true then ((kimberlitelaw03_alive.f).bind fun t1146 => (some t1146)) else ((curve_Add.f x1137000 x1137001 x1137002 x1144000 x1144001 x1144002).bind fun bt1153 => (if bt1153.2.2.2 = 0 then ((kimberlitelaw03_alike.f k bt1153.1 bt1153.2.1 bt1153.2.2.1 x1130000 x1130001 x1130002).bind fun t1162 => (if t1162 = true then ((kimberlitelaw03_alive.f).bind fun t1163 => (some t1163)) else (none))) else (if bt1153.2.2.2 = 4 then ((kimberlitelaw03_alive.f).bind fun t1160 => (some t1160)) else (none))))
def kimberlitelaw03_CurveDual.f (k : Nat) (a0_0 : Int) (a0_1 : Int) (l0_2 : List Int) (a1_0 : Int) (a1_1 : Int) (l1_2 : List Int) (a2 : Int) (a3 : Int) : Option (Bool) := (curve_Join.f a0_0 a0_1 l0_2 a1_0 a1_1 l1_2).bind fun bt1109 => (if bt1109.2.2.2 = 0 then ((curve_Conj.f k bt1109.1 bt1109.2.1 bt1109.2.2.1 a2 a3).bind fun bt1123 => ((curve_Conj.f k a0_0 a0_1 l0_2 a2 a3).bind fun bt1130 => ((curve_Conj.f k a1_0 a1_1 l1_2 a2 a3).bind fun bt1137 => (if bt1123.2.2.2 = 0 then (if bt1130.2.2.2 = 0 then (kimberlitelaw03_CurveDual.j0 k (bt1137.2.2.2 != 0) bt1123.1 bt1123.2.1 bt1123.2.2.1 bt1130.1 bt1130.2.1 bt1130.2.2.1 bt1137.1 bt1137.2.1 bt1137.2.2.1) else (kimberlitelaw03_CurveDual.j0 k true bt1123.1 bt1123.2.1 bt1123.2.2.1 bt1130.1 bt1130.2.1 bt1130.2.2.1 bt1137.1 bt1137.2.1 bt1137.2.2.1)) else (kimberlitelaw03_CurveDual.j0 k true bt1123.1 bt1123.2.1 bt1123.2.2.1 bt1130.1 bt1130.2.1 bt1130.2.2.1 bt1137.1 bt1137.2.1 bt1137.2.2.1))))) else ((kimberlitelaw03_alive.f).bind fun t1116 => (some t1116)))
theorem kimberlitelaw03_CurveDual.mono_l : ∀ k, (∀ y0 y1 y2 y3 y4 y5 y6 y7 y8 y9, LeO (kimberlitelaw03_CurveDual.j0 k y0 y1 y2 y3 y4 y5 y6 y7 y8 y9) (kimberlitelaw03_CurveDual.j0 (k + 1) y0 y1 y2 y3 y4 y5 y6 y7 y8 y9))
 | 0 => fun _ _ _ _ _ _ _ _ _ _ r h => by simp [kimberlitelaw03_CurveDual.j0] at h
 | k + 1 => by
  have ih0 := kimberlitelaw03_CurveDual.mono_l k
  ·
   intro y0 y1 y2 y3 y4 y5 y6 y7 y8 y9
   unfold kimberlitelaw03_CurveDual.j0
   repeat' first
   | (with_reducible exact ih0 _ _ _ _ _ _ _ _ _ _)
   | (with_reducible exact curve_Conj.mono _ _ _ _ _ _)
   | (with_reducible exact kimberlitelaw03_alike.mono _ _ _ _ _ _ _)
   | (with_reducible exact LeO.refl _)
   | (with_reducible exact LeO.none _)
   | (with_reducible refine LeO.ite ?_ ?_)
   | (with_reducible refine LeO.bind ?_ (fun _ => ?_))
   | exact ih0 _ _ _ _ _ _ _ _ _ _
   | exact curve_Conj.mono _ _ _ _ _ _
   | exact kimberlitelaw03_alike.mono _ _ _ _ _ _ _
   | exact LeO.none _
   | refine LeO.ite ?_ ?_
   | refine LeO.bind ?_ (fun _ => ?_)
theorem kimberlitelaw03_CurveDual.mono : ∀ a0 a1 a2 a3 a4 a5 a6 a7 k, LeO (kimberlitelaw03_CurveDual.f k a0 a1 a2 a3 a4 a5 a6 a7) (kimberlitelaw03_CurveDual.f (k + 1) a0 a1 a2 a3 a4 a5 a6 a7) := by
 intro a0 a1 a2 a3 a4 a5 a6 a7 k
 have ih0 := kimberlitelaw03_CurveDual.mono_l k
 unfold kimberlitelaw03_CurveDual.f
 repeat' first
   | (with_reducible exact ih0 _ _ _ _ _ _ _ _ _ _)
   | (with_reducible exact curve_Conj.mono _ _ _ _ _ _)
   | (with_reducible exact kimberlitelaw03_alike.mono _ _ _ _ _ _ _)
   | (with_reducible exact LeO.refl _)
   | (with_reducible exact LeO.none _)
   | (with_reducible refine LeO.ite ?_ ?_)
   | (with_reducible refine LeO.bind ?_ (fun _ => ?_))
   | exact ih0 _ _ _ _ _ _ _ _ _ _
   | exact curve_Conj.mono _ _ _ _ _ _
   | exact kimberlitelaw03_alike.mono _ _ _ _ _ _ _
   | exact LeO.none _
   | refine LeO.ite ?_ ?_
   | refine LeO.bind ?_ (fun _ => ?_)
set_option maxHeartbeats 8000000 in
set_option maxRecDepth 100000 in
theorem kimberlitelaw03_CurveDual.calls (k : Nat) (a0_0 : Int) (a0_1 : Int) (A0_2 : Option Addr) (c0_2 : Nat) (l0_2 : List Int) (a1_0 : Int) (a1_1 : Int) (A1_2 : Option Addr) (c1_2 : Nat) (l1_2 : List Int) (a2 : Int) (a3 : Int) (r : Bool) (w : World) (hr0_2 : Kd.C (Kd.int .i64) w A0_2 l0_2.length l0_2) (hc0_2 : l0_2.length ≤ c0_2) (hr1_2 : Kd.C (Kd.int .i64) w A1_2 l1_2.length l1_2) (hc1_2 : l1_2.length ≤ c1_2) (h : kimberlitelaw03_CurveDual.f k a0_0 a0_1 l0_2 a1_0 a1_1 l1_2 a2 a3 = some r) :
  Calls Try.prog 12 #[.agg #[.int .i64 a0_0, .int .i64 a0_1, .slice A0_2 l0_2.length c0_2], .agg #[.int .i64 a1_0, .int .i64 a1_1, .slice A1_2 l1_2.length c1_2], .int .i64 a2, .int .i64 a3] w fun e w' => e = .returned (.bool r) ∧ Below w.heap.size w w' := by
 have hu24 := Try.underlying24
 have HR0_2 := zA hr0_2
 have HC0_2 := zA hc0_2
 clear hr0_2 hc0_2
 have HR1_2 := zA hr1_2
 have HC1_2 := zA hc1_2
 clear hr1_2 hc1_2
 have HB := zA (Below.refl w.heap.size w)
 have H : ((curve_Join.f a0_0 a0_1 l0_2 a1_0 a1_1 l1_2).bind fun bt1109 => (if bt1109.2.2.2 = 0 then ((curve_Conj.f k bt1109.1 bt1109.2.1 bt1109.2.2.1 a2 a3).bind fun bt1123 => ((curve_Conj.f k a0_0 a0_1 l0_2 a2 a3).bind fun bt1130 => ((curve_Conj.f k a1_0 a1_1 l1_2 a2 a3).bind fun bt1137 => (if bt1123.2.2.2 = 0 then (if bt1130.2.2.2 = 0 then (kimberlitelaw03_CurveDual.j0 k (bt1137.2.2.2 != 0) bt1123.1 bt1123.2.1 bt1123.2.2.1 bt1130.1 bt1130.2.1 bt1130.2.2.1 bt1137.1 bt1137.2.1 bt1137.2.2.1) else (kimberlitelaw03_CurveDual.j0 k true bt1123.1 bt1123.2.1 bt1123.2.2.1 bt1130.1 bt1130.2.1 bt1130.2.2.1 bt1137.1 bt1137.2.1 bt1137.2.2.1)) else (kimberlitelaw03_CurveDual.j0 k true bt1123.1 bt1123.2.1 bt1123.2.2.1 bt1130.1 bt1130.2.1 bt1130.2.2.1 bt1137.1 bt1137.2.1 bt1137.2.2.1))))) else ((kimberlitelaw03_alive.f).bind fun t1116 => (some t1116)))) = some r := h
 clear h
 replace H := Option.bind_eq_some_iff.mp H
 obtain ⟨⟨t1109, t1110, t1111, t1114⟩, A50, H⟩ := H
 replace H : (if t1114 = 0 then ((curve_Conj.f k t1109 t1110 t1111 a2 a3).bind fun bt1123 => ((curve_Conj.f k a0_0 a0_1 l0_2 a2 a3).bind fun bt1130 => ((curve_Conj.f k a1_0 a1_1 l1_2 a2 a3).bind fun bt1137 => (if bt1123.2.2.2 = 0 then (if bt1130.2.2.2 = 0 then (kimberlitelaw03_CurveDual.j0 k (bt1137.2.2.2 != 0) bt1123.1 bt1123.2.1 bt1123.2.2.1 bt1130.1 bt1130.2.1 bt1130.2.2.1 bt1137.1 bt1137.2.1 bt1137.2.2.1) else (kimberlitelaw03_CurveDual.j0 k true bt1123.1 bt1123.2.1 bt1123.2.2.1 bt1130.1 bt1130.2.1 bt1130.2.2.1 bt1137.1 bt1137.2.1 bt1137.2.2.1)) else (kimberlitelaw03_CurveDual.j0 k true bt1123.1 bt1123.2.1 bt1123.2.2.1 bt1130.1 bt1130.2.1 bt1130.2.2.1 bt1137.1 bt1137.2.1 bt1137.2.2.1))))) else ((kimberlitelaw03_alive.f).bind fun t1116 => (some t1116))) = some r := H
 have A5 := zA A50
 clear A50
 by_cases c6 : t1114 = 0
 ·
  rw [if_pos c6] at H
  have c6b0 : (t1114 == 0) = true := beq_iff_eq.mpr c6
  have c6b1 : (t1114 != 0) = false := bne_eq_false_iff_eq.mpr c6
  clear c6
  replace H := Option.bind_eq_some_iff.mp H
  obtain ⟨⟨t1123, t1124, t1125, t1128⟩, A70, H⟩ := H
  replace H : ((curve_Conj.f k a0_0 a0_1 l0_2 a2 a3).bind fun bt1130 => ((curve_Conj.f k a1_0 a1_1 l1_2 a2 a3).bind fun bt1137 => (if t1128 = 0 then (if bt1130.2.2.2 = 0 then (kimberlitelaw03_CurveDual.j0 k (bt1137.2.2.2 != 0) t1123 t1124 t1125 bt1130.1 bt1130.2.1 bt1130.2.2.1 bt1137.1 bt1137.2.1 bt1137.2.2.1) else (kimberlitelaw03_CurveDual.j0 k true t1123 t1124 t1125 bt1130.1 bt1130.2.1 bt1130.2.2.1 bt1137.1 bt1137.2.1 bt1137.2.2.1)) else (kimberlitelaw03_CurveDual.j0 k true t1123 t1124 t1125 bt1130.1 bt1130.2.1 bt1130.2.2.1 bt1137.1 bt1137.2.1 bt1137.2.2.1)))) = some r := H
  have A7 := zA A70
  clear A70
  replace H := Option.bind_eq_some_iff.mp H
  obtain ⟨⟨t1130, t1131, t1132, t1135⟩, A80, H⟩ := H
  replace H : ((curve_Conj.f k a1_0 a1_1 l1_2 a2 a3).bind fun bt1137 => (if t1128 = 0 then (if t1135 = 0 then (kimberlitelaw03_CurveDual.j0 k (bt1137.2.2.2 != 0) t1123 t1124 t1125 t1130 t1131 t1132 bt1137.1 bt1137.2.1 bt1137.2.2.1) else (kimberlitelaw03_CurveDual.j0 k true t1123 t1124 t1125 t1130 t1131 t1132 bt1137.1 bt1137.2.1 bt1137.2.2.1)) else (kimberlitelaw03_CurveDual.j0 k true t1123 t1124 t1125 t1130 t1131 t1132 bt1137.1 bt1137.2.1 bt1137.2.2.1))) = some r := H
  have A8 := zA A80
  clear A80
  replace H := Option.bind_eq_some_iff.mp H
  obtain ⟨⟨t1137, t1138, t1139, t1142⟩, A90, H⟩ := H
  replace H : (if t1128 = 0 then (if t1135 = 0 then (kimberlitelaw03_CurveDual.j0 k (t1142 != 0) t1123 t1124 t1125 t1130 t1131 t1132 t1137 t1138 t1139) else (kimberlitelaw03_CurveDual.j0 k true t1123 t1124 t1125 t1130 t1131 t1132 t1137 t1138 t1139)) else (kimberlitelaw03_CurveDual.j0 k true t1123 t1124 t1125 t1130 t1131 t1132 t1137 t1138 t1139)) = some r := H
  have A9 := zA A90
  clear A90
  have HC10 := zA H
  clear H
  go_enter Try.func12, Try.ntmps12
  go_upto_region 7 with (first | ((with_reducible refine gate_dst (N := 4) rfl ?_); refine box_event ?hg (N := 4) ?hd (cs := #[.int .i64 a0_0, .int .i64 a0_1, .slice A0_2 l0_2.length c0_2]) (t := 24) ?hr ?_; (case hd => rfl); (case hg => rfl); (case hr => first | (go_simp; done) | (go_simp; rfl)); intro gA hg w11 hbox hb; have n0_ := zA (below_step (by repeat (first | (with_reducible first | exact HB.out | apply zW | apply zX | apply zY) | exact HB.out)) hb); have n1_ := zA (hbox); have n2_ := zA ((by rw [hg]; exact (below_size (by repeat (first | (with_reducible first | exact HB.out | apply zW | apply zX | apply zY) | exact HB.out))) : w.heap.size ≤ gA)); have n3_ := zA ((by rw [hg]; exact (below_size (by repeat (first | (with_reducible first | exact HB.out | apply zW | apply zX | apply zY) | exact HB.out))) : w.heap.size ≤ gA)); clear HB; have HB := n0_; have BKHr := n1_; have GWHr := n2_; have GEHr := n3_; clear n0_ n1_ n2_ n3_; clear hb hbox hg) | ((with_reducible refine gate_dst (N := 5) rfl ?_); refine box_event ?hg (N := 5) ?hd (cs := #[.int .i64 a1_0, .int .i64 a1_1, .slice A1_2 l1_2.length c1_2]) (t := 24) ?hr ?_; (case hd => rfl); (case hg => rfl); (case hr => first | (go_simp; done) | (go_simp; rfl)); intro gB hg w12 hbox hb; have n0_ := zA (blk_below (g := gA) (o := .cells #[.int .i64 a0_0, .int .i64 a0_1, .slice A0_2 l0_2.length c0_2] 24 (0, 0)) (by (with_reducible repeat (first | refine zN ?_ _ | refine zD ?_ | refine zB ?_ _)); exact BKHr.out) hb); have n1_ := zA (below_step (by repeat (first | (with_reducible first | exact HB.out | apply zW | apply zX | apply zY | refine zS ?_ GEHr.out) | exact HB.out)) hb); have n2_ := zA (hbox); have n3_ := zA ((by rw [hg]; exact (below_size (by repeat (first | (with_reducible first | exact HB.out | apply zW | apply zX | apply zY | refine zS ?_ GEHr.out) | exact HB.out))) : w.heap.size ≤ gB)); have n4_ := zA ((by rw [hg]; exact (below_size (by repeat (first | (with_reducible first | exact HB.out | apply zW | apply zX | apply zY | refine zS ?_ GEHr.out) | exact HB.out))) : w.heap.size ≤ gB)); have n5_ := zA ((by rw [hg]; exact Nat.ne_of_lt (blk_lt (g := gA) (o := .cells #[.int .i64 a0_0, .int .i64 a0_1, .slice A0_2 l0_2.length c0_2] 24 (0, 0)) (by (with_reducible repeat (first | refine zN ?_ _ | refine zD ?_ | refine zB ?_ _)); exact BKHr.out)) : gA ≠ gB)); have n6_ := zA ((by rw [hg]; exact Nat.ne_of_gt (blk_lt (g := gA) (o := .cells #[.int .i64 a0_0, .int .i64 a0_1, .slice A0_2 l0_2.length c0_2] 24 (0, 0)) (by (with_reducible repeat (first | refine zN ?_ _ | refine zD ?_ | refine zB ?_ _)); exact BKHr.out)) : gB ≠ gA)); clear BKHr; clear HB; have BKHr := n0_; have HB := n1_; have BKHs := n2_; have GWHs := n3_; have GEHs := n4_; have NB1107_1108 := n5_; have NB1108_1107 := n6_; clear n0_ n1_ n2_ n3_ n4_ n5_ n6_; clear hb hbox hg; have hnb13 := NB1107_1108.out; have hnc13 := NB1108_1107.out; have hcz14_0 : w12.cell? ⟨gA, 0, none⟩ = some (.int .i64 a0_0) := (blk_cell BKHr.out 0).trans rfl; have hcz14_1 : w12.cell? ⟨gA, 1, none⟩ = some (.int .i64 a0_1) := (blk_cell BKHr.out 1).trans rfl; have hcz14_2 : w12.cell? ⟨gA, 2, none⟩ = some (.slice A0_2 l0_2.length c0_2) := (blk_cell BKHr.out 2).trans rfl; have hfz14_0 := blk_frozen BKHr.out 0; have hfz14_1 := blk_frozen BKHr.out 1; have hfz14_2 := blk_frozen BKHr.out 2; have hcz15_0 : w12.cell? ⟨gB, 0, none⟩ = some (.int .i64 a1_0) := (blk_cell BKHs.out 0).trans rfl; have hcz15_1 : w12.cell? ⟨gB, 1, none⟩ = some (.int .i64 a1_1) := (blk_cell BKHs.out 1).trans rfl; have hcz15_2 : w12.cell? ⟨gB, 2, none⟩ = some (.slice A1_2 l1_2.length c1_2) := (blk_cell BKHs.out 2).trans rfl; have hfz15_0 := blk_frozen BKHs.out 0; have hfz15_1 := blk_frozen BKHs.out 1; have hfz15_2 := blk_frozen BKHs.out 2) | ((with_reducible refine gate_callee (f := 14) rfl ?_); refine goesL_ (some 22) rfl rfl Try.func14 (by kernel_rfl) rfl #[.agg #[.int .i64 a0_0, .int .i64 a0_1, .slice A0_2 l0_2.length c0_2], .agg #[.int .i64 a1_0, .int .i64 a1_1, .slice A1_2 l1_2.length c1_2]] rfl (by (try simp only [List.map_toArray, List.map_cons, List.map_nil]); first | done | rfl | (simp only [List.length_drop, List.length_take]; rfl)) ?_; (with_reducible refine (curve_Join.calls a0_0 a0_1 _ _ l0_2 a1_0 a1_1 _ _ l1_2 t1109 t1110 t1111 t1114 _ ?side1 ?side2 ?side3 ?side4 A5.out).mono ?_); (case side1 => repeat (first | exact (Kd.C_below HR0_2.out HB.out) | (with_reducible refine Kd.C_alloc ?_ _) | (with_reducible refine Kd.C_drewN ?_ _) | (with_reducible refine Kd.C_drew ?_))); (case side2 => exact HC0_2.out); (case side3 => repeat (first | exact (Kd.C_below HR1_2.out HB.out) | (with_reducible refine Kd.C_alloc ?_ _) | (with_reducible refine Kd.C_drewN ?_ _) | (with_reducible refine Kd.C_drew ?_))); (case side4 => exact HC1_2.out); rintro e w16 ⟨v1112, rfl, ho0, hb⟩; refine ⟨_, rfl, ?_⟩; have n0_ := zA (Kd.R_lower ho0 (below_size (by repeat (first | (with_reducible first | exact HB.out | apply zW | apply zX | apply zY | refine zS ?_ GEHr.out | refine zS ?_ GEHs.out) | exact HB.out)))); have n1_ := zA (blk_below (g := gA) (o := .cells #[.int .i64 a0_0, .int .i64 a0_1, .slice A0_2 l0_2.length c0_2] 24 (0, 0)) (by (with_reducible repeat (first | refine zN ?_ _ | refine zD ?_ | refine zB ?_ _)); exact BKHr.out) hb); have n2_ := zA (blk_below (g := gB) (o := .cells #[.int .i64 a1_0, .int .i64 a1_1, .slice A1_2 l1_2.length c1_2] 24 (0, 0)) (by (with_reducible repeat (first | refine zN ?_ _ | refine zD ?_ | refine zB ?_ _)); exact BKHs.out) hb); have n3_ := zA (below_step (by repeat (first | (with_reducible first | exact HB.out | apply zW | apply zX | apply zY | refine zS ?_ GEHr.out | refine zS ?_ GEHs.out) | exact HB.out)) hb); clear BKHr; clear BKHs; clear HB; have HOHx := n0_; have BKHr := n1_; have BKHs := n2_; have HB := n3_; clear n0_ n1_ n2_ n3_; (try clear hb); (try clear hb2); (try clear hk); (try clear hi); (try clear ho0)) | ((with_reducible refine gate_dst (N := 9) rfl ?_); refine box_event ?hg (N := 9) ?hd (cs := #[.int .i64 0, .int .i64 0, .slice none 0 0]) (t := 24) ?hr ?_; (case hd => rfl); (case hg => rfl); (case hr => first | (go_simp; done) | (go_simp; rfl)); intro gC hg w17 hbox hb; have n0_ := zA (Kd.R_below (by (with_reducible repeat (first | apply Kd.R_alloc | apply Kd.R_drewN | apply Kd.R_drew)); exact HOHx.out) hb); have n1_ := zA (blk_below (g := gA) (o := .cells #[.int .i64 a0_0, .int .i64 a0_1, .slice A0_2 l0_2.length c0_2] 24 (0, 0)) (by (with_reducible repeat (first | refine zN ?_ _ | refine zD ?_ | refine zB ?_ _)); exact BKHr.out) hb); have n2_ := zA (blk_below (g := gB) (o := .cells #[.int .i64 a1_0, .int .i64 a1_1, .slice A1_2 l1_2.length c1_2] 24 (0, 0)) (by (with_reducible repeat (first | refine zN ?_ _ | refine zD ?_ | refine zB ?_ _)); exact BKHs.out) hb); have n3_ := zA (below_step (by repeat (first | (with_reducible first | exact HB.out | apply zW | apply zX | apply zY | refine zS ?_ GEHr.out | refine zS ?_ GEHs.out) | exact HB.out)) hb); have n4_ := zA (hbox); have n5_ := zA ((by rw [hg]; exact (below_size (by repeat (first | (with_reducible first | exact HB.out | apply zW | apply zX | apply zY | refine zS ?_ GEHr.out | refine zS ?_ GEHs.out) | exact HB.out))) : w.heap.size ≤ gC)); have n6_ := zA ((by rw [hg]; exact (below_size (by repeat (first | (with_reducible first | exact HB.out | apply zW | apply zX | apply zY | refine zS ?_ GEHr.out | refine zS ?_ GEHs.out) | exact HB.out))) : w.heap.size ≤ gC)); have n7_ := zA ((by rw [hg]; exact Nat.ne_of_lt (blk_lt (g := gA) (o := .cells #[.int .i64 a0_0, .int .i64 a0_1, .slice A0_2 l0_2.length c0_2] 24 (0, 0)) (by (with_reducible repeat (first | refine zN ?_ _ | refine zD ?_ | refine zB ?_ _)); exact BKHr.out)) : gA ≠ gC)); have n8_ := zA ((by rw [hg]; exact Nat.ne_of_gt (blk_lt (g := gA) (o := .cells #[.int .i64 a0_0, .int .i64 a0_1, .slice A0_2 l0_2.length c0_2] 24 (0, 0)) (by (with_reducible repeat (first | refine zN ?_ _ | refine zD ?_ | refine zB ?_ _)); exact BKHr.out)) : gC ≠ gA)); have n9_ := zA ((by rw [hg]; exact Nat.ne_of_lt (blk_lt (g := gB) (o := .cells #[.int .i64 a1_0, .int .i64 a1_1, .slice A1_2 l1_2.length c1_2] 24 (0, 0)) (by (with_reducible repeat (first | refine zN ?_ _ | refine zD ?_ | refine zB ?_ _)); exact BKHs.out)) : gB ≠ gC)); have n10_ := zA ((by rw [hg]; exact Nat.ne_of_gt (blk_lt (g := gB) (o := .cells #[.int .i64 a1_0, .int .i64 a1_1, .slice A1_2 l1_2.length c1_2] 24 (0, 0)) (by (with_reducible repeat (first | refine zN ?_ _ | refine zD ?_ | refine zB ?_ _)); exact BKHs.out)) : gC ≠ gB)); clear HOHx; clear BKHr; clear BKHs; clear HB; have HOHx := n0_; have BKHr := n1_; have BKHs := n2_; have HB := n3_; have BKHz := n4_; have GWHz := n5_; have GEHz := n6_; have NB1107_1115 := n7_; have NB1115_1107 := n8_; have NB1108_1115 := n9_; have NB1115_1108 := n10_; clear n0_ n1_ n2_ n3_ n4_ n5_ n6_ n7_ n8_ n9_ n10_; clear hb hbox hg; have hnb18 := NB1115_1107.out; have hnc18 := NB1107_1115.out; have hnb19 := NB1115_1108.out; have hnc19 := NB1108_1115.out; have hcz20_0 : w17.cell? ⟨gC, 0, none⟩ = some (.int .i64 0) := (blk_cell BKHz.out 0).trans rfl; have hcz20_1 : w17.cell? ⟨gC, 1, none⟩ = some (.int .i64 0) := (blk_cell BKHz.out 1).trans rfl; have hcz20_2 : w17.cell? ⟨gC, 2, none⟩ = some (.slice none 0 0) := (blk_cell BKHz.out 2).trans rfl; have hfz20_0 := blk_frozen BKHz.out 0; have hfz20_1 := blk_frozen BKHz.out 1; have hfz20_2 := blk_frozen BKHz.out 2; obtain ⟨Ao21, co21, eo21⟩ := Kd.R_slice HOHx.out; subst eo21) | ((with_reducible refine gate_callee (f := 36) rfl ?_); refine goesL_ (some 32) rfl rfl Try.func36 (by kernel_rfl) rfl #[.agg #[.int .i64 t1109, .int .i64 t1110, .slice Ao21 t1111.length co21], .int .i64 a2, .int .i64 a3] rfl (by (try simp only [List.map_toArray, List.map_cons, List.map_nil]); first | done | rfl | (simp only [List.length_drop, List.length_take]; rfl)) ?_; (with_reducible refine (curve_Conj.calls k t1109 t1110 _ _ t1111 a2 a3 t1123 t1124 t1125 t1128 _ ?side1 ?side2 A7.out).mono ?_); (case side1 => refine (Kd.R_reads' (e := 3) (base := w.heap.size) (ok := fun k_ => True) (n := t1111.length) (c := co21) ?_).2.2; exact (by (with_reducible repeat (first | apply Kd.R_alloc | apply Kd.R_drewN | apply Kd.R_drew)); exact (Kd.R_mono (Kd.R_far (p := ⟨gC, 2, none⟩) (Kd.R_far (p := ⟨gC, 1, none⟩) (Kd.R_far (p := ⟨gC, 0, none⟩) (Kd.R_types HOHx.out BKHz.out (by decide)) (fun _ hk => hk.2) (.int .i64 t1109)) (fun _ hk => hk.2) (.int .i64 t1110)) (fun _ hk => hk.2) (.slice Ao21 t1111.length co21)) (fun _ h_ => h_.1)))); (case side2 => exact (Kd.R_reads' HOHx.out).2.1); rintro e w22 ⟨v1126, rfl, ho0, hb⟩; refine ⟨_, rfl, ?_⟩; have n0_ := zA (Kd.R_elder' (by (with_reducible repeat (first | apply Kd.R_alloc | apply Kd.R_drewN | apply Kd.R_drew)); exact (Kd.R_mono (Kd.R_far (p := ⟨gC, 2, none⟩) (Kd.R_far (p := ⟨gC, 1, none⟩) (Kd.R_far (p := ⟨gC, 0, none⟩) (Kd.R_types HOHx.out BKHz.out (by decide)) (fun _ hk => hk.2) (.int .i64 t1109)) (fun _ hk => hk.2) (.int .i64 t1110)) (fun _ hk => hk.2) (.slice Ao21 t1111.length co21)) (fun _ h_ => h_.1))) (Kd.R_base ho0) hb); have n1_ := zA (Kd.R_lower (Kd.R_new' ho0 (Kd.R_lt (by (with_reducible repeat (first | apply Kd.R_alloc | apply Kd.R_drewN | apply Kd.R_drew)); exact (Kd.R_mono (Kd.R_far (p := ⟨gC, 2, none⟩) (Kd.R_far (p := ⟨gC, 1, none⟩) (Kd.R_far (p := ⟨gC, 0, none⟩) (Kd.R_types HOHx.out BKHz.out (by decide)) (fun _ hk => hk.2) (.int .i64 t1109)) (fun _ hk => hk.2) (.int .i64 t1110)) (fun _ hk => hk.2) (.slice Ao21 t1111.length co21)) (fun _ h_ => h_.1))))) (below_size (by repeat (first | (with_reducible first | exact HB.out | apply zW | apply zX | apply zY | refine zS ?_ GEHr.out | refine zS ?_ GEHs.out | refine zS ?_ GEHz.out) | exact HB.out)))); have n2_ := zA (blk_below (g := gA) (o := .cells #[.int .i64 a0_0, .int .i64 a0_1, .slice A0_2 l0_2.length c0_2] 24 (0, 0)) (by (with_reducible repeat (first | refine zN ?_ _ | refine zD ?_ | refine zB ?_ _)); refine blk_far ?_ NB1107_1115.out _; (with_reducible repeat (first | refine zN ?_ _ | refine zD ?_ | refine zB ?_ _)); refine blk_far ?_ NB1107_1115.out _; (with_reducible repeat (first | refine zN ?_ _ | refine zD ?_ | refine zB ?_ _)); refine blk_far ?_ NB1107_1115.out _; (with_reducible repeat (first | refine zN ?_ _ | refine zD ?_ | refine zB ?_ _)); exact BKHr.out) hb); have n3_ := zA (blk_below (g := gB) (o := .cells #[.int .i64 a1_0, .int .i64 a1_1, .slice A1_2 l1_2.length c1_2] 24 (0, 0)) (by (with_reducible repeat (first | refine zN ?_ _ | refine zD ?_ | refine zB ?_ _)); refine blk_far ?_ NB1108_1115.out _; (with_reducible repeat (first | refine zN ?_ _ | refine zD ?_ | refine zB ?_ _)); refine blk_far ?_ NB1108_1115.out _; (with_reducible repeat (first | refine zN ?_ _ | refine zD ?_ | refine zB ?_ _)); refine blk_far ?_ NB1108_1115.out _; (with_reducible repeat (first | refine zN ?_ _ | refine zD ?_ | refine zB ?_ _)); exact BKHs.out) hb); have n4_ := zA (blk_below (g := gC) (o := .cells #[.int .i64 t1109, .int .i64 t1110, .slice Ao21 t1111.length co21] 24 (0, 0)) (by (with_reducible repeat (first | refine zN ?_ _ | refine zD ?_ | refine zB ?_ _)); refine blk_put (cs := #[.int .i64 t1109, .int .i64 t1110, .slice none 0 0]) ?_ 2 _ rfl; (with_reducible repeat (first | refine zN ?_ _ | refine zD ?_ | refine zB ?_ _)); refine blk_put (cs := #[.int .i64 t1109, .int .i64 0, .slice none 0 0]) ?_ 1 _ rfl; (with_reducible repeat (first | refine zN ?_ _ | refine zD ?_ | refine zB ?_ _)); refine blk_put (cs := #[.int .i64 0, .int .i64 0, .slice none 0 0]) ?_ 0 _ rfl; (with_reducible repeat (first | refine zN ?_ _ | refine zD ?_ | refine zB ?_ _)); exact BKHz.out) hb); have n5_ := zA (below_step (by repeat (first | (with_reducible first | exact HB.out | apply zW | apply zX | apply zY | refine zS ?_ GEHr.out | refine zS ?_ GEHs.out | refine zS ?_ GEHz.out) | exact HB.out)) hb); clear HOHx; clear BKHr; clear BKHs; clear BKHz; clear HB; have HOHx := n0_; have HOIB := n1_; have BKHr := n2_; have BKHs := n3_; have BKHz := n4_; have HB := n5_; clear n0_ n1_ n2_ n3_ n4_ n5_; (try clear hb); (try clear hb2); (try clear hk); (try clear hi); (try clear ho0)) | ((with_reducible refine gate_dst (N := 11) rfl ?_); refine box_event ?hg (N := 11) ?hd (cs := #[.int .i64 0, .int .i64 0, .slice none 0 0]) (t := 24) ?hr ?_; (case hd => rfl); (case hg => rfl); (case hr => first | (go_simp; done) | (go_simp; rfl)); intro gD hg w23 hbox hb; have n0_ := zA (Kd.R_below (by (with_reducible repeat (first | apply Kd.R_alloc | apply Kd.R_drewN | apply Kd.R_drew)); exact HOHx.out) hb); have n1_ := zA (Kd.R_below (by (with_reducible repeat (first | apply Kd.R_alloc | apply Kd.R_drewN | apply Kd.R_drew)); exact HOIB.out) hb); have n2_ := zA (blk_below (g := gA) (o := .cells #[.int .i64 a0_0, .int .i64 a0_1, .slice A0_2 l0_2.length c0_2] 24 (0, 0)) (by (with_reducible repeat (first | refine zN ?_ _ | refine zD ?_ | refine zB ?_ _)); exact BKHr.out) hb); have n3_ := zA (blk_below (g := gB) (o := .cells #[.int .i64 a1_0, .int .i64 a1_1, .slice A1_2 l1_2.length c1_2] 24 (0, 0)) (by (with_reducible repeat (first | refine zN ?_ _ | refine zD ?_ | refine zB ?_ _)); exact BKHs.out) hb); have n4_ := zA (blk_below (g := gC) (o := .cells #[.int .i64 t1109, .int .i64 t1110, .slice Ao21 t1111.length co21] 24 (0, 0)) (by (with_reducible repeat (first | refine zN ?_ _ | refine zD ?_ | refine zB ?_ _)); exact BKHz.out) hb); have n5_ := zA (below_step (by repeat (first | (with_reducible first | exact HB.out | apply zW | apply zX | apply zY | refine zS ?_ GEHr.out | refine zS ?_ GEHs.out | refine zS ?_ GEHz.out) | exact HB.out)) hb); have n6_ := zA (hbox); have n7_ := zA ((by rw [hg]; exact (below_size (by repeat (first | (with_reducible first | exact HB.out | apply zW | apply zX | apply zY | refine zS ?_ GEHr.out | refine zS ?_ GEHs.out | refine zS ?_ GEHz.out) | exact HB.out))) : w.heap.size ≤ gD)); have n8_ := zA ((by rw [hg]; exact (below_size (by repeat (first | (with_reducible first | exact HB.out | apply zW | apply zX | apply zY | refine zS ?_ GEHr.out | refine zS ?_ GEHs.out | refine zS ?_ GEHz.out) | exact HB.out))) : w.heap.size ≤ gD)); have n9_ := zA ((by rw [hg]; exact Nat.ne_of_lt (blk_lt (g := gA) (o := .cells #[.int .i64 a0_0, .int .i64 a0_1, .slice A0_2 l0_2.length c0_2] 24 (0, 0)) (by (with_reducible repeat (first | refine zN ?_ _ | refine zD ?_ | refine zB ?_ _)); exact BKHr.out)) : gA ≠ gD)); have n10_ := zA ((by rw [hg]; exact Nat.ne_of_gt (blk_lt (g := gA) (o := .cells #[.int .i64 a0_0, .int .i64 a0_1, .slice A0_2 l0_2.length c0_2] 24 (0, 0)) (by (with_reducible repeat (first | refine zN ?_ _ | refine zD ?_ | refine zB ?_ _)); exact BKHr.out)) : gD ≠ gA)); have n11_ := zA ((by rw [hg]; exact Nat.ne_of_lt (blk_lt (g := gB) (o := .cells #[.int .i64 a1_0, .int .i64 a1_1, .slice A1_2 l1_2.length c1_2] 24 (0, 0)) (by (with_reducible repeat (first | refine zN ?_ _ | refine zD ?_ | refine zB ?_ _)); exact BKHs.out)) : gB ≠ gD)); have n12_ := zA ((by rw [hg]; exact Nat.ne_of_gt (blk_lt (g := gB) (o := .cells #[.int .i64 a1_0, .int .i64 a1_1, .slice A1_2 l1_2.length c1_2] 24 (0, 0)) (by (with_reducible repeat (first | refine zN ?_ _ | refine zD ?_ | refine zB ?_ _)); exact BKHs.out)) : gD ≠ gB)); have n13_ := zA ((by rw [hg]; exact Nat.ne_of_lt (blk_lt (g := gC) (o := .cells #[.int .i64 t1109, .int .i64 t1110, .slice Ao21 t1111.length co21] 24 (0, 0)) (by (with_reducible repeat (first | refine zN ?_ _ | refine zD ?_ | refine zB ?_ _)); exact BKHz.out)) : gC ≠ gD)); have n14_ := zA ((by rw [hg]; exact Nat.ne_of_gt (blk_lt (g := gC) (o := .cells #[.int .i64 t1109, .int .i64 t1110, .slice Ao21 t1111.length co21] 24 (0, 0)) (by (with_reducible repeat (first | refine zN ?_ _ | refine zD ?_ | refine zB ?_ _)); exact BKHz.out)) : gD ≠ gC)); clear HOHx; clear HOIB; clear BKHr; clear BKHs; clear BKHz; clear HB; have HOHx := n0_; have HOIB := n1_; have BKHr := n2_; have BKHs := n3_; have BKHz := n4_; have HB := n5_; have BKID := n6_; have GWID := n7_; have GEID := n8_; have NB1107_1129 := n9_; have NB1129_1107 := n10_; have NB1108_1129 := n11_; have NB1129_1108 := n12_; have NB1115_1129 := n13_; have NB1129_1115 := n14_; clear n0_ n1_ n2_ n3_ n4_ n5_ n6_ n7_ n8_ n9_ n10_ n11_ n12_ n13_ n14_; clear hb hbox hg; have hnb24 := NB1129_1107.out; have hnc24 := NB1107_1129.out; have hnb25 := NB1129_1108.out; have hnc25 := NB1108_1129.out; have hnb26 := NB1129_1115.out; have hnc26 := NB1115_1129.out; have hcz27_0 : w23.cell? ⟨gD, 0, none⟩ = some (.int .i64 0) := (blk_cell BKID.out 0).trans rfl; have hcz27_1 : w23.cell? ⟨gD, 1, none⟩ = some (.int .i64 0) := (blk_cell BKID.out 1).trans rfl; have hcz27_2 : w23.cell? ⟨gD, 2, none⟩ = some (.slice none 0 0) := (blk_cell BKID.out 2).trans rfl; have hfz27_0 := blk_frozen BKID.out 0; have hfz27_1 := blk_frozen BKID.out 1; have hfz27_2 := blk_frozen BKID.out 2; obtain ⟨Ao28, co28, eo28⟩ := Kd.R_slice HOIB.out; subst eo28; have hcz29_0 : w23.cell? ⟨gA, 0, none⟩ = some (.int .i64 a0_0) := (blk_cell BKHr.out 0).trans rfl; have hcz29_1 : w23.cell? ⟨gA, 1, none⟩ = some (.int .i64 a0_1) := (blk_cell BKHr.out 1).trans rfl; have hcz29_2 : w23.cell? ⟨gA, 2, none⟩ = some (.slice A0_2 l0_2.length c0_2) := (blk_cell BKHr.out 2).trans rfl; have hfz29_0 := blk_frozen BKHr.out 0; have hfz29_1 := blk_frozen BKHr.out 1; have hfz29_2 := blk_frozen BKHr.out 2) | ((with_reducible refine gate_callee (f := 36) rfl ?_); refine goesL_ (some 39) rfl rfl Try.func36 (by kernel_rfl) rfl #[.agg #[.int .i64 a0_0, .int .i64 a0_1, .slice A0_2 l0_2.length c0_2], .int .i64 a2, .int .i64 a3] rfl (by (try simp only [List.map_toArray, List.map_cons, List.map_nil]); first | done | rfl | (simp only [List.length_drop, List.length_take]; rfl)) ?_; (with_reducible refine (curve_Conj.calls k a0_0 a0_1 _ _ l0_2 a2 a3 t1130 t1131 t1132 t1135 _ ?side1 ?side2 A8.out).mono ?_); (case side1 => exact Kd.C_below HR0_2.out (by repeat (first | (with_reducible first | exact HB.out | apply zW | apply zX | apply zY | refine zS ?_ GEHr.out | refine zS ?_ GEHs.out | refine zS ?_ GEHz.out | refine zS ?_ GEID.out) | exact HB.out))); (case side2 => exact HC0_2.out); rintro e w30 ⟨v1133, rfl, ho0, hb⟩; refine ⟨_, rfl, ?_⟩; have n0_ := zA (Kd.R_elder' (by (with_reducible repeat (first | apply Kd.R_alloc | apply Kd.R_drewN | apply Kd.R_drew)); exact (Kd.R_mono (Kd.R_far (p := ⟨gD, 2, none⟩) (Kd.R_far (p := ⟨gD, 1, none⟩) (Kd.R_far (p := ⟨gD, 0, none⟩) (Kd.R_types HOHx.out BKID.out (by decide)) (fun _ hk => hk.2) (.int .i64 t1123)) (fun _ hk => hk.2) (.int .i64 t1124)) (fun _ hk => hk.2) (.slice Ao28 t1125.length co28)) (fun _ h_ => h_.1))) (Kd.R_base ho0) hb); have n1_ := zA (Kd.R_elder' (by (with_reducible repeat (first | apply Kd.R_alloc | apply Kd.R_drewN | apply Kd.R_drew)); exact (Kd.R_mono (Kd.R_far (p := ⟨gD, 2, none⟩) (Kd.R_far (p := ⟨gD, 1, none⟩) (Kd.R_far (p := ⟨gD, 0, none⟩) (Kd.R_types HOIB.out BKID.out (by decide)) (fun _ hk => hk.2) (.int .i64 t1123)) (fun _ hk => hk.2) (.int .i64 t1124)) (fun _ hk => hk.2) (.slice Ao28 t1125.length co28)) (fun _ h_ => h_.1))) (Kd.R_base ho0) hb); have n2_ := zA (Kd.R_lower (Kd.R_new' (Kd.R_new' ho0 (Kd.R_lt (by (with_reducible repeat (first | apply Kd.R_alloc | apply Kd.R_drewN | apply Kd.R_drew)); exact (Kd.R_mono (Kd.R_far (p := ⟨gD, 2, none⟩) (Kd.R_far (p := ⟨gD, 1, none⟩) (Kd.R_far (p := ⟨gD, 0, none⟩) (Kd.R_types HOHx.out BKID.out (by decide)) (fun _ hk => hk.2) (.int .i64 t1123)) (fun _ hk => hk.2) (.int .i64 t1124)) (fun _ hk => hk.2) (.slice Ao28 t1125.length co28)) (fun _ h_ => h_.1))))) (Kd.R_lt (by (with_reducible repeat (first | apply Kd.R_alloc | apply Kd.R_drewN | apply Kd.R_drew)); exact (Kd.R_mono (Kd.R_far (p := ⟨gD, 2, none⟩) (Kd.R_far (p := ⟨gD, 1, none⟩) (Kd.R_far (p := ⟨gD, 0, none⟩) (Kd.R_types HOIB.out BKID.out (by decide)) (fun _ hk => hk.2) (.int .i64 t1123)) (fun _ hk => hk.2) (.int .i64 t1124)) (fun _ hk => hk.2) (.slice Ao28 t1125.length co28)) (fun _ h_ => h_.1))))) (below_size (by repeat (first | (with_reducible first | exact HB.out | apply zW | apply zX | apply zY | refine zS ?_ GEHr.out | refine zS ?_ GEHs.out | refine zS ?_ GEHz.out | refine zS ?_ GEID.out) | exact HB.out)))); have n3_ := zA (blk_below (g := gA) (o := .cells #[.int .i64 a0_0, .int .i64 a0_1, .slice A0_2 l0_2.length c0_2] 24 (0, 0)) (by (with_reducible repeat (first | refine zN ?_ _ | refine zD ?_ | refine zB ?_ _)); refine blk_far ?_ NB1107_1129.out _; (with_reducible repeat (first | refine zN ?_ _ | refine zD ?_ | refine zB ?_ _)); refine blk_far ?_ NB1107_1129.out _; (with_reducible repeat (first | refine zN ?_ _ | refine zD ?_ | refine zB ?_ _)); refine blk_far ?_ NB1107_1129.out _; (with_reducible repeat (first | refine zN ?_ _ | refine zD ?_ | refine zB ?_ _)); exact BKHr.out) hb); have n4_ := zA (blk_below (g := gB) (o := .cells #[.int .i64 a1_0, .int .i64 a1_1, .slice A1_2 l1_2.length c1_2] 24 (0, 0)) (by (with_reducible repeat (first | refine zN ?_ _ | refine zD ?_ | refine zB ?_ _)); refine blk_far ?_ NB1108_1129.out _; (with_reducible repeat (first | refine zN ?_ _ | refine zD ?_ | refine zB ?_ _)); refine blk_far ?_ NB1108_1129.out _; (with_reducible repeat (first | refine zN ?_ _ | refine zD ?_ | refine zB ?_ _)); refine blk_far ?_ NB1108_1129.out _; (with_reducible repeat (first | refine zN ?_ _ | refine zD ?_ | refine zB ?_ _)); exact BKHs.out) hb); have n5_ := zA (blk_below (g := gC) (o := .cells #[.int .i64 t1109, .int .i64 t1110, .slice Ao21 t1111.length co21] 24 (0, 0)) (by (with_reducible repeat (first | refine zN ?_ _ | refine zD ?_ | refine zB ?_ _)); refine blk_far ?_ NB1115_1129.out _; (with_reducible repeat (first | refine zN ?_ _ | refine zD ?_ | refine zB ?_ _)); refine blk_far ?_ NB1115_1129.out _; (with_reducible repeat (first | refine zN ?_ _ | refine zD ?_ | refine zB ?_ _)); refine blk_far ?_ NB1115_1129.out _; (with_reducible repeat (first | refine zN ?_ _ | refine zD ?_ | refine zB ?_ _)); exact BKHz.out) hb); have n6_ := zA (blk_below (g := gD) (o := .cells #[.int .i64 t1123, .int .i64 t1124, .slice Ao28 t1125.length co28] 24 (0, 0)) (by (with_reducible repeat (first | refine zN ?_ _ | refine zD ?_ | refine zB ?_ _)); refine blk_put (cs := #[.int .i64 t1123, .int .i64 t1124, .slice none 0 0]) ?_ 2 _ rfl; (with_reducible repeat (first | refine zN ?_ _ | refine zD ?_ | refine zB ?_ _)); refine blk_put (cs := #[.int .i64 t1123, .int .i64 0, .slice none 0 0]) ?_ 1 _ rfl; (with_reducible repeat (first | refine zN ?_ _ | refine zD ?_ | refine zB ?_ _)); refine blk_put (cs := #[.int .i64 0, .int .i64 0, .slice none 0 0]) ?_ 0 _ rfl; (with_reducible repeat (first | refine zN ?_ _ | refine zD ?_ | refine zB ?_ _)); exact BKID.out) hb); have n7_ := zA (below_step (by repeat (first | (with_reducible first | exact HB.out | apply zW | apply zX | apply zY | refine zS ?_ GEHr.out | refine zS ?_ GEHs.out | refine zS ?_ GEHz.out | refine zS ?_ GEID.out) | exact HB.out)) hb); clear HOHx; clear HOIB; clear BKHr; clear BKHs; clear BKHz; clear BKID; clear HB; have HOHx := n0_; have HOIB := n1_; have HOII := n2_; have BKHr := n3_; have BKHs := n4_; have BKHz := n5_; have BKID := n6_; have HB := n7_; clear n0_ n1_ n2_ n3_ n4_ n5_ n6_ n7_; (try clear hb); (try clear hb2); (try clear hk); (try clear hi); (try clear ho0)) | ((with_reducible refine gate_dst (N := 13) rfl ?_); refine box_event ?hg (N := 13) ?hd (cs := #[.int .i64 0, .int .i64 0, .slice none 0 0]) (t := 24) ?hr ?_; (case hd => rfl); (case hg => rfl); (case hr => first | (go_simp; done) | (go_simp; rfl)); intro gE hg w31 hbox hb; have n0_ := zA (Kd.R_below (by (with_reducible repeat (first | apply Kd.R_alloc | apply Kd.R_drewN | apply Kd.R_drew)); exact HOHx.out) hb); have n1_ := zA (Kd.R_below (by (with_reducible repeat (first | apply Kd.R_alloc | apply Kd.R_drewN | apply Kd.R_drew)); exact HOIB.out) hb); have n2_ := zA (Kd.R_below (by (with_reducible repeat (first | apply Kd.R_alloc | apply Kd.R_drewN | apply Kd.R_drew)); exact HOII.out) hb); have n3_ := zA (blk_below (g := gA) (o := .cells #[.int .i64 a0_0, .int .i64 a0_1, .slice A0_2 l0_2.length c0_2] 24 (0, 0)) (by (with_reducible repeat (first | refine zN ?_ _ | refine zD ?_ | refine zB ?_ _)); exact BKHr.out) hb); have n4_ := zA (blk_below (g := gB) (o := .cells #[.int .i64 a1_0, .int .i64 a1_1, .slice A1_2 l1_2.length c1_2] 24 (0, 0)) (by (with_reducible repeat (first | refine zN ?_ _ | refine zD ?_ | refine zB ?_ _)); exact BKHs.out) hb); have n5_ := zA (blk_below (g := gC) (o := .cells #[.int .i64 t1109, .int .i64 t1110, .slice Ao21 t1111.length co21] 24 (0, 0)) (by (with_reducible repeat (first | refine zN ?_ _ | refine zD ?_ | refine zB ?_ _)); exact BKHz.out) hb); have n6_ := zA (blk_below (g := gD) (o := .cells #[.int .i64 t1123, .int .i64 t1124, .slice Ao28 t1125.length co28] 24 (0, 0)) (by (with_reducible repeat (first | refine zN ?_ _ | refine zD ?_ | refine zB ?_ _)); exact BKID.out) hb); have n7_ := zA (below_step (by repeat (first | (with_reducible first | exact HB.out | apply zW | apply zX | apply zY | refine zS ?_ GEHr.out | refine zS ?_ GEHs.out | refine zS ?_ GEHz.out | refine zS ?_ GEID.out) | exact HB.out)) hb); have n8_ := zA (hbox); have n9_ := zA ((by rw [hg]; exact (below_size (by repeat (first | (with_reducible first | exact HB.out | apply zW | apply zX | apply zY | refine zS ?_ GEHr.out | refine zS ?_ GEHs.out | refine zS ?_ GEHz.out | refine zS ?_ GEID.out) | exact HB.out))) : w.heap.size ≤ gE)); have n10_ := zA ((by rw [hg]; exact (below_size (by repeat (first | (with_reducible first | exact HB.out | apply zW | apply zX | apply zY | refine zS ?_ GEHr.out | refine zS ?_ GEHs.out | refine zS ?_ GEHz.out | refine zS ?_ GEID.out) | exact HB.out))) : w.heap.size ≤ gE)); have n11_ := zA ((by rw [hg]; exact Nat.ne_of_lt (blk_lt (g := gA) (o := .cells #[.int .i64 a0_0, .int .i64 a0_1, .slice A0_2 l0_2.length c0_2] 24 (0, 0)) (by (with_reducible repeat (first | refine zN ?_ _ | refine zD ?_ | refine zB ?_ _)); exact BKHr.out)) : gA ≠ gE)); have n12_ := zA ((by rw [hg]; exact Nat.ne_of_gt (blk_lt (g := gA) (o := .cells #[.int .i64 a0_0, .int .i64 a0_1, .slice A0_2 l0_2.length c0_2] 24 (0, 0)) (by (with_reducible repeat (first | refine zN ?_ _ | refine zD ?_ | refine zB ?_ _)); exact BKHr.out)) : gE ≠ gA)); have n13_ := zA ((by rw [hg]; exact Nat.ne_of_lt (blk_lt (g := gB) (o := .cells #[.int .i64 a1_0, .int .i64 a1_1, .slice A1_2 l1_2.length c1_2] 24 (0, 0)) (by (with_reducible repeat (first | refine zN ?_ _ | refine zD ?_ | refine zB ?_ _)); exact BKHs.out)) : gB ≠ gE)); have n14_ := zA ((by rw [hg]; exact Nat.ne_of_gt (blk_lt (g := gB) (o := .cells #[.int .i64 a1_0, .int .i64 a1_1, .slice A1_2 l1_2.length c1_2] 24 (0, 0)) (by (with_reducible repeat (first | refine zN ?_ _ | refine zD ?_ | refine zB ?_ _)); exact BKHs.out)) : gE ≠ gB)); have n15_ := zA ((by rw [hg]; exact Nat.ne_of_lt (blk_lt (g := gC) (o := .cells #[.int .i64 t1109, .int .i64 t1110, .slice Ao21 t1111.length co21] 24 (0, 0)) (by (with_reducible repeat (first | refine zN ?_ _ | refine zD ?_ | refine zB ?_ _)); exact BKHz.out)) : gC ≠ gE)); have n16_ := zA ((by rw [hg]; exact Nat.ne_of_gt (blk_lt (g := gC) (o := .cells #[.int .i64 t1109, .int .i64 t1110, .slice Ao21 t1111.length co21] 24 (0, 0)) (by (with_reducible repeat (first | refine zN ?_ _ | refine zD ?_ | refine zB ?_ _)); exact BKHz.out)) : gE ≠ gC)); have n17_ := zA ((by rw [hg]; exact Nat.ne_of_lt (blk_lt (g := gD) (o := .cells #[.int .i64 t1123, .int .i64 t1124, .slice Ao28 t1125.length co28] 24 (0, 0)) (by (with_reducible repeat (first | refine zN ?_ _ | refine zD ?_ | refine zB ?_ _)); exact BKID.out)) : gD ≠ gE)); have n18_ := zA ((by rw [hg]; exact Nat.ne_of_gt (blk_lt (g := gD) (o := .cells #[.int .i64 t1123, .int .i64 t1124, .slice Ao28 t1125.length co28] 24 (0, 0)) (by (with_reducible repeat (first | refine zN ?_ _ | refine zD ?_ | refine zB ?_ _)); exact BKID.out)) : gE ≠ gD)); clear HOHx; clear HOIB; clear HOII; clear BKHr; clear BKHs; clear BKHz; clear BKID; clear HB; have HOHx := n0_; have HOIB := n1_; have HOII := n2_; have BKHr := n3_; have BKHs := n4_; have BKHz := n5_; have BKID := n6_; have HB := n7_; have BKIK := n8_; have GWIK := n9_; have GEIK := n10_; have NB1107_1136 := n11_; have NB1136_1107 := n12_; have NB1108_1136 := n13_; have NB1136_1108 := n14_; have NB1115_1136 := n15_; have NB1136_1115 := n16_; have NB1129_1136 := n17_; have NB1136_1129 := n18_; clear n0_ n1_ n2_ n3_ n4_ n5_ n6_ n7_ n8_ n9_ n10_ n11_ n12_ n13_ n14_ n15_ n16_ n17_ n18_; clear hb hbox hg; have hnb32 := NB1136_1107.out; have hnc32 := NB1107_1136.out; have hnb33 := NB1136_1108.out; have hnc33 := NB1108_1136.out; have hnb34 := NB1136_1115.out; have hnc34 := NB1115_1136.out; have hnb35 := NB1136_1129.out; have hnc35 := NB1129_1136.out; have hcz36_0 : w31.cell? ⟨gE, 0, none⟩ = some (.int .i64 0) := (blk_cell BKIK.out 0).trans rfl; have hcz36_1 : w31.cell? ⟨gE, 1, none⟩ = some (.int .i64 0) := (blk_cell BKIK.out 1).trans rfl; have hcz36_2 : w31.cell? ⟨gE, 2, none⟩ = some (.slice none 0 0) := (blk_cell BKIK.out 2).trans rfl; have hfz36_0 := blk_frozen BKIK.out 0; have hfz36_1 := blk_frozen BKIK.out 1; have hfz36_2 := blk_frozen BKIK.out 2; obtain ⟨Ao37, co37, eo37⟩ := Kd.R_slice HOII.out; subst eo37; have hcz38_0 : w31.cell? ⟨gB, 0, none⟩ = some (.int .i64 a1_0) := (blk_cell BKHs.out 0).trans rfl; have hcz38_1 : w31.cell? ⟨gB, 1, none⟩ = some (.int .i64 a1_1) := (blk_cell BKHs.out 1).trans rfl; have hcz38_2 : w31.cell? ⟨gB, 2, none⟩ = some (.slice A1_2 l1_2.length c1_2) := (blk_cell BKHs.out 2).trans rfl; have hfz38_0 := blk_frozen BKHs.out 0; have hfz38_1 := blk_frozen BKHs.out 1; have hfz38_2 := blk_frozen BKHs.out 2) | ((with_reducible refine gate_callee (f := 36) rfl ?_); refine goesL_ (some 46) rfl rfl Try.func36 (by kernel_rfl) rfl #[.agg #[.int .i64 a1_0, .int .i64 a1_1, .slice A1_2 l1_2.length c1_2], .int .i64 a2, .int .i64 a3] rfl (by (try simp only [List.map_toArray, List.map_cons, List.map_nil]); first | done | rfl | (simp only [List.length_drop, List.length_take]; rfl)) ?_; (with_reducible refine (curve_Conj.calls k a1_0 a1_1 _ _ l1_2 a2 a3 t1137 t1138 t1139 t1142 _ ?side1 ?side2 A9.out).mono ?_); (case side1 => exact Kd.C_below HR1_2.out (by repeat (first | (with_reducible first | exact HB.out | apply zW | apply zX | apply zY | refine zS ?_ GEHr.out | refine zS ?_ GEHs.out | refine zS ?_ GEHz.out | refine zS ?_ GEID.out | refine zS ?_ GEIK.out) | exact HB.out))); (case side2 => exact HC1_2.out); rintro e w39 ⟨v1140, rfl, ho0, hb⟩; refine ⟨_, rfl, ?_⟩; have n0_ := zA (Kd.R_elder' (by (with_reducible repeat (first | apply Kd.R_alloc | apply Kd.R_drewN | apply Kd.R_drew)); exact (Kd.R_mono (Kd.R_far (p := ⟨gE, 2, none⟩) (Kd.R_far (p := ⟨gE, 1, none⟩) (Kd.R_far (p := ⟨gE, 0, none⟩) (Kd.R_types HOHx.out BKIK.out (by decide)) (fun _ hk => hk.2) (.int .i64 t1130)) (fun _ hk => hk.2) (.int .i64 t1131)) (fun _ hk => hk.2) (.slice Ao37 t1132.length co37)) (fun _ h_ => h_.1))) (Kd.R_base ho0) hb); have n1_ := zA (Kd.R_elder' (by (with_reducible repeat (first | apply Kd.R_alloc | apply Kd.R_drewN | apply Kd.R_drew)); exact (Kd.R_mono (Kd.R_far (p := ⟨gE, 2, none⟩) (Kd.R_far (p := ⟨gE, 1, none⟩) (Kd.R_far (p := ⟨gE, 0, none⟩) (Kd.R_types HOIB.out BKIK.out (by decide)) (fun _ hk => hk.2) (.int .i64 t1130)) (fun _ hk => hk.2) (.int .i64 t1131)) (fun _ hk => hk.2) (.slice Ao37 t1132.length co37)) (fun _ h_ => h_.1))) (Kd.R_base ho0) hb); have n2_ := zA (Kd.R_elder' (by (with_reducible repeat (first | apply Kd.R_alloc | apply Kd.R_drewN | apply Kd.R_drew)); exact (Kd.R_mono (Kd.R_far (p := ⟨gE, 2, none⟩) (Kd.R_far (p := ⟨gE, 1, none⟩) (Kd.R_far (p := ⟨gE, 0, none⟩) (Kd.R_types HOII.out BKIK.out (by decide)) (fun _ hk => hk.2) (.int .i64 t1130)) (fun _ hk => hk.2) (.int .i64 t1131)) (fun _ hk => hk.2) (.slice Ao37 t1132.length co37)) (fun _ h_ => h_.1))) (Kd.R_base ho0) hb); have n3_ := zA (Kd.R_lower (Kd.R_new' (Kd.R_new' (Kd.R_new' ho0 (Kd.R_lt (by (with_reducible repeat (first | apply Kd.R_alloc | apply Kd.R_drewN | apply Kd.R_drew)); exact (Kd.R_mono (Kd.R_far (p := ⟨gE, 2, none⟩) (Kd.R_far (p := ⟨gE, 1, none⟩) (Kd.R_far (p := ⟨gE, 0, none⟩) (Kd.R_types HOHx.out BKIK.out (by decide)) (fun _ hk => hk.2) (.int .i64 t1130)) (fun _ hk => hk.2) (.int .i64 t1131)) (fun _ hk => hk.2) (.slice Ao37 t1132.length co37)) (fun _ h_ => h_.1))))) (Kd.R_lt (by (with_reducible repeat (first | apply Kd.R_alloc | apply Kd.R_drewN | apply Kd.R_drew)); exact (Kd.R_mono (Kd.R_far (p := ⟨gE, 2, none⟩) (Kd.R_far (p := ⟨gE, 1, none⟩) (Kd.R_far (p := ⟨gE, 0, none⟩) (Kd.R_types HOIB.out BKIK.out (by decide)) (fun _ hk => hk.2) (.int .i64 t1130)) (fun _ hk => hk.2) (.int .i64 t1131)) (fun _ hk => hk.2) (.slice Ao37 t1132.length co37)) (fun _ h_ => h_.1))))) (Kd.R_lt (by (with_reducible repeat (first | apply Kd.R_alloc | apply Kd.R_drewN | apply Kd.R_drew)); exact (Kd.R_mono (Kd.R_far (p := ⟨gE, 2, none⟩) (Kd.R_far (p := ⟨gE, 1, none⟩) (Kd.R_far (p := ⟨gE, 0, none⟩) (Kd.R_types HOII.out BKIK.out (by decide)) (fun _ hk => hk.2) (.int .i64 t1130)) (fun _ hk => hk.2) (.int .i64 t1131)) (fun _ hk => hk.2) (.slice Ao37 t1132.length co37)) (fun _ h_ => h_.1))))) (below_size (by repeat (first | (with_reducible first | exact HB.out | apply zW | apply zX | apply zY | refine zS ?_ GEHr.out | refine zS ?_ GEHs.out | refine zS ?_ GEHz.out | refine zS ?_ GEID.out | refine zS ?_ GEIK.out) | exact HB.out)))); have n4_ := zA (blk_below (g := gA) (o := .cells #[.int .i64 a0_0, .int .i64 a0_1, .slice A0_2 l0_2.length c0_2] 24 (0, 0)) (by (with_reducible repeat (first | refine zN ?_ _ | refine zD ?_ | refine zB ?_ _)); refine blk_far ?_ NB1107_1136.out _; (with_reducible repeat (first | refine zN ?_ _ | refine zD ?_ | refine zB ?_ _)); refine blk_far ?_ NB1107_1136.out _; (with_reducible repeat (first | refine zN ?_ _ | refine zD ?_ | refine zB ?_ _)); refine blk_far ?_ NB1107_1136.out _; (with_reducible repeat (first | refine zN ?_ _ | refine zD ?_ | refine zB ?_ _)); exact BKHr.out) hb); have n5_ := zA (blk_below (g := gB) (o := .cells #[.int .i64 a1_0, .int .i64 a1_1, .slice A1_2 l1_2.length c1_2] 24 (0, 0)) (by (with_reducible repeat (first | refine zN ?_ _ | refine zD ?_ | refine zB ?_ _)); refine blk_far ?_ NB1108_1136.out _; (with_reducible repeat (first | refine zN ?_ _ | refine zD ?_ | refine zB ?_ _)); refine blk_far ?_ NB1108_1136.out _; (with_reducible repeat (first | refine zN ?_ _ | refine zD ?_ | refine zB ?_ _)); refine blk_far ?_ NB1108_1136.out _; (with_reducible repeat (first | refine zN ?_ _ | refine zD ?_ | refine zB ?_ _)); exact BKHs.out) hb); have n6_ := zA (blk_below (g := gC) (o := .cells #[.int .i64 t1109, .int .i64 t1110, .slice Ao21 t1111.length co21] 24 (0, 0)) (by (with_reducible repeat (first | refine zN ?_ _ | refine zD ?_ | refine zB ?_ _)); refine blk_far ?_ NB1115_1136.out _; (with_reducible repeat (first | refine zN ?_ _ | refine zD ?_ | refine zB ?_ _)); refine blk_far ?_ NB1115_1136.out _; (with_reducible repeat (first | refine zN ?_ _ | refine zD ?_ | refine zB ?_ _)); refine blk_far ?_ NB1115_1136.out _; (with_reducible repeat (first | refine zN ?_ _ | refine zD ?_ | refine zB ?_ _)); exact BKHz.out) hb); have n7_ := zA (blk_below (g := gD) (o := .cells #[.int .i64 t1123, .int .i64 t1124, .slice Ao28 t1125.length co28] 24 (0, 0)) (by (with_reducible repeat (first | refine zN ?_ _ | refine zD ?_ | refine zB ?_ _)); refine blk_far ?_ NB1129_1136.out _; (with_reducible repeat (first | refine zN ?_ _ | refine zD ?_ | refine zB ?_ _)); refine blk_far ?_ NB1129_1136.out _; (with_reducible repeat (first | refine zN ?_ _ | refine zD ?_ | refine zB ?_ _)); refine blk_far ?_ NB1129_1136.out _; (with_reducible repeat (first | refine zN ?_ _ | refine zD ?_ | refine zB ?_ _)); exact BKID.out) hb); have n8_ := zA (blk_below (g := gE) (o := .cells #[.int .i64 t1130, .int .i64 t1131, .slice Ao37 t1132.length co37] 24 (0, 0)) (by (with_reducible repeat (first | refine zN ?_ _ | refine zD ?_ | refine zB ?_ _)); refine blk_put (cs := #[.int .i64 t1130, .int .i64 t1131, .slice none 0 0]) ?_ 2 _ rfl; (with_reducible repeat (first | refine zN ?_ _ | refine zD ?_ | refine zB ?_ _)); refine blk_put (cs := #[.int .i64 t1130, .int .i64 0, .slice none 0 0]) ?_ 1 _ rfl; (with_reducible repeat (first | refine zN ?_ _ | refine zD ?_ | refine zB ?_ _)); refine blk_put (cs := #[.int .i64 0, .int .i64 0, .slice none 0 0]) ?_ 0 _ rfl; (with_reducible repeat (first | refine zN ?_ _ | refine zD ?_ | refine zB ?_ _)); exact BKIK.out) hb); have n9_ := zA (below_step (by repeat (first | (with_reducible first | exact HB.out | apply zW | apply zX | apply zY | refine zS ?_ GEHr.out | refine zS ?_ GEHs.out | refine zS ?_ GEHz.out | refine zS ?_ GEID.out | refine zS ?_ GEIK.out) | exact HB.out)) hb); clear HOHx; clear HOIB; clear HOII; clear BKHr; clear BKHs; clear BKHz; clear BKID; clear BKIK; clear HB; have HOHx := n0_; have HOIB := n1_; have HOII := n2_; have HOIP := n3_; have BKHr := n4_; have BKHs := n5_; have BKHz := n6_; have BKID := n7_; have BKIK := n8_; have HB := n9_; clear n0_ n1_ n2_ n3_ n4_ n5_ n6_ n7_ n8_ n9_; (try clear hb); (try clear hb2); (try clear hk); (try clear hi); (try clear ho0)) | ((with_reducible refine gate_dst (N := 15) rfl ?_); refine box_event ?hg (N := 15) ?hd (cs := #[.int .i64 0, .int .i64 0, .slice none 0 0]) (t := 24) ?hr ?_; (case hd => rfl); (case hg => rfl); (case hr => first | (go_simp; done) | (go_simp; rfl)); intro gF hg w40 hbox hb; have n0_ := zA (Kd.R_below (by (with_reducible repeat (first | apply Kd.R_alloc | apply Kd.R_drewN | apply Kd.R_drew)); exact HOHx.out) hb); have n1_ := zA (Kd.R_below (by (with_reducible repeat (first | apply Kd.R_alloc | apply Kd.R_drewN | apply Kd.R_drew)); exact HOIB.out) hb); have n2_ := zA (Kd.R_below (by (with_reducible repeat (first | apply Kd.R_alloc | apply Kd.R_drewN | apply Kd.R_drew)); exact HOII.out) hb); have n3_ := zA (Kd.R_below (by (with_reducible repeat (first | apply Kd.R_alloc | apply Kd.R_drewN | apply Kd.R_drew)); exact HOIP.out) hb); have n4_ := zA (blk_below (g := gA) (o := .cells #[.int .i64 a0_0, .int .i64 a0_1, .slice A0_2 l0_2.length c0_2] 24 (0, 0)) (by (with_reducible repeat (first | refine zN ?_ _ | refine zD ?_ | refine zB ?_ _)); exact BKHr.out) hb); have n5_ := zA (blk_below (g := gB) (o := .cells #[.int .i64 a1_0, .int .i64 a1_1, .slice A1_2 l1_2.length c1_2] 24 (0, 0)) (by (with_reducible repeat (first | refine zN ?_ _ | refine zD ?_ | refine zB ?_ _)); exact BKHs.out) hb); have n6_ := zA (blk_below (g := gC) (o := .cells #[.int .i64 t1109, .int .i64 t1110, .slice Ao21 t1111.length co21] 24 (0, 0)) (by (with_reducible repeat (first | refine zN ?_ _ | refine zD ?_ | refine zB ?_ _)); exact BKHz.out) hb); have n7_ := zA (blk_below (g := gD) (o := .cells #[.int .i64 t1123, .int .i64 t1124, .slice Ao28 t1125.length co28] 24 (0, 0)) (by (with_reducible repeat (first | refine zN ?_ _ | refine zD ?_ | refine zB ?_ _)); exact BKID.out) hb); have n8_ := zA (blk_below (g := gE) (o := .cells #[.int .i64 t1130, .int .i64 t1131, .slice Ao37 t1132.length co37] 24 (0, 0)) (by (with_reducible repeat (first | refine zN ?_ _ | refine zD ?_ | refine zB ?_ _)); exact BKIK.out) hb); have n9_ := zA (below_step (by repeat (first | (with_reducible first | exact HB.out | apply zW | apply zX | apply zY | refine zS ?_ GEHr.out | refine zS ?_ GEHs.out | refine zS ?_ GEHz.out | refine zS ?_ GEID.out | refine zS ?_ GEIK.out) | exact HB.out)) hb); have n10_ := zA (hbox); have n11_ := zA ((by rw [hg]; exact (below_size (by repeat (first | (with_reducible first | exact HB.out | apply zW | apply zX | apply zY | refine zS ?_ GEHr.out | refine zS ?_ GEHs.out | refine zS ?_ GEHz.out | refine zS ?_ GEID.out | refine zS ?_ GEIK.out) | exact HB.out))) : w.heap.size ≤ gF)); have n12_ := zA ((by rw [hg]; exact (below_size (by repeat (first | (with_reducible first | exact HB.out | apply zW | apply zX | apply zY | refine zS ?_ GEHr.out | refine zS ?_ GEHs.out | refine zS ?_ GEHz.out | refine zS ?_ GEID.out | refine zS ?_ GEIK.out) | exact HB.out))) : w.heap.size ≤ gF)); have n13_ := zA ((by rw [hg]; exact Nat.ne_of_lt (blk_lt (g := gA) (o := .cells #[.int .i64 a0_0, .int .i64 a0_1, .slice A0_2 l0_2.length c0_2] 24 (0, 0)) (by (with_reducible repeat (first | refine zN ?_ _ | refine zD ?_ | refine zB ?_ _)); exact BKHr.out)) : gA ≠ gF)); have n14_ := zA ((by rw [hg]; exact Nat.ne_of_gt (blk_lt (g := gA) (o := .cells #[.int .i64 a0_0, .int .i64 a0_1, .slice A0_2 l0_2.length c0_2] 24 (0, 0)) (by (with_reducible repeat (first | refine zN ?_ _ | refine zD ?_ | refine zB ?_ _)); exact BKHr.out)) : gF ≠ gA)); have n15_ := zA ((by rw [hg]; exact Nat.ne_of_lt (blk_lt (g := gB) (o := .cells #[.int .i64 a1_0, .int .i64 a1_1, .slice A1_2 l1_2.length c1_2] 24 (0, 0)) (by (with_reducible repeat (first | refine zN ?_ _ | refine zD ?_ | refine zB ?_ _)); exact BKHs.out)) : gB ≠ gF)); have n16_ := zA ((by rw [hg]; exact Nat.ne_of_gt (blk_lt (g := gB) (o := .cells #[.int .i64 a1_0, .int .i64 a1_1, .slice A1_2 l1_2.length c1_2] 24 (0, 0)) (by (with_reducible repeat (first | refine zN ?_ _ | refine zD ?_ | refine zB ?_ _)); exact BKHs.out)) : gF ≠ gB)); have n17_ := zA ((by rw [hg]; exact Nat.ne_of_lt (blk_lt (g := gC) (o := .cells #[.int .i64 t1109, .int .i64 t1110, .slice Ao21 t1111.length co21] 24 (0, 0)) (by (with_reducible repeat (first | refine zN ?_ _ | refine zD ?_ | refine zB ?_ _)); exact BKHz.out)) : gC ≠ gF)); have n18_ := zA ((by rw [hg]; exact Nat.ne_of_gt (blk_lt (g := gC) (o := .cells #[.int .i64 t1109, .int .i64 t1110, .slice Ao21 t1111.length co21] 24 (0, 0)) (by (with_reducible repeat (first | refine zN ?_ _ | refine zD ?_ | refine zB ?_ _)); exact BKHz.out)) : gF ≠ gC)); have n19_ := zA ((by rw [hg]; exact Nat.ne_of_lt (blk_lt (g := gD) (o := .cells #[.int .i64 t1123, .int .i64 t1124, .slice Ao28 t1125.length co28] 24 (0, 0)) (by (with_reducible repeat (first | refine zN ?_ _ | refine zD ?_ | refine zB ?_ _)); exact BKID.out)) : gD ≠ gF)); have n20_ := zA ((by rw [hg]; exact Nat.ne_of_gt (blk_lt (g := gD) (o := .cells #[.int .i64 t1123, .int .i64 t1124, .slice Ao28 t1125.length co28] 24 (0, 0)) (by (with_reducible repeat (first | refine zN ?_ _ | refine zD ?_ | refine zB ?_ _)); exact BKID.out)) : gF ≠ gD)); have n21_ := zA ((by rw [hg]; exact Nat.ne_of_lt (blk_lt (g := gE) (o := .cells #[.int .i64 t1130, .int .i64 t1131, .slice Ao37 t1132.length co37] 24 (0, 0)) (by (with_reducible repeat (first | refine zN ?_ _ | refine zD ?_ | refine zB ?_ _)); exact BKIK.out)) : gE ≠ gF)); have n22_ := zA ((by rw [hg]; exact Nat.ne_of_gt (blk_lt (g := gE) (o := .cells #[.int .i64 t1130, .int .i64 t1131, .slice Ao37 t1132.length co37] 24 (0, 0)) (by (with_reducible repeat (first | refine zN ?_ _ | refine zD ?_ | refine zB ?_ _)); exact BKIK.out)) : gF ≠ gE)); clear HOHx; clear HOIB; clear HOII; clear HOIP; clear BKHr; clear BKHs; clear BKHz; clear BKID; clear BKIK; clear HB; have HOHx := n0_; have HOIB := n1_; have HOII := n2_; have HOIP := n3_; have BKHr := n4_; have BKHs := n5_; have BKHz := n6_; have BKID := n7_; have BKIK := n8_; have HB := n9_; have BKIR := n10_; have GWIR := n11_; have GEIR := n12_; have NB1107_1143 := n13_; have NB1143_1107 := n14_; have NB1108_1143 := n15_; have NB1143_1108 := n16_; have NB1115_1143 := n17_; have NB1143_1115 := n18_; have NB1129_1143 := n19_; have NB1143_1129 := n20_; have NB1136_1143 := n21_; have NB1143_1136 := n22_; clear n0_ n1_ n2_ n3_ n4_ n5_ n6_ n7_ n8_ n9_ n10_ n11_ n12_ n13_ n14_ n15_ n16_ n17_ n18_ n19_ n20_ n21_ n22_; clear hb hbox hg; have hnb41 := NB1143_1107.out; have hnc41 := NB1107_1143.out; have hnb42 := NB1143_1108.out; have hnc42 := NB1108_1143.out; have hnb43 := NB1143_1115.out; have hnc43 := NB1115_1143.out; have hnb44 := NB1143_1129.out; have hnc44 := NB1129_1143.out; have hnb45 := NB1143_1136.out; have hnc45 := NB1136_1143.out; have hcz46_0 : w40.cell? ⟨gF, 0, none⟩ = some (.int .i64 0) := (blk_cell BKIR.out 0).trans rfl; have hcz46_1 : w40.cell? ⟨gF, 1, none⟩ = some (.int .i64 0) := (blk_cell BKIR.out 1).trans rfl; have hcz46_2 : w40.cell? ⟨gF, 2, none⟩ = some (.slice none 0 0) := (blk_cell BKIR.out 2).trans rfl; have hfz46_0 := blk_frozen BKIR.out 0; have hfz46_1 := blk_frozen BKIR.out 1; have hfz46_2 := blk_frozen BKIR.out 2; obtain ⟨Ao47, co47, eo47⟩ := Kd.R_slice HOIP.out; subst eo47))
  (try simp only [Act.put, z1, z2, z3])
  go_cut [58] (fun v58 wc => ∃ (kq : Nat) (x58_9 : Bool), v58 = .bool x58_9 ∧ Aside0 (kimberlitelaw03_CurveDual.j0 kq x58_9 t1123 t1124 t1125 t1130 t1131 t1132 t1137 t1138 t1139 = some r) ∧ Aside0 (kq ≤ k) ∧ Aside0 (Kd.R (Kd.int .i64) 3 wc w.heap.size (fun k_ => some k_ ≠ ((.slice Ao28 t1125.length co28) : Value).ownBlock ∧ some k_ ≠ ((.slice Ao37 t1132.length co37) : Value).ownBlock ∧ some k_ ≠ ((.slice Ao47 t1139.length co47) : Value).ownBlock) (.slice Ao21 t1111.length co21) t1111) ∧ Aside0 (Kd.R (Kd.int .i64) 3 wc w.heap.size (fun k_ => some k_ ≠ ((.slice Ao21 t1111.length co21) : Value).ownBlock ∧ some k_ ≠ ((.slice Ao37 t1132.length co37) : Value).ownBlock ∧ some k_ ≠ ((.slice Ao47 t1139.length co47) : Value).ownBlock) (.slice Ao28 t1125.length co28) t1125) ∧ Aside0 (Kd.R (Kd.int .i64) 3 wc w.heap.size (fun k_ => some k_ ≠ ((.slice Ao21 t1111.length co21) : Value).ownBlock ∧ some k_ ≠ ((.slice Ao28 t1125.length co28) : Value).ownBlock ∧ some k_ ≠ ((.slice Ao47 t1139.length co47) : Value).ownBlock) (.slice Ao37 t1132.length co37) t1132) ∧ Aside0 (Kd.R (Kd.int .i64) 3 wc w.heap.size (fun k_ => some k_ ≠ ((.slice Ao21 t1111.length co21) : Value).ownBlock ∧ some k_ ≠ ((.slice Ao28 t1125.length co28) : Value).ownBlock ∧ some k_ ≠ ((.slice Ao37 t1132.length co37) : Value).ownBlock) (.slice Ao47 t1139.length co47) t1139) ∧ Aside0 (wc.heap[gA]? = some (.cells #[.int .i64 a0_0, .int .i64 a0_1, (.slice A0_2 l0_2.length c0_2)] 24 (0, 0))) ∧ Aside0 (wc.heap[gB]? = some (.cells #[.int .i64 a1_0, .int .i64 a1_1, (.slice A1_2 l1_2.length c1_2)] 24 (0, 0))) ∧ Aside0 (wc.heap[gC]? = some (.cells #[.int .i64 t1109, .int .i64 t1110, (.slice Ao21 t1111.length co21)] 24 (0, 0))) ∧ Aside0 (wc.heap[gD]? = some (.cells #[.int .i64 t1123, .int .i64 t1124, (.slice Ao28 t1125.length co28)] 24 (0, 0))) ∧ Aside0 (wc.heap[gE]? = some (.cells #[.int .i64 t1130, .int .i64 t1131, (.slice Ao37 t1132.length co37)] 24 (0, 0))) ∧ Aside0 (wc.heap[gF]? = some (.cells #[.int .i64 t1137, .int .i64 t1138, (.slice Ao47 t1139.length co47)] 24 (0, 0))) ∧ Aside0 (Below w.heap.size w wc))
  case first =>
   have H := HC10.out
   clear HC10
   by_cases c48 : t1128 = 0
   ·
    rw [if_pos c48] at H
    have c48b0 : (t1128 == 0) = true := beq_iff_eq.mpr c48
    have c48b1 : (t1128 != 0) = false := bne_eq_false_iff_eq.mpr c48
    clear c48
    (first | rw [c48b0] | (simp only [i64_w, i32_w]; rw [c48b0]) | skip)
    by_cases c49 : t1135 = 0
    ·
     rw [if_pos c49] at H
     have c49b0 : (t1135 == 0) = true := beq_iff_eq.mpr c49
     have c49b1 : (t1135 != 0) = false := bne_eq_false_iff_eq.mpr c49
     clear c49
     have H' := zA H
     clear H
     go_wp2
     go_meet
     case rel => exact ⟨_, ((t1142 != 0)), (by first | rfl | (simp; done) | (simp [*]; done)), H', ⟨by first | omega | exact Nat.le_refl _⟩, ⟨by (with_reducible repeat (first | apply Kd.R_alloc | apply Kd.R_drewN | apply Kd.R_drew)); exact Kd.R_mono (Kd.R_far (p := ⟨gF, 2, none⟩) (Kd.R_far (p := ⟨gF, 1, none⟩) (Kd.R_far (p := ⟨gF, 0, none⟩) (Kd.R_types HOHx.out BKIR.out (by decide)) (fun _ hk => hk.2) (.int .i64 t1137)) (fun _ hk => hk.2) (.int .i64 t1138)) (fun _ hk => hk.2) (.slice Ao47 t1139.length co47)) (fun _ hk => ⟨hk.1.1.1.2, ⟨hk.1.1.2, hk.1.2⟩⟩)⟩, ⟨by (with_reducible repeat (first | apply Kd.R_alloc | apply Kd.R_drewN | apply Kd.R_drew)); exact Kd.R_mono (Kd.R_far (p := ⟨gF, 2, none⟩) (Kd.R_far (p := ⟨gF, 1, none⟩) (Kd.R_far (p := ⟨gF, 0, none⟩) (Kd.R_types HOIB.out BKIR.out (by decide)) (fun _ hk => hk.2) (.int .i64 t1137)) (fun _ hk => hk.2) (.int .i64 t1138)) (fun _ hk => hk.2) (.slice Ao47 t1139.length co47)) (fun _ hk => ⟨hk.1.1.1.2, ⟨hk.1.1.2, hk.1.2⟩⟩)⟩, ⟨by (with_reducible repeat (first | apply Kd.R_alloc | apply Kd.R_drewN | apply Kd.R_drew)); exact Kd.R_mono (Kd.R_far (p := ⟨gF, 2, none⟩) (Kd.R_far (p := ⟨gF, 1, none⟩) (Kd.R_far (p := ⟨gF, 0, none⟩) (Kd.R_types HOII.out BKIR.out (by decide)) (fun _ hk => hk.2) (.int .i64 t1137)) (fun _ hk => hk.2) (.int .i64 t1138)) (fun _ hk => hk.2) (.slice Ao47 t1139.length co47)) (fun _ hk => ⟨hk.1.1.1.2, ⟨hk.1.1.2, hk.1.2⟩⟩)⟩, ⟨by (with_reducible repeat (first | apply Kd.R_alloc | apply Kd.R_drewN | apply Kd.R_drew)); exact Kd.R_mono (Kd.R_far (p := ⟨gF, 2, none⟩) (Kd.R_far (p := ⟨gF, 1, none⟩) (Kd.R_far (p := ⟨gF, 0, none⟩) (Kd.R_types HOIP.out BKIR.out (by decide)) (fun _ hk => hk.2) (.int .i64 t1137)) (fun _ hk => hk.2) (.int .i64 t1138)) (fun _ hk => hk.2) (.slice Ao47 t1139.length co47)) (fun _ hk => ⟨hk.1.1.1.2, ⟨hk.1.1.2, hk.1.2⟩⟩)⟩, ⟨by (with_reducible repeat (first | refine zN ?_ _ | refine zD ?_ | refine zB ?_ _)); refine blk_far ?_ NB1107_1143.out _; (with_reducible repeat (first | refine zN ?_ _ | refine zD ?_ | refine zB ?_ _)); refine blk_far ?_ NB1107_1143.out _; (with_reducible repeat (first | refine zN ?_ _ | refine zD ?_ | refine zB ?_ _)); refine blk_far ?_ NB1107_1143.out _; (with_reducible repeat (first | refine zN ?_ _ | refine zD ?_ | refine zB ?_ _)); exact BKHr.out⟩, ⟨by (with_reducible repeat (first | refine zN ?_ _ | refine zD ?_ | refine zB ?_ _)); refine blk_far ?_ NB1108_1143.out _; (with_reducible repeat (first | refine zN ?_ _ | refine zD ?_ | refine zB ?_ _)); refine blk_far ?_ NB1108_1143.out _; (with_reducible repeat (first | refine zN ?_ _ | refine zD ?_ | refine zB ?_ _)); refine blk_far ?_ NB1108_1143.out _; (with_reducible repeat (first | refine zN ?_ _ | refine zD ?_ | refine zB ?_ _)); exact BKHs.out⟩, ⟨by (with_reducible repeat (first | refine zN ?_ _ | refine zD ?_ | refine zB ?_ _)); refine blk_far ?_ NB1115_1143.out _; (with_reducible repeat (first | refine zN ?_ _ | refine zD ?_ | refine zB ?_ _)); refine blk_far ?_ NB1115_1143.out _; (with_reducible repeat (first | refine zN ?_ _ | refine zD ?_ | refine zB ?_ _)); refine blk_far ?_ NB1115_1143.out _; (with_reducible repeat (first | refine zN ?_ _ | refine zD ?_ | refine zB ?_ _)); exact BKHz.out⟩, ⟨by (with_reducible repeat (first | refine zN ?_ _ | refine zD ?_ | refine zB ?_ _)); refine blk_far ?_ NB1129_1143.out _; (with_reducible repeat (first | refine zN ?_ _ | refine zD ?_ | refine zB ?_ _)); refine blk_far ?_ NB1129_1143.out _; (with_reducible repeat (first | refine zN ?_ _ | refine zD ?_ | refine zB ?_ _)); refine blk_far ?_ NB1129_1143.out _; (with_reducible repeat (first | refine zN ?_ _ | refine zD ?_ | refine zB ?_ _)); exact BKID.out⟩, ⟨by (with_reducible repeat (first | refine zN ?_ _ | refine zD ?_ | refine zB ?_ _)); refine blk_far ?_ NB1136_1143.out _; (with_reducible repeat (first | refine zN ?_ _ | refine zD ?_ | refine zB ?_ _)); refine blk_far ?_ NB1136_1143.out _; (with_reducible repeat (first | refine zN ?_ _ | refine zD ?_ | refine zB ?_ _)); refine blk_far ?_ NB1136_1143.out _; (with_reducible repeat (first | refine zN ?_ _ | refine zD ?_ | refine zB ?_ _)); exact BKIK.out⟩, ⟨by (with_reducible repeat (first | refine zN ?_ _ | refine zD ?_ | refine zB ?_ _)); refine blk_put (cs := #[.int .i64 t1137, .int .i64 t1138, .slice none 0 0]) ?_ 2 _ rfl; (with_reducible repeat (first | refine zN ?_ _ | refine zD ?_ | refine zB ?_ _)); refine blk_put (cs := #[.int .i64 t1137, .int .i64 0, .slice none 0 0]) ?_ 1 _ rfl; (with_reducible repeat (first | refine zN ?_ _ | refine zD ?_ | refine zB ?_ _)); refine blk_put (cs := #[.int .i64 0, .int .i64 0, .slice none 0 0]) ?_ 0 _ rfl; (with_reducible repeat (first | refine zN ?_ _ | refine zD ?_ | refine zB ?_ _)); exact BKIR.out⟩, ⟨by repeat (first | (with_reducible first | exact HB.out | apply zW | apply zX | apply zY | refine zS ?_ GEHr.out | refine zS ?_ GEHs.out | refine zS ?_ GEHz.out | refine zS ?_ GEID.out | refine zS ?_ GEIK.out | refine zS ?_ GEIR.out) | exact HB.out)⟩⟩
    ·
     rw [if_neg c49] at H
     have c49b0 : (t1135 == 0) = false := beq_eq_false_iff_ne.mpr c49
     have c49b1 : (t1135 != 0) = true := bne_iff_ne.mpr c49
     have H' := zA H
     clear H
     go_wp2
     go_meet
     case rel => exact ⟨_, (true), (by first | rfl | (simp; done) | (simp [*]; done)), H', ⟨by first | omega | exact Nat.le_refl _⟩, ⟨by (with_reducible repeat (first | apply Kd.R_alloc | apply Kd.R_drewN | apply Kd.R_drew)); exact Kd.R_mono (Kd.R_far (p := ⟨gF, 2, none⟩) (Kd.R_far (p := ⟨gF, 1, none⟩) (Kd.R_far (p := ⟨gF, 0, none⟩) (Kd.R_types HOHx.out BKIR.out (by decide)) (fun _ hk => hk.2) (.int .i64 t1137)) (fun _ hk => hk.2) (.int .i64 t1138)) (fun _ hk => hk.2) (.slice Ao47 t1139.length co47)) (fun _ hk => ⟨hk.1.1.1.2, ⟨hk.1.1.2, hk.1.2⟩⟩)⟩, ⟨by (with_reducible repeat (first | apply Kd.R_alloc | apply Kd.R_drewN | apply Kd.R_drew)); exact Kd.R_mono (Kd.R_far (p := ⟨gF, 2, none⟩) (Kd.R_far (p := ⟨gF, 1, none⟩) (Kd.R_far (p := ⟨gF, 0, none⟩) (Kd.R_types HOIB.out BKIR.out (by decide)) (fun _ hk => hk.2) (.int .i64 t1137)) (fun _ hk => hk.2) (.int .i64 t1138)) (fun _ hk => hk.2) (.slice Ao47 t1139.length co47)) (fun _ hk => ⟨hk.1.1.1.2, ⟨hk.1.1.2, hk.1.2⟩⟩)⟩, ⟨by (with_reducible repeat (first | apply Kd.R_alloc | apply Kd.R_drewN | apply Kd.R_drew)); exact Kd.R_mono (Kd.R_far (p := ⟨gF, 2, none⟩) (Kd.R_far (p := ⟨gF, 1, none⟩) (Kd.R_far (p := ⟨gF, 0, none⟩) (Kd.R_types HOII.out BKIR.out (by decide)) (fun _ hk => hk.2) (.int .i64 t1137)) (fun _ hk => hk.2) (.int .i64 t1138)) (fun _ hk => hk.2) (.slice Ao47 t1139.length co47)) (fun _ hk => ⟨hk.1.1.1.2, ⟨hk.1.1.2, hk.1.2⟩⟩)⟩, ⟨by (with_reducible repeat (first | apply Kd.R_alloc | apply Kd.R_drewN | apply Kd.R_drew)); exact Kd.R_mono (Kd.R_far (p := ⟨gF, 2, none⟩) (Kd.R_far (p := ⟨gF, 1, none⟩) (Kd.R_far (p := ⟨gF, 0, none⟩) (Kd.R_types HOIP.out BKIR.out (by decide)) (fun _ hk => hk.2) (.int .i64 t1137)) (fun _ hk => hk.2) (.int .i64 t1138)) (fun _ hk => hk.2) (.slice Ao47 t1139.length co47)) (fun _ hk => ⟨hk.1.1.1.2, ⟨hk.1.1.2, hk.1.2⟩⟩)⟩, ⟨by (with_reducible repeat (first | refine zN ?_ _ | refine zD ?_ | refine zB ?_ _)); refine blk_far ?_ NB1107_1143.out _; (with_reducible repeat (first | refine zN ?_ _ | refine zD ?_ | refine zB ?_ _)); refine blk_far ?_ NB1107_1143.out _; (with_reducible repeat (first | refine zN ?_ _ | refine zD ?_ | refine zB ?_ _)); refine blk_far ?_ NB1107_1143.out _; (with_reducible repeat (first | refine zN ?_ _ | refine zD ?_ | refine zB ?_ _)); exact BKHr.out⟩, ⟨by (with_reducible repeat (first | refine zN ?_ _ | refine zD ?_ | refine zB ?_ _)); refine blk_far ?_ NB1108_1143.out _; (with_reducible repeat (first | refine zN ?_ _ | refine zD ?_ | refine zB ?_ _)); refine blk_far ?_ NB1108_1143.out _; (with_reducible repeat (first | refine zN ?_ _ | refine zD ?_ | refine zB ?_ _)); refine blk_far ?_ NB1108_1143.out _; (with_reducible repeat (first | refine zN ?_ _ | refine zD ?_ | refine zB ?_ _)); exact BKHs.out⟩, ⟨by (with_reducible repeat (first | refine zN ?_ _ | refine zD ?_ | refine zB ?_ _)); refine blk_far ?_ NB1115_1143.out _; (with_reducible repeat (first | refine zN ?_ _ | refine zD ?_ | refine zB ?_ _)); refine blk_far ?_ NB1115_1143.out _; (with_reducible repeat (first | refine zN ?_ _ | refine zD ?_ | refine zB ?_ _)); refine blk_far ?_ NB1115_1143.out _; (with_reducible repeat (first | refine zN ?_ _ | refine zD ?_ | refine zB ?_ _)); exact BKHz.out⟩, ⟨by (with_reducible repeat (first | refine zN ?_ _ | refine zD ?_ | refine zB ?_ _)); refine blk_far ?_ NB1129_1143.out _; (with_reducible repeat (first | refine zN ?_ _ | refine zD ?_ | refine zB ?_ _)); refine blk_far ?_ NB1129_1143.out _; (with_reducible repeat (first | refine zN ?_ _ | refine zD ?_ | refine zB ?_ _)); refine blk_far ?_ NB1129_1143.out _; (with_reducible repeat (first | refine zN ?_ _ | refine zD ?_ | refine zB ?_ _)); exact BKID.out⟩, ⟨by (with_reducible repeat (first | refine zN ?_ _ | refine zD ?_ | refine zB ?_ _)); refine blk_far ?_ NB1136_1143.out _; (with_reducible repeat (first | refine zN ?_ _ | refine zD ?_ | refine zB ?_ _)); refine blk_far ?_ NB1136_1143.out _; (with_reducible repeat (first | refine zN ?_ _ | refine zD ?_ | refine zB ?_ _)); refine blk_far ?_ NB1136_1143.out _; (with_reducible repeat (first | refine zN ?_ _ | refine zD ?_ | refine zB ?_ _)); exact BKIK.out⟩, ⟨by (with_reducible repeat (first | refine zN ?_ _ | refine zD ?_ | refine zB ?_ _)); refine blk_put (cs := #[.int .i64 t1137, .int .i64 t1138, .slice none 0 0]) ?_ 2 _ rfl; (with_reducible repeat (first | refine zN ?_ _ | refine zD ?_ | refine zB ?_ _)); refine blk_put (cs := #[.int .i64 t1137, .int .i64 0, .slice none 0 0]) ?_ 1 _ rfl; (with_reducible repeat (first | refine zN ?_ _ | refine zD ?_ | refine zB ?_ _)); refine blk_put (cs := #[.int .i64 0, .int .i64 0, .slice none 0 0]) ?_ 0 _ rfl; (with_reducible repeat (first | refine zN ?_ _ | refine zD ?_ | refine zB ?_ _)); exact BKIR.out⟩, ⟨by repeat (first | (with_reducible first | exact HB.out | apply zW | apply zX | apply zY | refine zS ?_ GEHr.out | refine zS ?_ GEHs.out | refine zS ?_ GEHz.out | refine zS ?_ GEID.out | refine zS ?_ GEIK.out | refine zS ?_ GEIR.out) | exact HB.out)⟩⟩
   ·
    rw [if_neg c48] at H
    have c48b0 : (t1128 == 0) = false := beq_eq_false_iff_ne.mpr c48
    have c48b1 : (t1128 != 0) = true := bne_iff_ne.mpr c48
    (first | rw [c48b0] | (simp only [i64_w, i32_w]; rw [c48b0]) | skip)
    have H' := zA H
    clear H
    go_wp2
    go_meet
    case rel => exact ⟨_, (true), (by first | rfl | (simp; done) | (simp [*]; done)), H', ⟨by first | omega | exact Nat.le_refl _⟩, ⟨by (with_reducible repeat (first | apply Kd.R_alloc | apply Kd.R_drewN | apply Kd.R_drew)); exact Kd.R_mono (Kd.R_far (p := ⟨gF, 2, none⟩) (Kd.R_far (p := ⟨gF, 1, none⟩) (Kd.R_far (p := ⟨gF, 0, none⟩) (Kd.R_types HOHx.out BKIR.out (by decide)) (fun _ hk => hk.2) (.int .i64 t1137)) (fun _ hk => hk.2) (.int .i64 t1138)) (fun _ hk => hk.2) (.slice Ao47 t1139.length co47)) (fun _ hk => ⟨hk.1.1.1.2, ⟨hk.1.1.2, hk.1.2⟩⟩)⟩, ⟨by (with_reducible repeat (first | apply Kd.R_alloc | apply Kd.R_drewN | apply Kd.R_drew)); exact Kd.R_mono (Kd.R_far (p := ⟨gF, 2, none⟩) (Kd.R_far (p := ⟨gF, 1, none⟩) (Kd.R_far (p := ⟨gF, 0, none⟩) (Kd.R_types HOIB.out BKIR.out (by decide)) (fun _ hk => hk.2) (.int .i64 t1137)) (fun _ hk => hk.2) (.int .i64 t1138)) (fun _ hk => hk.2) (.slice Ao47 t1139.length co47)) (fun _ hk => ⟨hk.1.1.1.2, ⟨hk.1.1.2, hk.1.2⟩⟩)⟩, ⟨by (with_reducible repeat (first | apply Kd.R_alloc | apply Kd.R_drewN | apply Kd.R_drew)); exact Kd.R_mono (Kd.R_far (p := ⟨gF, 2, none⟩) (Kd.R_far (p := ⟨gF, 1, none⟩) (Kd.R_far (p := ⟨gF, 0, none⟩) (Kd.R_types HOII.out BKIR.out (by decide)) (fun _ hk => hk.2) (.int .i64 t1137)) (fun _ hk => hk.2) (.int .i64 t1138)) (fun _ hk => hk.2) (.slice Ao47 t1139.length co47)) (fun _ hk => ⟨hk.1.1.1.2, ⟨hk.1.1.2, hk.1.2⟩⟩)⟩, ⟨by (with_reducible repeat (first | apply Kd.R_alloc | apply Kd.R_drewN | apply Kd.R_drew)); exact Kd.R_mono (Kd.R_far (p := ⟨gF, 2, none⟩) (Kd.R_far (p := ⟨gF, 1, none⟩) (Kd.R_far (p := ⟨gF, 0, none⟩) (Kd.R_types HOIP.out BKIR.out (by decide)) (fun _ hk => hk.2) (.int .i64 t1137)) (fun _ hk => hk.2) (.int .i64 t1138)) (fun _ hk => hk.2) (.slice Ao47 t1139.length co47)) (fun _ hk => ⟨hk.1.1.1.2, ⟨hk.1.1.2, hk.1.2⟩⟩)⟩, ⟨by (with_reducible repeat (first | refine zN ?_ _ | refine zD ?_ | refine zB ?_ _)); refine blk_far ?_ NB1107_1143.out _; (with_reducible repeat (first | refine zN ?_ _ | refine zD ?_ | refine zB ?_ _)); refine blk_far ?_ NB1107_1143.out _; (with_reducible repeat (first | refine zN ?_ _ | refine zD ?_ | refine zB ?_ _)); refine blk_far ?_ NB1107_1143.out _; (with_reducible repeat (first | refine zN ?_ _ | refine zD ?_ | refine zB ?_ _)); exact BKHr.out⟩, ⟨by (with_reducible repeat (first | refine zN ?_ _ | refine zD ?_ | refine zB ?_ _)); refine blk_far ?_ NB1108_1143.out _; (with_reducible repeat (first | refine zN ?_ _ | refine zD ?_ | refine zB ?_ _)); refine blk_far ?_ NB1108_1143.out _; (with_reducible repeat (first | refine zN ?_ _ | refine zD ?_ | refine zB ?_ _)); refine blk_far ?_ NB1108_1143.out _; (with_reducible repeat (first | refine zN ?_ _ | refine zD ?_ | refine zB ?_ _)); exact BKHs.out⟩, ⟨by (with_reducible repeat (first | refine zN ?_ _ | refine zD ?_ | refine zB ?_ _)); refine blk_far ?_ NB1115_1143.out _; (with_reducible repeat (first | refine zN ?_ _ | refine zD ?_ | refine zB ?_ _)); refine blk_far ?_ NB1115_1143.out _; (with_reducible repeat (first | refine zN ?_ _ | refine zD ?_ | refine zB ?_ _)); refine blk_far ?_ NB1115_1143.out _; (with_reducible repeat (first | refine zN ?_ _ | refine zD ?_ | refine zB ?_ _)); exact BKHz.out⟩, ⟨by (with_reducible repeat (first | refine zN ?_ _ | refine zD ?_ | refine zB ?_ _)); refine blk_far ?_ NB1129_1143.out _; (with_reducible repeat (first | refine zN ?_ _ | refine zD ?_ | refine zB ?_ _)); refine blk_far ?_ NB1129_1143.out _; (with_reducible repeat (first | refine zN ?_ _ | refine zD ?_ | refine zB ?_ _)); refine blk_far ?_ NB1129_1143.out _; (with_reducible repeat (first | refine zN ?_ _ | refine zD ?_ | refine zB ?_ _)); exact BKID.out⟩, ⟨by (with_reducible repeat (first | refine zN ?_ _ | refine zD ?_ | refine zB ?_ _)); refine blk_far ?_ NB1136_1143.out _; (with_reducible repeat (first | refine zN ?_ _ | refine zD ?_ | refine zB ?_ _)); refine blk_far ?_ NB1136_1143.out _; (with_reducible repeat (first | refine zN ?_ _ | refine zD ?_ | refine zB ?_ _)); refine blk_far ?_ NB1136_1143.out _; (with_reducible repeat (first | refine zN ?_ _ | refine zD ?_ | refine zB ?_ _)); exact BKIK.out⟩, ⟨by (with_reducible repeat (first | refine zN ?_ _ | refine zD ?_ | refine zB ?_ _)); refine blk_put (cs := #[.int .i64 t1137, .int .i64 t1138, .slice none 0 0]) ?_ 2 _ rfl; (with_reducible repeat (first | refine zN ?_ _ | refine zD ?_ | refine zB ?_ _)); refine blk_put (cs := #[.int .i64 t1137, .int .i64 0, .slice none 0 0]) ?_ 1 _ rfl; (with_reducible repeat (first | refine zN ?_ _ | refine zD ?_ | refine zB ?_ _)); refine blk_put (cs := #[.int .i64 0, .int .i64 0, .slice none 0 0]) ?_ 0 _ rfl; (with_reducible repeat (first | refine zN ?_ _ | refine zD ?_ | refine zB ?_ _)); exact BKIR.out⟩, ⟨by repeat (first | (with_reducible first | exact HB.out | apply zW | apply zX | apply zY | refine zS ?_ GEHr.out | refine zS ?_ GEHs.out | refine zS ?_ GEHz.out | refine zS ?_ GEID.out | refine zS ?_ GEIK.out | refine zS ?_ GEIR.out) | exact HB.out)⟩⟩
  case rest =>
   clear HC10
   try clear c1
   try clear c2
   try clear p2
   try clear c3
   try clear c4
   try clear c6
   try clear c6b0
   try clear c6b1
   try clear c12
   try clear c13
   try clear c14
   try clear c18
   try clear c19
   try clear c24
   try clear c25
   try clear c26
   try clear c32
   try clear c33
   try clear c34
   try clear c35
   try clear c36
   try clear c41
   try clear c42
   try clear c43
   try clear c44
   try clear c45
   try clear c48
   try clear c48b0
   try clear c48b1
   try clear c49
   try clear c49b0
   try clear c49b1
   try clear hcz14_0
   try clear hcz14_1
   try clear hcz14_2
   try clear hcz15_0
   try clear hcz15_1
   try clear hcz15_2
   try clear hcz20_0
   try clear hcz20_1
   try clear hcz20_2
   try clear hcz27_0
   try clear hcz27_1
   try clear hcz27_2
   try clear hcz29_0
   try clear hcz29_1
   try clear hcz29_2
   try clear hcz36_0
   try clear hcz36_1
   try clear hcz36_2
   try clear hcz38_0
   try clear hcz38_1
   try clear hcz38_2
   try clear hcz46_0
   try clear hcz46_1
   try clear hcz46_2
   try clear hfz14_0
   try clear hfz14_1
   try clear hfz14_2
   try clear hfz15_0
   try clear hfz15_1
   try clear hfz15_2
   try clear hfz20_0
   try clear hfz20_1
   try clear hfz20_2
   try clear hfz27_0
   try clear hfz27_1
   try clear hfz27_2
   try clear hfz29_0
   try clear hfz29_1
   try clear hfz29_2
   try clear hfz36_0
   try clear hfz36_1
   try clear hfz36_2
   try clear hfz38_0
   try clear hfz38_1
   try clear hfz38_2
   try clear hfz46_0
   try clear hfz46_1
   try clear hfz46_2
   obtain ⟨kq, x58_9, rfl, HA, HJ9, HO_1116002, HO_1130002, HO_1137002, HO_1144002, BKHr, BKHs, BKHz, BKID, BKIK, BKIR, HB⟩ := hcut
   cases kq with
   | zero => exact absurd HA.out (by simp [kimberlitelaw03_CurveDual.j0])
   | succ kj9 =>
    have H := HA.out
    clear HA
    simp only [kimberlitelaw03_CurveDual.j0] at H
    by_cases c50 : x58_9 = true
    ·
     subst c50
     have H1 : ((kimberlitelaw03_alive.f).bind fun t1146 => (some t1146)) = some r := by rw [if_pos rfl] at H; exact H
     clear H
     have H := H1
     clear H1
     replace H := Option.bind_eq_some_iff.mp H
     obtain ⟨t1146, A510, H⟩ := H
     replace H : (some t1146) = some r := H
     have A51 := zA A510
     clear A510
     obtain rfl := Option.some.inj H
     go_wp2_with (first | ((with_reducible refine gate_callee (f := 17) rfl ?_); refine goesL_ (some 59) rfl rfl Try.func17 (by kernel_rfl) rfl #[] rfl (by (try simp only [List.map_toArray, List.map_cons, List.map_nil]); first | done | rfl | (simp only [List.length_drop, List.length_take]; rfl)) ?_; (with_reducible refine (kimberlitelaw03_alive.calls  t1146 _ A51.out).mono ?_); rintro e w52 ⟨rfl, hb⟩; refine ⟨_, rfl, ?_⟩; have n0_ := zA (Kd.R_below (by (with_reducible repeat (first | apply Kd.R_alloc | apply Kd.R_drewN | apply Kd.R_drew)); exact HO_1116002.out) hb); have n1_ := zA (Kd.R_below (by (with_reducible repeat (first | apply Kd.R_alloc | apply Kd.R_drewN | apply Kd.R_drew)); exact HO_1130002.out) hb); have n2_ := zA (Kd.R_below (by (with_reducible repeat (first | apply Kd.R_alloc | apply Kd.R_drewN | apply Kd.R_drew)); exact HO_1137002.out) hb); have n3_ := zA (Kd.R_below (by (with_reducible repeat (first | apply Kd.R_alloc | apply Kd.R_drewN | apply Kd.R_drew)); exact HO_1144002.out) hb); have n4_ := zA (blk_below (g := gA) (o := .cells #[.int .i64 a0_0, .int .i64 a0_1, .slice A0_2 l0_2.length c0_2] 24 (0, 0)) (by (with_reducible repeat (first | refine zN ?_ _ | refine zD ?_ | refine zB ?_ _)); exact BKHr.out) hb); have n5_ := zA (blk_below (g := gB) (o := .cells #[.int .i64 a1_0, .int .i64 a1_1, .slice A1_2 l1_2.length c1_2] 24 (0, 0)) (by (with_reducible repeat (first | refine zN ?_ _ | refine zD ?_ | refine zB ?_ _)); exact BKHs.out) hb); have n6_ := zA (blk_below (g := gC) (o := .cells #[.int .i64 t1109, .int .i64 t1110, .slice Ao21 t1111.length co21] 24 (0, 0)) (by (with_reducible repeat (first | refine zN ?_ _ | refine zD ?_ | refine zB ?_ _)); exact BKHz.out) hb); have n7_ := zA (blk_below (g := gD) (o := .cells #[.int .i64 t1123, .int .i64 t1124, .slice Ao28 t1125.length co28] 24 (0, 0)) (by (with_reducible repeat (first | refine zN ?_ _ | refine zD ?_ | refine zB ?_ _)); exact BKID.out) hb); have n8_ := zA (blk_below (g := gE) (o := .cells #[.int .i64 t1130, .int .i64 t1131, .slice Ao37 t1132.length co37] 24 (0, 0)) (by (with_reducible repeat (first | refine zN ?_ _ | refine zD ?_ | refine zB ?_ _)); exact BKIK.out) hb); have n9_ := zA (blk_below (g := gF) (o := .cells #[.int .i64 t1137, .int .i64 t1138, .slice Ao47 t1139.length co47] 24 (0, 0)) (by (with_reducible repeat (first | refine zN ?_ _ | refine zD ?_ | refine zB ?_ _)); exact BKIR.out) hb); have n10_ := zA (below_step (by repeat (first | (with_reducible first | exact HB.out | apply zW | apply zX | apply zY | refine zS ?_ GEHr.out | refine zS ?_ GEHs.out | refine zS ?_ GEHz.out | refine zS ?_ GEID.out | refine zS ?_ GEIK.out | refine zS ?_ GEIR.out) | exact HB.out)) hb); clear HO_1116002; clear HO_1130002; clear HO_1137002; clear HO_1144002; clear BKHr; clear BKHs; clear BKHz; clear BKID; clear BKIK; clear BKIR; clear HB; have HO_1116002 := n0_; have HO_1130002 := n1_; have HO_1137002 := n2_; have HO_1144002 := n3_; have BKHr := n4_; have BKHs := n5_; have BKHz := n6_; have BKID := n7_; have BKIK := n8_; have BKIR := n9_; have HB := n10_; clear n0_ n1_ n2_ n3_ n4_ n5_ n6_ n7_ n8_ n9_ n10_; (try clear hb); (try clear hb2); (try clear hk); (try clear hi)))
     go_ret
     exact ⟨by first | rfl | (simp [errW_none, errW_some] <;> rfl) | (simp [*, errW_none, errW_some] <;> rfl), by repeat (first | (with_reducible first | exact HB.out | apply zW | apply zX | apply zY | refine zS ?_ GEHr.out | refine zS ?_ GEHs.out | refine zS ?_ GEHz.out | refine zS ?_ GEID.out | refine zS ?_ GEIK.out | refine zS ?_ GEIR.out) | exact HB.out)⟩
    ·
     replace c50 := Bool.eq_false_iff.mpr c50
     subst c50
     have H1 : ((curve_Add.f t1130 t1131 t1132 t1137 t1138 t1139).bind fun bt1153 => (if bt1153.2.2.2 = 0 then ((kimberlitelaw03_alike.f kj9 bt1153.1 bt1153.2.1 bt1153.2.2.1 t1123 t1124 t1125).bind fun t1162 => (if t1162 = true then ((kimberlitelaw03_alive.f).bind fun t1163 => (some t1163)) else (none))) else (if bt1153.2.2.2 = 4 then ((kimberlitelaw03_alive.f).bind fun t1160 => (some t1160)) else (none)))) = some r := by rw [if_neg (show ¬ (false = true) by decide)] at H; exact H
     clear H
     have H := H1
     clear H1
     replace H := Option.bind_eq_some_iff.mp H
     obtain ⟨⟨t1153, t1154, t1155, t1158⟩, A530, H⟩ := H
     replace H : (if t1158 = 0 then ((kimberlitelaw03_alike.f kj9 t1153 t1154 t1155 t1123 t1124 t1125).bind fun t1162 => (if t1162 = true then ((kimberlitelaw03_alive.f).bind fun t1163 => (some t1163)) else (none))) else (if t1158 = 4 then ((kimberlitelaw03_alive.f).bind fun t1160 => (some t1160)) else (none))) = some r := H
     have A53 := zA A530
     clear A530
     by_cases c54 : t1158 = 0
     ·
      rw [if_pos c54] at H
      have c54b0 : (t1158 == 0) = true := beq_iff_eq.mpr c54
      have c54b1 : (t1158 != 0) = false := bne_eq_false_iff_eq.mpr c54
      clear c54
      replace H := Option.bind_eq_some_iff.mp H
      obtain ⟨t1162, A550, H⟩ := H
      replace H : (if t1162 = true then ((kimberlitelaw03_alive.f).bind fun t1163 => (some t1163)) else (none)) = some r := H
      have A55 := zA A550
      clear A550
      by_cases c56 : t1162 = true
      ·
       subst c56
       have H1 : ((kimberlitelaw03_alive.f).bind fun t1163 => (some t1163)) = some r := by rw [if_pos rfl] at H; exact H
       clear H
       have H := H1
       clear H1
       replace H := Option.bind_eq_some_iff.mp H
       obtain ⟨t1163, A570, H⟩ := H
       replace H : (some t1163) = some r := H
       have A57 := zA A570
       clear A570
       obtain rfl := Option.some.inj H
       have hnb58 := NB1136_1107.out
       have hnc58 := NB1107_1136.out
       have hnb59 := NB1136_1108.out
       have hnc59 := NB1108_1136.out
       have hnb60 := NB1136_1115.out
       have hnc60 := NB1115_1136.out
       have hnb61 := NB1136_1129.out
       have hnc61 := NB1129_1136.out
       have hnb62 := NB1136_1143.out
       have hnc62 := NB1143_1136.out
       have hcz63_0 : wc.cell? ⟨gE, 0, none⟩ = some (.int .i64 t1130) := (blk_cell BKIK.out 0).trans rfl
       have hcz63_1 : wc.cell? ⟨gE, 1, none⟩ = some (.int .i64 t1131) := (blk_cell BKIK.out 1).trans rfl
       have hcz63_2 : wc.cell? ⟨gE, 2, none⟩ = some (.slice Ao37 t1132.length co37) := (blk_cell BKIK.out 2).trans rfl
       have hfz63_0 := blk_frozen BKIK.out 0
       have hfz63_1 := blk_frozen BKIK.out 1
       have hfz63_2 := blk_frozen BKIK.out 2
       have hnb64 := NB1143_1107.out
       have hnc64 := NB1107_1143.out
       have hnb65 := NB1143_1108.out
       have hnc65 := NB1108_1143.out
       have hnb66 := NB1143_1115.out
       have hnc66 := NB1115_1143.out
       have hnb67 := NB1143_1129.out
       have hnc67 := NB1129_1143.out
       have hcz68_0 : wc.cell? ⟨gF, 0, none⟩ = some (.int .i64 t1137) := (blk_cell BKIR.out 0).trans rfl
       have hcz68_1 : wc.cell? ⟨gF, 1, none⟩ = some (.int .i64 t1138) := (blk_cell BKIR.out 1).trans rfl
       have hcz68_2 : wc.cell? ⟨gF, 2, none⟩ = some (.slice Ao47 t1139.length co47) := (blk_cell BKIR.out 2).trans rfl
       have hfz68_0 := blk_frozen BKIR.out 0
       have hfz68_1 := blk_frozen BKIR.out 1
       have hfz68_2 := blk_frozen BKIR.out 2
       go_wp2_with (first | ((with_reducible refine gate_callee (f := 38) rfl ?_); refine goesL_ (some 63) rfl rfl Try.func38 (by kernel_rfl) rfl #[.agg #[.int .i64 t1130, .int .i64 t1131, .slice Ao37 t1132.length co37], .agg #[.int .i64 t1137, .int .i64 t1138, .slice Ao47 t1139.length co47]] rfl (by (try simp only [List.map_toArray, List.map_cons, List.map_nil]); first | done | rfl | (simp only [List.length_drop, List.length_take]; rfl)) ?_; (with_reducible refine (curve_Add.calls t1130 t1131 _ _ t1132 t1137 t1138 _ _ t1139 t1153 t1154 t1155 t1158 _ ?side1 ?side2 ?side3 ?side4 A53.out).mono ?_); (case side1 => repeat (first | exact (Kd.R_reads' HO_1137002.out).2.2 | (with_reducible refine Kd.C_alloc ?_ _) | (with_reducible refine Kd.C_drewN ?_ _) | (with_reducible refine Kd.C_drew ?_))); (case side2 => exact (Kd.R_reads' HO_1137002.out).2.1); (case side3 => repeat (first | exact (Kd.R_reads' HO_1144002.out).2.2 | (with_reducible refine Kd.C_alloc ?_ _) | (with_reducible refine Kd.C_drewN ?_ _) | (with_reducible refine Kd.C_drew ?_))); (case side4 => exact (Kd.R_reads' HO_1144002.out).2.1); rintro e w69 ⟨v1156, rfl, ho0, hb⟩; refine ⟨_, rfl, ?_⟩; have n0_ := zA (Kd.R_elder' (by (with_reducible repeat (first | apply Kd.R_alloc | apply Kd.R_drewN | apply Kd.R_drew)); exact HO_1116002.out) (Kd.R_base ho0) hb); have n1_ := zA (Kd.R_elder' (by (with_reducible repeat (first | apply Kd.R_alloc | apply Kd.R_drewN | apply Kd.R_drew)); exact HO_1130002.out) (Kd.R_base ho0) hb); have n2_ := zA (Kd.R_elder' (by (with_reducible repeat (first | apply Kd.R_alloc | apply Kd.R_drewN | apply Kd.R_drew)); exact HO_1137002.out) (Kd.R_base ho0) hb); have n3_ := zA (Kd.R_elder' (by (with_reducible repeat (first | apply Kd.R_alloc | apply Kd.R_drewN | apply Kd.R_drew)); exact HO_1144002.out) (Kd.R_base ho0) hb); have n4_ := zA (Kd.R_lower (Kd.R_new' (Kd.R_new' (Kd.R_new' (Kd.R_new' ho0 (Kd.R_lt (by (with_reducible repeat (first | apply Kd.R_alloc | apply Kd.R_drewN | apply Kd.R_drew)); exact HO_1116002.out))) (Kd.R_lt (by (with_reducible repeat (first | apply Kd.R_alloc | apply Kd.R_drewN | apply Kd.R_drew)); exact HO_1130002.out))) (Kd.R_lt (by (with_reducible repeat (first | apply Kd.R_alloc | apply Kd.R_drewN | apply Kd.R_drew)); exact HO_1137002.out))) (Kd.R_lt (by (with_reducible repeat (first | apply Kd.R_alloc | apply Kd.R_drewN | apply Kd.R_drew)); exact HO_1144002.out))) (below_size (by repeat (first | (with_reducible first | exact HB.out | apply zW | apply zX | apply zY | refine zS ?_ GEHr.out | refine zS ?_ GEHs.out | refine zS ?_ GEHz.out | refine zS ?_ GEID.out | refine zS ?_ GEIK.out | refine zS ?_ GEIR.out) | exact HB.out)))); have n5_ := zA (blk_below (g := gA) (o := .cells #[.int .i64 a0_0, .int .i64 a0_1, .slice A0_2 l0_2.length c0_2] 24 (0, 0)) (by (with_reducible repeat (first | refine zN ?_ _ | refine zD ?_ | refine zB ?_ _)); exact BKHr.out) hb); have n6_ := zA (blk_below (g := gB) (o := .cells #[.int .i64 a1_0, .int .i64 a1_1, .slice A1_2 l1_2.length c1_2] 24 (0, 0)) (by (with_reducible repeat (first | refine zN ?_ _ | refine zD ?_ | refine zB ?_ _)); exact BKHs.out) hb); have n7_ := zA (blk_below (g := gC) (o := .cells #[.int .i64 t1109, .int .i64 t1110, .slice Ao21 t1111.length co21] 24 (0, 0)) (by (with_reducible repeat (first | refine zN ?_ _ | refine zD ?_ | refine zB ?_ _)); exact BKHz.out) hb); have n8_ := zA (blk_below (g := gD) (o := .cells #[.int .i64 t1123, .int .i64 t1124, .slice Ao28 t1125.length co28] 24 (0, 0)) (by (with_reducible repeat (first | refine zN ?_ _ | refine zD ?_ | refine zB ?_ _)); exact BKID.out) hb); have n9_ := zA (blk_below (g := gE) (o := .cells #[.int .i64 t1130, .int .i64 t1131, .slice Ao37 t1132.length co37] 24 (0, 0)) (by (with_reducible repeat (first | refine zN ?_ _ | refine zD ?_ | refine zB ?_ _)); exact BKIK.out) hb); have n10_ := zA (blk_below (g := gF) (o := .cells #[.int .i64 t1137, .int .i64 t1138, .slice Ao47 t1139.length co47] 24 (0, 0)) (by (with_reducible repeat (first | refine zN ?_ _ | refine zD ?_ | refine zB ?_ _)); exact BKIR.out) hb); have n11_ := zA (below_step (by repeat (first | (with_reducible first | exact HB.out | apply zW | apply zX | apply zY | refine zS ?_ GEHr.out | refine zS ?_ GEHs.out | refine zS ?_ GEHz.out | refine zS ?_ GEID.out | refine zS ?_ GEIK.out | refine zS ?_ GEIR.out) | exact HB.out)) hb); clear HO_1116002; clear HO_1130002; clear HO_1137002; clear HO_1144002; clear BKHr; clear BKHs; clear BKHz; clear BKID; clear BKIK; clear BKIR; clear HB; have HO_1116002 := n0_; have HO_1130002 := n1_; have HO_1137002 := n2_; have HO_1144002 := n3_; have HOIf := n4_; have BKHr := n5_; have BKHs := n6_; have BKHz := n7_; have BKID := n8_; have BKIK := n9_; have BKIR := n10_; have HB := n11_; clear n0_ n1_ n2_ n3_ n4_ n5_ n6_ n7_ n8_ n9_ n10_ n11_; (try clear hb); (try clear hb2); (try clear hk); (try clear hi); (try clear ho0)) | ((with_reducible refine gate_dst (N := 17) rfl ?_); refine box_event ?hg (N := 17) ?hd (cs := #[.int .i64 0, .int .i64 0, .slice none 0 0]) (t := 24) ?hr ?_; (case hd => rfl); (case hg => rfl); (case hr => first | (go_simp; done) | (go_simp; rfl)); intro gG hg w70 hbox hb; have n0_ := zA (Kd.R_below (by (with_reducible repeat (first | apply Kd.R_alloc | apply Kd.R_drewN | apply Kd.R_drew)); exact HO_1116002.out) hb); have n1_ := zA (Kd.R_below (by (with_reducible repeat (first | apply Kd.R_alloc | apply Kd.R_drewN | apply Kd.R_drew)); exact HO_1130002.out) hb); have n2_ := zA (Kd.R_below (by (with_reducible repeat (first | apply Kd.R_alloc | apply Kd.R_drewN | apply Kd.R_drew)); exact HO_1137002.out) hb); have n3_ := zA (Kd.R_below (by (with_reducible repeat (first | apply Kd.R_alloc | apply Kd.R_drewN | apply Kd.R_drew)); exact HO_1144002.out) hb); have n4_ := zA (Kd.R_below (by (with_reducible repeat (first | apply Kd.R_alloc | apply Kd.R_drewN | apply Kd.R_drew)); exact HOIf.out) hb); have n5_ := zA (blk_below (g := gA) (o := .cells #[.int .i64 a0_0, .int .i64 a0_1, .slice A0_2 l0_2.length c0_2] 24 (0, 0)) (by (with_reducible repeat (first | refine zN ?_ _ | refine zD ?_ | refine zB ?_ _)); exact BKHr.out) hb); have n6_ := zA (blk_below (g := gB) (o := .cells #[.int .i64 a1_0, .int .i64 a1_1, .slice A1_2 l1_2.length c1_2] 24 (0, 0)) (by (with_reducible repeat (first | refine zN ?_ _ | refine zD ?_ | refine zB ?_ _)); exact BKHs.out) hb); have n7_ := zA (blk_below (g := gC) (o := .cells #[.int .i64 t1109, .int .i64 t1110, .slice Ao21 t1111.length co21] 24 (0, 0)) (by (with_reducible repeat (first | refine zN ?_ _ | refine zD ?_ | refine zB ?_ _)); exact BKHz.out) hb); have n8_ := zA (blk_below (g := gD) (o := .cells #[.int .i64 t1123, .int .i64 t1124, .slice Ao28 t1125.length co28] 24 (0, 0)) (by (with_reducible repeat (first | refine zN ?_ _ | refine zD ?_ | refine zB ?_ _)); exact BKID.out) hb); have n9_ := zA (blk_below (g := gE) (o := .cells #[.int .i64 t1130, .int .i64 t1131, .slice Ao37 t1132.length co37] 24 (0, 0)) (by (with_reducible repeat (first | refine zN ?_ _ | refine zD ?_ | refine zB ?_ _)); exact BKIK.out) hb); have n10_ := zA (blk_below (g := gF) (o := .cells #[.int .i64 t1137, .int .i64 t1138, .slice Ao47 t1139.length co47] 24 (0, 0)) (by (with_reducible repeat (first | refine zN ?_ _ | refine zD ?_ | refine zB ?_ _)); exact BKIR.out) hb); have n11_ := zA (below_step (by repeat (first | (with_reducible first | exact HB.out | apply zW | apply zX | apply zY | refine zS ?_ GEHr.out | refine zS ?_ GEHs.out | refine zS ?_ GEHz.out | refine zS ?_ GEID.out | refine zS ?_ GEIK.out | refine zS ?_ GEIR.out) | exact HB.out)) hb); have n12_ := zA (hbox); have n13_ := zA ((by rw [hg]; exact (below_size (by repeat (first | (with_reducible first | exact HB.out | apply zW | apply zX | apply zY | refine zS ?_ GEHr.out | refine zS ?_ GEHs.out | refine zS ?_ GEHz.out | refine zS ?_ GEID.out | refine zS ?_ GEIK.out | refine zS ?_ GEIR.out) | exact HB.out))) : w.heap.size ≤ gG)); have n14_ := zA ((by rw [hg]; exact (below_size (by repeat (first | (with_reducible first | exact HB.out | apply zW | apply zX | apply zY | refine zS ?_ GEHr.out | refine zS ?_ GEHs.out | refine zS ?_ GEHz.out | refine zS ?_ GEID.out | refine zS ?_ GEIK.out | refine zS ?_ GEIR.out) | exact HB.out))) : w.heap.size ≤ gG)); have n15_ := zA ((by rw [hg]; exact Nat.ne_of_lt (blk_lt (g := gA) (o := .cells #[.int .i64 a0_0, .int .i64 a0_1, .slice A0_2 l0_2.length c0_2] 24 (0, 0)) (by (with_reducible repeat (first | refine zN ?_ _ | refine zD ?_ | refine zB ?_ _)); exact BKHr.out)) : gA ≠ gG)); have n16_ := zA ((by rw [hg]; exact Nat.ne_of_gt (blk_lt (g := gA) (o := .cells #[.int .i64 a0_0, .int .i64 a0_1, .slice A0_2 l0_2.length c0_2] 24 (0, 0)) (by (with_reducible repeat (first | refine zN ?_ _ | refine zD ?_ | refine zB ?_ _)); exact BKHr.out)) : gG ≠ gA)); have n17_ := zA ((by rw [hg]; exact Nat.ne_of_lt (blk_lt (g := gB) (o := .cells #[.int .i64 a1_0, .int .i64 a1_1, .slice A1_2 l1_2.length c1_2] 24 (0, 0)) (by (with_reducible repeat (first | refine zN ?_ _ | refine zD ?_ | refine zB ?_ _)); exact BKHs.out)) : gB ≠ gG)); have n18_ := zA ((by rw [hg]; exact Nat.ne_of_gt (blk_lt (g := gB) (o := .cells #[.int .i64 a1_0, .int .i64 a1_1, .slice A1_2 l1_2.length c1_2] 24 (0, 0)) (by (with_reducible repeat (first | refine zN ?_ _ | refine zD ?_ | refine zB ?_ _)); exact BKHs.out)) : gG ≠ gB)); have n19_ := zA ((by rw [hg]; exact Nat.ne_of_lt (blk_lt (g := gC) (o := .cells #[.int .i64 t1109, .int .i64 t1110, .slice Ao21 t1111.length co21] 24 (0, 0)) (by (with_reducible repeat (first | refine zN ?_ _ | refine zD ?_ | refine zB ?_ _)); exact BKHz.out)) : gC ≠ gG)); have n20_ := zA ((by rw [hg]; exact Nat.ne_of_gt (blk_lt (g := gC) (o := .cells #[.int .i64 t1109, .int .i64 t1110, .slice Ao21 t1111.length co21] 24 (0, 0)) (by (with_reducible repeat (first | refine zN ?_ _ | refine zD ?_ | refine zB ?_ _)); exact BKHz.out)) : gG ≠ gC)); have n21_ := zA ((by rw [hg]; exact Nat.ne_of_lt (blk_lt (g := gD) (o := .cells #[.int .i64 t1123, .int .i64 t1124, .slice Ao28 t1125.length co28] 24 (0, 0)) (by (with_reducible repeat (first | refine zN ?_ _ | refine zD ?_ | refine zB ?_ _)); exact BKID.out)) : gD ≠ gG)); have n22_ := zA ((by rw [hg]; exact Nat.ne_of_gt (blk_lt (g := gD) (o := .cells #[.int .i64 t1123, .int .i64 t1124, .slice Ao28 t1125.length co28] 24 (0, 0)) (by (with_reducible repeat (first | refine zN ?_ _ | refine zD ?_ | refine zB ?_ _)); exact BKID.out)) : gG ≠ gD)); have n23_ := zA ((by rw [hg]; exact Nat.ne_of_lt (blk_lt (g := gE) (o := .cells #[.int .i64 t1130, .int .i64 t1131, .slice Ao37 t1132.length co37] 24 (0, 0)) (by (with_reducible repeat (first | refine zN ?_ _ | refine zD ?_ | refine zB ?_ _)); exact BKIK.out)) : gE ≠ gG)); have n24_ := zA ((by rw [hg]; exact Nat.ne_of_gt (blk_lt (g := gE) (o := .cells #[.int .i64 t1130, .int .i64 t1131, .slice Ao37 t1132.length co37] 24 (0, 0)) (by (with_reducible repeat (first | refine zN ?_ _ | refine zD ?_ | refine zB ?_ _)); exact BKIK.out)) : gG ≠ gE)); have n25_ := zA ((by rw [hg]; exact Nat.ne_of_lt (blk_lt (g := gF) (o := .cells #[.int .i64 t1137, .int .i64 t1138, .slice Ao47 t1139.length co47] 24 (0, 0)) (by (with_reducible repeat (first | refine zN ?_ _ | refine zD ?_ | refine zB ?_ _)); exact BKIR.out)) : gF ≠ gG)); have n26_ := zA ((by rw [hg]; exact Nat.ne_of_gt (blk_lt (g := gF) (o := .cells #[.int .i64 t1137, .int .i64 t1138, .slice Ao47 t1139.length co47] 24 (0, 0)) (by (with_reducible repeat (first | refine zN ?_ _ | refine zD ?_ | refine zB ?_ _)); exact BKIR.out)) : gG ≠ gF)); clear HO_1116002; clear HO_1130002; clear HO_1137002; clear HO_1144002; clear HOIf; clear BKHr; clear BKHs; clear BKHz; clear BKID; clear BKIK; clear BKIR; clear HB; have HO_1116002 := n0_; have HO_1130002 := n1_; have HO_1137002 := n2_; have HO_1144002 := n3_; have HOIf := n4_; have BKHr := n5_; have BKHs := n6_; have BKHz := n7_; have BKID := n8_; have BKIK := n9_; have BKIR := n10_; have HB := n11_; have BKIh := n12_; have GWIh := n13_; have GEIh := n14_; have NB1107_1159 := n15_; have NB1159_1107 := n16_; have NB1108_1159 := n17_; have NB1159_1108 := n18_; have NB1115_1159 := n19_; have NB1159_1115 := n20_; have NB1129_1159 := n21_; have NB1159_1129 := n22_; have NB1136_1159 := n23_; have NB1159_1136 := n24_; have NB1143_1159 := n25_; have NB1159_1143 := n26_; clear n0_ n1_ n2_ n3_ n4_ n5_ n6_ n7_ n8_ n9_ n10_ n11_ n12_ n13_ n14_ n15_ n16_ n17_ n18_ n19_ n20_ n21_ n22_ n23_ n24_ n25_ n26_; clear hb hbox hg; have hnb71 := NB1159_1107.out; have hnc71 := NB1107_1159.out; have hnb72 := NB1159_1108.out; have hnc72 := NB1108_1159.out; have hnb73 := NB1159_1115.out; have hnc73 := NB1115_1159.out; have hnb74 := NB1159_1129.out; have hnc74 := NB1129_1159.out; have hnb75 := NB1159_1136.out; have hnc75 := NB1136_1159.out; have hnb76 := NB1159_1143.out; have hnc76 := NB1143_1159.out; have hcz77_0 : w70.cell? ⟨gG, 0, none⟩ = some (.int .i64 0) := (blk_cell BKIh.out 0).trans rfl; have hcz77_1 : w70.cell? ⟨gG, 1, none⟩ = some (.int .i64 0) := (blk_cell BKIh.out 1).trans rfl; have hcz77_2 : w70.cell? ⟨gG, 2, none⟩ = some (.slice none 0 0) := (blk_cell BKIh.out 2).trans rfl; have hfz77_0 := blk_frozen BKIh.out 0; have hfz77_1 := blk_frozen BKIh.out 1; have hfz77_2 := blk_frozen BKIh.out 2; obtain ⟨Ao78, co78, eo78⟩ := Kd.R_slice HOIf.out; subst eo78; have hnb79 := NB1129_1107.out; have hnc79 := NB1107_1129.out; have hnb80 := NB1129_1108.out; have hnc80 := NB1108_1129.out; have hnb81 := NB1129_1115.out; have hnc81 := NB1115_1129.out; have hcz82_0 : w70.cell? ⟨gD, 0, none⟩ = some (.int .i64 t1123) := (blk_cell BKID.out 0).trans rfl; have hcz82_1 : w70.cell? ⟨gD, 1, none⟩ = some (.int .i64 t1124) := (blk_cell BKID.out 1).trans rfl; have hcz82_2 : w70.cell? ⟨gD, 2, none⟩ = some (.slice Ao28 t1125.length co28) := (blk_cell BKID.out 2).trans rfl; have hfz82_0 := blk_frozen BKID.out 0; have hfz82_1 := blk_frozen BKID.out 1; have hfz82_2 := blk_frozen BKID.out 2) | ((with_reducible refine gate_callee (f := 15) rfl ?_); refine goesL_ (some 75) rfl rfl Try.func15 (by kernel_rfl) rfl #[.agg #[.int .i64 t1153, .int .i64 t1154, .slice Ao78 t1155.length co78], .agg #[.int .i64 t1123, .int .i64 t1124, .slice Ao28 t1125.length co28]] rfl (by (try simp only [List.map_toArray, List.map_cons, List.map_nil]); first | done | rfl | (simp only [List.length_drop, List.length_take]; rfl)) ?_; (with_reducible refine (kimberlitelaw03_alike.calls kj9 t1153 t1154 _ _ t1155 t1123 t1124 _ _ t1125 true _ ?side1 ?side2 ?side3 ?side4 A55.out).mono ?_); (case side1 => refine (Kd.R_reads' (e := 3) (base := w.heap.size) (ok := fun k_ => ((((True ∧ some k_ ≠ (.slice Ao21 t1111.length co21 : Value).ownBlock) ∧ some k_ ≠ (.slice Ao28 t1125.length co28 : Value).ownBlock) ∧ some k_ ≠ (.slice Ao37 t1132.length co37 : Value).ownBlock) ∧ some k_ ≠ (.slice Ao47 t1139.length co47 : Value).ownBlock)) (n := t1155.length) (c := co78) ?_).2.2; exact (by (with_reducible repeat (first | apply Kd.R_alloc | apply Kd.R_drewN | apply Kd.R_drew)); exact (Kd.R_mono (Kd.R_far (p := ⟨gG, 2, none⟩) (Kd.R_far (p := ⟨gG, 1, none⟩) (Kd.R_far (p := ⟨gG, 0, none⟩) (Kd.R_types HOIf.out BKIh.out (by decide)) (fun _ hk => hk.2) (.int .i64 t1153)) (fun _ hk => hk.2) (.int .i64 t1154)) (fun _ hk => hk.2) (.slice Ao78 t1155.length co78)) (fun _ h_ => h_.1)))); (case side2 => exact (Kd.R_reads' HOIf.out).2.1); (case side3 => refine (Kd.R_reads' (e := 3) (base := w.heap.size) (ok := fun k_ => ((some k_ ≠ (.slice Ao21 t1111.length co21 : Value).ownBlock ∧ (some k_ ≠ (.slice Ao37 t1132.length co37 : Value).ownBlock ∧ some k_ ≠ (.slice Ao47 t1139.length co47 : Value).ownBlock)) ∧ some k_ ≠ (.slice Ao78 t1155.length co78 : Value).ownBlock)) (n := t1125.length) (c := co28) ?_).2.2; exact (by (with_reducible repeat (first | apply Kd.R_alloc | apply Kd.R_drewN | apply Kd.R_drew)); exact (Kd.R_mono (Kd.R_far (p := ⟨gG, 2, none⟩) (Kd.R_far (p := ⟨gG, 1, none⟩) (Kd.R_far (p := ⟨gG, 0, none⟩) (Kd.R_types HO_1130002.out BKIh.out (by decide)) (fun _ hk => hk.2) (.int .i64 t1153)) (fun _ hk => hk.2) (.int .i64 t1154)) (fun _ hk => hk.2) (.slice Ao78 t1155.length co78)) (fun _ h_ => h_.1)))); (case side4 => exact (Kd.R_reads' HO_1130002.out).2.1); rintro e w83 ⟨rfl, hb⟩; refine ⟨_, rfl, ?_⟩; have n0_ := zA (Kd.R_below (by (with_reducible repeat (first | apply Kd.R_alloc | apply Kd.R_drewN | apply Kd.R_drew)); exact (Kd.R_mono (Kd.R_far (p := ⟨gG, 2, none⟩) (Kd.R_far (p := ⟨gG, 1, none⟩) (Kd.R_far (p := ⟨gG, 0, none⟩) (Kd.R_types HO_1116002.out BKIh.out (by decide)) (fun _ hk => hk.2) (.int .i64 t1153)) (fun _ hk => hk.2) (.int .i64 t1154)) (fun _ hk => hk.2) (.slice Ao78 t1155.length co78)) (fun _ h_ => h_.1))) hb); have n1_ := zA (Kd.R_below (by (with_reducible repeat (first | apply Kd.R_alloc | apply Kd.R_drewN | apply Kd.R_drew)); exact (Kd.R_mono (Kd.R_far (p := ⟨gG, 2, none⟩) (Kd.R_far (p := ⟨gG, 1, none⟩) (Kd.R_far (p := ⟨gG, 0, none⟩) (Kd.R_types HO_1130002.out BKIh.out (by decide)) (fun _ hk => hk.2) (.int .i64 t1153)) (fun _ hk => hk.2) (.int .i64 t1154)) (fun _ hk => hk.2) (.slice Ao78 t1155.length co78)) (fun _ h_ => h_.1))) hb); have n2_ := zA (Kd.R_below (by (with_reducible repeat (first | apply Kd.R_alloc | apply Kd.R_drewN | apply Kd.R_drew)); exact (Kd.R_mono (Kd.R_far (p := ⟨gG, 2, none⟩) (Kd.R_far (p := ⟨gG, 1, none⟩) (Kd.R_far (p := ⟨gG, 0, none⟩) (Kd.R_types HO_1137002.out BKIh.out (by decide)) (fun _ hk => hk.2) (.int .i64 t1153)) (fun _ hk => hk.2) (.int .i64 t1154)) (fun _ hk => hk.2) (.slice Ao78 t1155.length co78)) (fun _ h_ => h_.1))) hb); have n3_ := zA (Kd.R_below (by (with_reducible repeat (first | apply Kd.R_alloc | apply Kd.R_drewN | apply Kd.R_drew)); exact (Kd.R_mono (Kd.R_far (p := ⟨gG, 2, none⟩) (Kd.R_far (p := ⟨gG, 1, none⟩) (Kd.R_far (p := ⟨gG, 0, none⟩) (Kd.R_types HO_1144002.out BKIh.out (by decide)) (fun _ hk => hk.2) (.int .i64 t1153)) (fun _ hk => hk.2) (.int .i64 t1154)) (fun _ hk => hk.2) (.slice Ao78 t1155.length co78)) (fun _ h_ => h_.1))) hb); have n4_ := zA (Kd.R_below (by (with_reducible repeat (first | apply Kd.R_alloc | apply Kd.R_drewN | apply Kd.R_drew)); exact (Kd.R_mono (Kd.R_far (p := ⟨gG, 2, none⟩) (Kd.R_far (p := ⟨gG, 1, none⟩) (Kd.R_far (p := ⟨gG, 0, none⟩) (Kd.R_types HOIf.out BKIh.out (by decide)) (fun _ hk => hk.2) (.int .i64 t1153)) (fun _ hk => hk.2) (.int .i64 t1154)) (fun _ hk => hk.2) (.slice Ao78 t1155.length co78)) (fun _ h_ => h_.1))) hb); have n5_ := zA (blk_below (g := gA) (o := .cells #[.int .i64 a0_0, .int .i64 a0_1, .slice A0_2 l0_2.length c0_2] 24 (0, 0)) (by (with_reducible repeat (first | refine zN ?_ _ | refine zD ?_ | refine zB ?_ _)); refine blk_far ?_ NB1107_1159.out _; (with_reducible repeat (first | refine zN ?_ _ | refine zD ?_ | refine zB ?_ _)); refine blk_far ?_ NB1107_1159.out _; (with_reducible repeat (first | refine zN ?_ _ | refine zD ?_ | refine zB ?_ _)); refine blk_far ?_ NB1107_1159.out _; (with_reducible repeat (first | refine zN ?_ _ | refine zD ?_ | refine zB ?_ _)); exact BKHr.out) hb); have n6_ := zA (blk_below (g := gB) (o := .cells #[.int .i64 a1_0, .int .i64 a1_1, .slice A1_2 l1_2.length c1_2] 24 (0, 0)) (by (with_reducible repeat (first | refine zN ?_ _ | refine zD ?_ | refine zB ?_ _)); refine blk_far ?_ NB1108_1159.out _; (with_reducible repeat (first | refine zN ?_ _ | refine zD ?_ | refine zB ?_ _)); refine blk_far ?_ NB1108_1159.out _; (with_reducible repeat (first | refine zN ?_ _ | refine zD ?_ | refine zB ?_ _)); refine blk_far ?_ NB1108_1159.out _; (with_reducible repeat (first | refine zN ?_ _ | refine zD ?_ | refine zB ?_ _)); exact BKHs.out) hb); have n7_ := zA (blk_below (g := gC) (o := .cells #[.int .i64 t1109, .int .i64 t1110, .slice Ao21 t1111.length co21] 24 (0, 0)) (by (with_reducible repeat (first | refine zN ?_ _ | refine zD ?_ | refine zB ?_ _)); refine blk_far ?_ NB1115_1159.out _; (with_reducible repeat (first | refine zN ?_ _ | refine zD ?_ | refine zB ?_ _)); refine blk_far ?_ NB1115_1159.out _; (with_reducible repeat (first | refine zN ?_ _ | refine zD ?_ | refine zB ?_ _)); refine blk_far ?_ NB1115_1159.out _; (with_reducible repeat (first | refine zN ?_ _ | refine zD ?_ | refine zB ?_ _)); exact BKHz.out) hb); have n8_ := zA (blk_below (g := gD) (o := .cells #[.int .i64 t1123, .int .i64 t1124, .slice Ao28 t1125.length co28] 24 (0, 0)) (by (with_reducible repeat (first | refine zN ?_ _ | refine zD ?_ | refine zB ?_ _)); refine blk_far ?_ NB1129_1159.out _; (with_reducible repeat (first | refine zN ?_ _ | refine zD ?_ | refine zB ?_ _)); refine blk_far ?_ NB1129_1159.out _; (with_reducible repeat (first | refine zN ?_ _ | refine zD ?_ | refine zB ?_ _)); refine blk_far ?_ NB1129_1159.out _; (with_reducible repeat (first | refine zN ?_ _ | refine zD ?_ | refine zB ?_ _)); exact BKID.out) hb); have n9_ := zA (blk_below (g := gE) (o := .cells #[.int .i64 t1130, .int .i64 t1131, .slice Ao37 t1132.length co37] 24 (0, 0)) (by (with_reducible repeat (first | refine zN ?_ _ | refine zD ?_ | refine zB ?_ _)); refine blk_far ?_ NB1136_1159.out _; (with_reducible repeat (first | refine zN ?_ _ | refine zD ?_ | refine zB ?_ _)); refine blk_far ?_ NB1136_1159.out _; (with_reducible repeat (first | refine zN ?_ _ | refine zD ?_ | refine zB ?_ _)); refine blk_far ?_ NB1136_1159.out _; (with_reducible repeat (first | refine zN ?_ _ | refine zD ?_ | refine zB ?_ _)); exact BKIK.out) hb); have n10_ := zA (blk_below (g := gF) (o := .cells #[.int .i64 t1137, .int .i64 t1138, .slice Ao47 t1139.length co47] 24 (0, 0)) (by (with_reducible repeat (first | refine zN ?_ _ | refine zD ?_ | refine zB ?_ _)); refine blk_far ?_ NB1143_1159.out _; (with_reducible repeat (first | refine zN ?_ _ | refine zD ?_ | refine zB ?_ _)); refine blk_far ?_ NB1143_1159.out _; (with_reducible repeat (first | refine zN ?_ _ | refine zD ?_ | refine zB ?_ _)); refine blk_far ?_ NB1143_1159.out _; (with_reducible repeat (first | refine zN ?_ _ | refine zD ?_ | refine zB ?_ _)); exact BKIR.out) hb); have n11_ := zA (blk_below (g := gG) (o := .cells #[.int .i64 t1153, .int .i64 t1154, .slice Ao78 t1155.length co78] 24 (0, 0)) (by (with_reducible repeat (first | refine zN ?_ _ | refine zD ?_ | refine zB ?_ _)); refine blk_put (cs := #[.int .i64 t1153, .int .i64 t1154, .slice none 0 0]) ?_ 2 _ rfl; (with_reducible repeat (first | refine zN ?_ _ | refine zD ?_ | refine zB ?_ _)); refine blk_put (cs := #[.int .i64 t1153, .int .i64 0, .slice none 0 0]) ?_ 1 _ rfl; (with_reducible repeat (first | refine zN ?_ _ | refine zD ?_ | refine zB ?_ _)); refine blk_put (cs := #[.int .i64 0, .int .i64 0, .slice none 0 0]) ?_ 0 _ rfl; (with_reducible repeat (first | refine zN ?_ _ | refine zD ?_ | refine zB ?_ _)); exact BKIh.out) hb); have n12_ := zA (below_step (by repeat (first | (with_reducible first | exact HB.out | apply zW | apply zX | apply zY | refine zS ?_ GEHr.out | refine zS ?_ GEHs.out | refine zS ?_ GEHz.out | refine zS ?_ GEID.out | refine zS ?_ GEIK.out | refine zS ?_ GEIR.out | refine zS ?_ GEIh.out) | exact HB.out)) hb); clear HO_1116002; clear HO_1130002; clear HO_1137002; clear HO_1144002; clear HOIf; clear BKHr; clear BKHs; clear BKHz; clear BKID; clear BKIK; clear BKIR; clear BKIh; clear HB; have HO_1116002 := n0_; have HO_1130002 := n1_; have HO_1137002 := n2_; have HO_1144002 := n3_; have HOIf := n4_; have BKHr := n5_; have BKHs := n6_; have BKHz := n7_; have BKID := n8_; have BKIK := n9_; have BKIR := n10_; have BKIh := n11_; have HB := n12_; clear n0_ n1_ n2_ n3_ n4_ n5_ n6_ n7_ n8_ n9_ n10_ n11_ n12_; (try clear hb); (try clear hb2); (try clear hk); (try clear hi)) | (go_at_call 17; (with_reducible refine (kimberlitelaw03_alive.calls  t1163 _ A57.out).mono ?_); rintro e w84 ⟨rfl, hb⟩; have n0_ := zA (Kd.R_below (by (with_reducible repeat (first | apply Kd.R_alloc | apply Kd.R_drewN | apply Kd.R_drew)); exact HO_1116002.out) hb); have n1_ := zA (Kd.R_below (by (with_reducible repeat (first | apply Kd.R_alloc | apply Kd.R_drewN | apply Kd.R_drew)); exact HO_1130002.out) hb); have n2_ := zA (Kd.R_below (by (with_reducible repeat (first | apply Kd.R_alloc | apply Kd.R_drewN | apply Kd.R_drew)); exact HO_1137002.out) hb); have n3_ := zA (Kd.R_below (by (with_reducible repeat (first | apply Kd.R_alloc | apply Kd.R_drewN | apply Kd.R_drew)); exact HO_1144002.out) hb); have n4_ := zA (Kd.R_below (by (with_reducible repeat (first | apply Kd.R_alloc | apply Kd.R_drewN | apply Kd.R_drew)); exact HOIf.out) hb); have n5_ := zA (blk_below (g := gA) (o := .cells #[.int .i64 a0_0, .int .i64 a0_1, .slice A0_2 l0_2.length c0_2] 24 (0, 0)) (by (with_reducible repeat (first | refine zN ?_ _ | refine zD ?_ | refine zB ?_ _)); exact BKHr.out) hb); have n6_ := zA (blk_below (g := gB) (o := .cells #[.int .i64 a1_0, .int .i64 a1_1, .slice A1_2 l1_2.length c1_2] 24 (0, 0)) (by (with_reducible repeat (first | refine zN ?_ _ | refine zD ?_ | refine zB ?_ _)); exact BKHs.out) hb); have n7_ := zA (blk_below (g := gC) (o := .cells #[.int .i64 t1109, .int .i64 t1110, .slice Ao21 t1111.length co21] 24 (0, 0)) (by (with_reducible repeat (first | refine zN ?_ _ | refine zD ?_ | refine zB ?_ _)); exact BKHz.out) hb); have n8_ := zA (blk_below (g := gD) (o := .cells #[.int .i64 t1123, .int .i64 t1124, .slice Ao28 t1125.length co28] 24 (0, 0)) (by (with_reducible repeat (first | refine zN ?_ _ | refine zD ?_ | refine zB ?_ _)); exact BKID.out) hb); have n9_ := zA (blk_below (g := gE) (o := .cells #[.int .i64 t1130, .int .i64 t1131, .slice Ao37 t1132.length co37] 24 (0, 0)) (by (with_reducible repeat (first | refine zN ?_ _ | refine zD ?_ | refine zB ?_ _)); exact BKIK.out) hb); have n10_ := zA (blk_below (g := gF) (o := .cells #[.int .i64 t1137, .int .i64 t1138, .slice Ao47 t1139.length co47] 24 (0, 0)) (by (with_reducible repeat (first | refine zN ?_ _ | refine zD ?_ | refine zB ?_ _)); exact BKIR.out) hb); have n11_ := zA (blk_below (g := gG) (o := .cells #[.int .i64 t1153, .int .i64 t1154, .slice Ao78 t1155.length co78] 24 (0, 0)) (by (with_reducible repeat (first | refine zN ?_ _ | refine zD ?_ | refine zB ?_ _)); exact BKIh.out) hb); have n12_ := zA (below_step (by repeat (first | (with_reducible first | exact HB.out | apply zW | apply zX | apply zY | refine zS ?_ GEHr.out | refine zS ?_ GEHs.out | refine zS ?_ GEHz.out | refine zS ?_ GEID.out | refine zS ?_ GEIK.out | refine zS ?_ GEIR.out | refine zS ?_ GEIh.out) | exact HB.out)) hb); clear HO_1116002; clear HO_1130002; clear HO_1137002; clear HO_1144002; clear HOIf; clear BKHr; clear BKHs; clear BKHz; clear BKID; clear BKIK; clear BKIR; clear BKIh; clear HB; have HO_1116002 := n0_; have HO_1130002 := n1_; have HO_1137002 := n2_; have HO_1144002 := n3_; have HOIf := n4_; have BKHr := n5_; have BKHs := n6_; have BKHz := n7_; have BKID := n8_; have BKIK := n9_; have BKIR := n10_; have BKIh := n11_; have HB := n12_; clear n0_ n1_ n2_ n3_ n4_ n5_ n6_ n7_ n8_ n9_ n10_ n11_ n12_; (try clear hb); (try clear hb2); (try clear hk); (try clear hi)))
       go_ret
       exact ⟨by first | rfl | (simp [errW_none, errW_some] <;> rfl) | (simp [*, errW_none, errW_some] <;> rfl), by repeat (first | (with_reducible first | exact HB.out | apply zW | apply zX | apply zY | refine zS ?_ GEHr.out | refine zS ?_ GEHs.out | refine zS ?_ GEHz.out | refine zS ?_ GEID.out | refine zS ?_ GEIK.out | refine zS ?_ GEIR.out | refine zS ?_ GEIh.out) | exact HB.out)⟩
      ·
       replace c56 := Bool.eq_false_iff.mpr c56
       subst c56
       have H1 : (none) = some r := by rw [if_neg (show ¬ (false = true) by decide)] at H; exact H
       clear H
       have H := H1
       clear H1
       exact absurd H (by simp)
     ·
      rw [if_neg c54] at H
      have c54b0 : (t1158 == 0) = false := beq_eq_false_iff_ne.mpr c54
      have c54b1 : (t1158 != 0) = true := bne_iff_ne.mpr c54
      by_cases c85 : t1158 = 4
      ·
       rw [if_pos c85] at H
       have c85b0 : (t1158 == 4) = true := beq_iff_eq.mpr c85
       have c85b1 : (t1158 != 4) = false := bne_eq_false_iff_eq.mpr c85
       clear c85
       replace H := Option.bind_eq_some_iff.mp H
       obtain ⟨t1160, A860, H⟩ := H
       replace H : (some t1160) = some r := H
       have A86 := zA A860
       clear A860
       obtain rfl := Option.some.inj H
       have hnb87 := NB1136_1107.out
       have hnc87 := NB1107_1136.out
       have hnb88 := NB1136_1108.out
       have hnc88 := NB1108_1136.out
       have hnb89 := NB1136_1115.out
       have hnc89 := NB1115_1136.out
       have hnb90 := NB1136_1129.out
       have hnc90 := NB1129_1136.out
       have hnb91 := NB1136_1143.out
       have hnc91 := NB1143_1136.out
       have hcz92_0 : wc.cell? ⟨gE, 0, none⟩ = some (.int .i64 t1130) := (blk_cell BKIK.out 0).trans rfl
       have hcz92_1 : wc.cell? ⟨gE, 1, none⟩ = some (.int .i64 t1131) := (blk_cell BKIK.out 1).trans rfl
       have hcz92_2 : wc.cell? ⟨gE, 2, none⟩ = some (.slice Ao37 t1132.length co37) := (blk_cell BKIK.out 2).trans rfl
       have hfz92_0 := blk_frozen BKIK.out 0
       have hfz92_1 := blk_frozen BKIK.out 1
       have hfz92_2 := blk_frozen BKIK.out 2
       have hnb93 := NB1143_1107.out
       have hnc93 := NB1107_1143.out
       have hnb94 := NB1143_1108.out
       have hnc94 := NB1108_1143.out
       have hnb95 := NB1143_1115.out
       have hnc95 := NB1115_1143.out
       have hnb96 := NB1143_1129.out
       have hnc96 := NB1129_1143.out
       have hcz97_0 : wc.cell? ⟨gF, 0, none⟩ = some (.int .i64 t1137) := (blk_cell BKIR.out 0).trans rfl
       have hcz97_1 : wc.cell? ⟨gF, 1, none⟩ = some (.int .i64 t1138) := (blk_cell BKIR.out 1).trans rfl
       have hcz97_2 : wc.cell? ⟨gF, 2, none⟩ = some (.slice Ao47 t1139.length co47) := (blk_cell BKIR.out 2).trans rfl
       have hfz97_0 := blk_frozen BKIR.out 0
       have hfz97_1 := blk_frozen BKIR.out 1
       have hfz97_2 := blk_frozen BKIR.out 2
       go_wp2_with (first | ((with_reducible refine gate_callee (f := 38) rfl ?_); refine goesL_ (some 63) rfl rfl Try.func38 (by kernel_rfl) rfl #[.agg #[.int .i64 t1130, .int .i64 t1131, .slice Ao37 t1132.length co37], .agg #[.int .i64 t1137, .int .i64 t1138, .slice Ao47 t1139.length co47]] rfl (by (try simp only [List.map_toArray, List.map_cons, List.map_nil]); first | done | rfl | (simp only [List.length_drop, List.length_take]; rfl)) ?_; (with_reducible refine (curve_Add.calls t1130 t1131 _ _ t1132 t1137 t1138 _ _ t1139 t1153 t1154 t1155 t1158 _ ?side1 ?side2 ?side3 ?side4 A53.out).mono ?_); (case side1 => repeat (first | exact (Kd.R_reads' HO_1137002.out).2.2 | (with_reducible refine Kd.C_alloc ?_ _) | (with_reducible refine Kd.C_drewN ?_ _) | (with_reducible refine Kd.C_drew ?_))); (case side2 => exact (Kd.R_reads' HO_1137002.out).2.1); (case side3 => repeat (first | exact (Kd.R_reads' HO_1144002.out).2.2 | (with_reducible refine Kd.C_alloc ?_ _) | (with_reducible refine Kd.C_drewN ?_ _) | (with_reducible refine Kd.C_drew ?_))); (case side4 => exact (Kd.R_reads' HO_1144002.out).2.1); rintro e w98 ⟨v1156, rfl, ho0, hb⟩; refine ⟨_, rfl, ?_⟩; have n0_ := zA (Kd.R_elder' (by (with_reducible repeat (first | apply Kd.R_alloc | apply Kd.R_drewN | apply Kd.R_drew)); exact HO_1116002.out) (Kd.R_base ho0) hb); have n1_ := zA (Kd.R_elder' (by (with_reducible repeat (first | apply Kd.R_alloc | apply Kd.R_drewN | apply Kd.R_drew)); exact HO_1130002.out) (Kd.R_base ho0) hb); have n2_ := zA (Kd.R_elder' (by (with_reducible repeat (first | apply Kd.R_alloc | apply Kd.R_drewN | apply Kd.R_drew)); exact HO_1137002.out) (Kd.R_base ho0) hb); have n3_ := zA (Kd.R_elder' (by (with_reducible repeat (first | apply Kd.R_alloc | apply Kd.R_drewN | apply Kd.R_drew)); exact HO_1144002.out) (Kd.R_base ho0) hb); have n4_ := zA (Kd.R_lower (Kd.R_new' (Kd.R_new' (Kd.R_new' (Kd.R_new' ho0 (Kd.R_lt (by (with_reducible repeat (first | apply Kd.R_alloc | apply Kd.R_drewN | apply Kd.R_drew)); exact HO_1116002.out))) (Kd.R_lt (by (with_reducible repeat (first | apply Kd.R_alloc | apply Kd.R_drewN | apply Kd.R_drew)); exact HO_1130002.out))) (Kd.R_lt (by (with_reducible repeat (first | apply Kd.R_alloc | apply Kd.R_drewN | apply Kd.R_drew)); exact HO_1137002.out))) (Kd.R_lt (by (with_reducible repeat (first | apply Kd.R_alloc | apply Kd.R_drewN | apply Kd.R_drew)); exact HO_1144002.out))) (below_size (by repeat (first | (with_reducible first | exact HB.out | apply zW | apply zX | apply zY | refine zS ?_ GEHr.out | refine zS ?_ GEHs.out | refine zS ?_ GEHz.out | refine zS ?_ GEID.out | refine zS ?_ GEIK.out | refine zS ?_ GEIR.out) | exact HB.out)))); have n5_ := zA (blk_below (g := gA) (o := .cells #[.int .i64 a0_0, .int .i64 a0_1, .slice A0_2 l0_2.length c0_2] 24 (0, 0)) (by (with_reducible repeat (first | refine zN ?_ _ | refine zD ?_ | refine zB ?_ _)); exact BKHr.out) hb); have n6_ := zA (blk_below (g := gB) (o := .cells #[.int .i64 a1_0, .int .i64 a1_1, .slice A1_2 l1_2.length c1_2] 24 (0, 0)) (by (with_reducible repeat (first | refine zN ?_ _ | refine zD ?_ | refine zB ?_ _)); exact BKHs.out) hb); have n7_ := zA (blk_below (g := gC) (o := .cells #[.int .i64 t1109, .int .i64 t1110, .slice Ao21 t1111.length co21] 24 (0, 0)) (by (with_reducible repeat (first | refine zN ?_ _ | refine zD ?_ | refine zB ?_ _)); exact BKHz.out) hb); have n8_ := zA (blk_below (g := gD) (o := .cells #[.int .i64 t1123, .int .i64 t1124, .slice Ao28 t1125.length co28] 24 (0, 0)) (by (with_reducible repeat (first | refine zN ?_ _ | refine zD ?_ | refine zB ?_ _)); exact BKID.out) hb); have n9_ := zA (blk_below (g := gE) (o := .cells #[.int .i64 t1130, .int .i64 t1131, .slice Ao37 t1132.length co37] 24 (0, 0)) (by (with_reducible repeat (first | refine zN ?_ _ | refine zD ?_ | refine zB ?_ _)); exact BKIK.out) hb); have n10_ := zA (blk_below (g := gF) (o := .cells #[.int .i64 t1137, .int .i64 t1138, .slice Ao47 t1139.length co47] 24 (0, 0)) (by (with_reducible repeat (first | refine zN ?_ _ | refine zD ?_ | refine zB ?_ _)); exact BKIR.out) hb); have n11_ := zA (below_step (by repeat (first | (with_reducible first | exact HB.out | apply zW | apply zX | apply zY | refine zS ?_ GEHr.out | refine zS ?_ GEHs.out | refine zS ?_ GEHz.out | refine zS ?_ GEID.out | refine zS ?_ GEIK.out | refine zS ?_ GEIR.out) | exact HB.out)) hb); clear HO_1116002; clear HO_1130002; clear HO_1137002; clear HO_1144002; clear BKHr; clear BKHs; clear BKHz; clear BKID; clear BKIK; clear BKIR; clear HB; have HO_1116002 := n0_; have HO_1130002 := n1_; have HO_1137002 := n2_; have HO_1144002 := n3_; have HOIf := n4_; have BKHr := n5_; have BKHs := n6_; have BKHz := n7_; have BKID := n8_; have BKIK := n9_; have BKIR := n10_; have HB := n11_; clear n0_ n1_ n2_ n3_ n4_ n5_ n6_ n7_ n8_ n9_ n10_ n11_; (try clear hb); (try clear hb2); (try clear hk); (try clear hi); (try clear ho0)) | ((with_reducible refine gate_dst (N := 17) rfl ?_); refine box_event ?hg (N := 17) ?hd (cs := #[.int .i64 0, .int .i64 0, .slice none 0 0]) (t := 24) ?hr ?_; (case hd => rfl); (case hg => rfl); (case hr => first | (go_simp; done) | (go_simp; rfl)); intro gG hg w99 hbox hb; have n0_ := zA (Kd.R_below (by (with_reducible repeat (first | apply Kd.R_alloc | apply Kd.R_drewN | apply Kd.R_drew)); exact HO_1116002.out) hb); have n1_ := zA (Kd.R_below (by (with_reducible repeat (first | apply Kd.R_alloc | apply Kd.R_drewN | apply Kd.R_drew)); exact HO_1130002.out) hb); have n2_ := zA (Kd.R_below (by (with_reducible repeat (first | apply Kd.R_alloc | apply Kd.R_drewN | apply Kd.R_drew)); exact HO_1137002.out) hb); have n3_ := zA (Kd.R_below (by (with_reducible repeat (first | apply Kd.R_alloc | apply Kd.R_drewN | apply Kd.R_drew)); exact HO_1144002.out) hb); have n4_ := zA (Kd.R_below (by (with_reducible repeat (first | apply Kd.R_alloc | apply Kd.R_drewN | apply Kd.R_drew)); exact HOIf.out) hb); have n5_ := zA (blk_below (g := gA) (o := .cells #[.int .i64 a0_0, .int .i64 a0_1, .slice A0_2 l0_2.length c0_2] 24 (0, 0)) (by (with_reducible repeat (first | refine zN ?_ _ | refine zD ?_ | refine zB ?_ _)); exact BKHr.out) hb); have n6_ := zA (blk_below (g := gB) (o := .cells #[.int .i64 a1_0, .int .i64 a1_1, .slice A1_2 l1_2.length c1_2] 24 (0, 0)) (by (with_reducible repeat (first | refine zN ?_ _ | refine zD ?_ | refine zB ?_ _)); exact BKHs.out) hb); have n7_ := zA (blk_below (g := gC) (o := .cells #[.int .i64 t1109, .int .i64 t1110, .slice Ao21 t1111.length co21] 24 (0, 0)) (by (with_reducible repeat (first | refine zN ?_ _ | refine zD ?_ | refine zB ?_ _)); exact BKHz.out) hb); have n8_ := zA (blk_below (g := gD) (o := .cells #[.int .i64 t1123, .int .i64 t1124, .slice Ao28 t1125.length co28] 24 (0, 0)) (by (with_reducible repeat (first | refine zN ?_ _ | refine zD ?_ | refine zB ?_ _)); exact BKID.out) hb); have n9_ := zA (blk_below (g := gE) (o := .cells #[.int .i64 t1130, .int .i64 t1131, .slice Ao37 t1132.length co37] 24 (0, 0)) (by (with_reducible repeat (first | refine zN ?_ _ | refine zD ?_ | refine zB ?_ _)); exact BKIK.out) hb); have n10_ := zA (blk_below (g := gF) (o := .cells #[.int .i64 t1137, .int .i64 t1138, .slice Ao47 t1139.length co47] 24 (0, 0)) (by (with_reducible repeat (first | refine zN ?_ _ | refine zD ?_ | refine zB ?_ _)); exact BKIR.out) hb); have n11_ := zA (below_step (by repeat (first | (with_reducible first | exact HB.out | apply zW | apply zX | apply zY | refine zS ?_ GEHr.out | refine zS ?_ GEHs.out | refine zS ?_ GEHz.out | refine zS ?_ GEID.out | refine zS ?_ GEIK.out | refine zS ?_ GEIR.out) | exact HB.out)) hb); have n12_ := zA (hbox); have n13_ := zA ((by rw [hg]; exact (below_size (by repeat (first | (with_reducible first | exact HB.out | apply zW | apply zX | apply zY | refine zS ?_ GEHr.out | refine zS ?_ GEHs.out | refine zS ?_ GEHz.out | refine zS ?_ GEID.out | refine zS ?_ GEIK.out | refine zS ?_ GEIR.out) | exact HB.out))) : w.heap.size ≤ gG)); have n14_ := zA ((by rw [hg]; exact (below_size (by repeat (first | (with_reducible first | exact HB.out | apply zW | apply zX | apply zY | refine zS ?_ GEHr.out | refine zS ?_ GEHs.out | refine zS ?_ GEHz.out | refine zS ?_ GEID.out | refine zS ?_ GEIK.out | refine zS ?_ GEIR.out) | exact HB.out))) : w.heap.size ≤ gG)); have n15_ := zA ((by rw [hg]; exact Nat.ne_of_lt (blk_lt (g := gA) (o := .cells #[.int .i64 a0_0, .int .i64 a0_1, .slice A0_2 l0_2.length c0_2] 24 (0, 0)) (by (with_reducible repeat (first | refine zN ?_ _ | refine zD ?_ | refine zB ?_ _)); exact BKHr.out)) : gA ≠ gG)); have n16_ := zA ((by rw [hg]; exact Nat.ne_of_gt (blk_lt (g := gA) (o := .cells #[.int .i64 a0_0, .int .i64 a0_1, .slice A0_2 l0_2.length c0_2] 24 (0, 0)) (by (with_reducible repeat (first | refine zN ?_ _ | refine zD ?_ | refine zB ?_ _)); exact BKHr.out)) : gG ≠ gA)); have n17_ := zA ((by rw [hg]; exact Nat.ne_of_lt (blk_lt (g := gB) (o := .cells #[.int .i64 a1_0, .int .i64 a1_1, .slice A1_2 l1_2.length c1_2] 24 (0, 0)) (by (with_reducible repeat (first | refine zN ?_ _ | refine zD ?_ | refine zB ?_ _)); exact BKHs.out)) : gB ≠ gG)); have n18_ := zA ((by rw [hg]; exact Nat.ne_of_gt (blk_lt (g := gB) (o := .cells #[.int .i64 a1_0, .int .i64 a1_1, .slice A1_2 l1_2.length c1_2] 24 (0, 0)) (by (with_reducible repeat (first | refine zN ?_ _ | refine zD ?_ | refine zB ?_ _)); exact BKHs.out)) : gG ≠ gB)); have n19_ := zA ((by rw [hg]; exact Nat.ne_of_lt (blk_lt (g := gC) (o := .cells #[.int .i64 t1109, .int .i64 t1110, .slice Ao21 t1111.length co21] 24 (0, 0)) (by (with_reducible repeat (first | refine zN ?_ _ | refine zD ?_ | refine zB ?_ _)); exact BKHz.out)) : gC ≠ gG)); have n20_ := zA ((by rw [hg]; exact Nat.ne_of_gt (blk_lt (g := gC) (o := .cells #[.int .i64 t1109, .int .i64 t1110, .slice Ao21 t1111.length co21] 24 (0, 0)) (by (with_reducible repeat (first | refine zN ?_ _ | refine zD ?_ | refine zB ?_ _)); exact BKHz.out)) : gG ≠ gC)); have n21_ := zA ((by rw [hg]; exact Nat.ne_of_lt (blk_lt (g := gD) (o := .cells #[.int .i64 t1123, .int .i64 t1124, .slice Ao28 t1125.length co28] 24 (0, 0)) (by (with_reducible repeat (first | refine zN ?_ _ | refine zD ?_ | refine zB ?_ _)); exact BKID.out)) : gD ≠ gG)); have n22_ := zA ((by rw [hg]; exact Nat.ne_of_gt (blk_lt (g := gD) (o := .cells #[.int .i64 t1123, .int .i64 t1124, .slice Ao28 t1125.length co28] 24 (0, 0)) (by (with_reducible repeat (first | refine zN ?_ _ | refine zD ?_ | refine zB ?_ _)); exact BKID.out)) : gG ≠ gD)); have n23_ := zA ((by rw [hg]; exact Nat.ne_of_lt (blk_lt (g := gE) (o := .cells #[.int .i64 t1130, .int .i64 t1131, .slice Ao37 t1132.length co37] 24 (0, 0)) (by (with_reducible repeat (first | refine zN ?_ _ | refine zD ?_ | refine zB ?_ _)); exact BKIK.out)) : gE ≠ gG)); have n24_ := zA ((by rw [hg]; exact Nat.ne_of_gt (blk_lt (g := gE) (o := .cells #[.int .i64 t1130, .int .i64 t1131, .slice Ao37 t1132.length co37] 24 (0, 0)) (by (with_reducible repeat (first | refine zN ?_ _ | refine zD ?_ | refine zB ?_ _)); exact BKIK.out)) : gG ≠ gE)); have n25_ := zA ((by rw [hg]; exact Nat.ne_of_lt (blk_lt (g := gF) (o := .cells #[.int .i64 t1137, .int .i64 t1138, .slice Ao47 t1139.length co47] 24 (0, 0)) (by (with_reducible repeat (first | refine zN ?_ _ | refine zD ?_ | refine zB ?_ _)); exact BKIR.out)) : gF ≠ gG)); have n26_ := zA ((by rw [hg]; exact Nat.ne_of_gt (blk_lt (g := gF) (o := .cells #[.int .i64 t1137, .int .i64 t1138, .slice Ao47 t1139.length co47] 24 (0, 0)) (by (with_reducible repeat (first | refine zN ?_ _ | refine zD ?_ | refine zB ?_ _)); exact BKIR.out)) : gG ≠ gF)); clear HO_1116002; clear HO_1130002; clear HO_1137002; clear HO_1144002; clear HOIf; clear BKHr; clear BKHs; clear BKHz; clear BKID; clear BKIK; clear BKIR; clear HB; have HO_1116002 := n0_; have HO_1130002 := n1_; have HO_1137002 := n2_; have HO_1144002 := n3_; have HOIf := n4_; have BKHr := n5_; have BKHs := n6_; have BKHz := n7_; have BKID := n8_; have BKIK := n9_; have BKIR := n10_; have HB := n11_; have BKIh := n12_; have GWIh := n13_; have GEIh := n14_; have NB1107_1159 := n15_; have NB1159_1107 := n16_; have NB1108_1159 := n17_; have NB1159_1108 := n18_; have NB1115_1159 := n19_; have NB1159_1115 := n20_; have NB1129_1159 := n21_; have NB1159_1129 := n22_; have NB1136_1159 := n23_; have NB1159_1136 := n24_; have NB1143_1159 := n25_; have NB1159_1143 := n26_; clear n0_ n1_ n2_ n3_ n4_ n5_ n6_ n7_ n8_ n9_ n10_ n11_ n12_ n13_ n14_ n15_ n16_ n17_ n18_ n19_ n20_ n21_ n22_ n23_ n24_ n25_ n26_; clear hb hbox hg; have hnb100 := NB1159_1107.out; have hnc100 := NB1107_1159.out; have hnb101 := NB1159_1108.out; have hnc101 := NB1108_1159.out; have hnb102 := NB1159_1115.out; have hnc102 := NB1115_1159.out; have hnb103 := NB1159_1129.out; have hnc103 := NB1129_1159.out; have hnb104 := NB1159_1136.out; have hnc104 := NB1136_1159.out; have hnb105 := NB1159_1143.out; have hnc105 := NB1143_1159.out; have hcz106_0 : w99.cell? ⟨gG, 0, none⟩ = some (.int .i64 0) := (blk_cell BKIh.out 0).trans rfl; have hcz106_1 : w99.cell? ⟨gG, 1, none⟩ = some (.int .i64 0) := (blk_cell BKIh.out 1).trans rfl; have hcz106_2 : w99.cell? ⟨gG, 2, none⟩ = some (.slice none 0 0) := (blk_cell BKIh.out 2).trans rfl; have hfz106_0 := blk_frozen BKIh.out 0; have hfz106_1 := blk_frozen BKIh.out 1; have hfz106_2 := blk_frozen BKIh.out 2; obtain ⟨Ao107, co107, eo107⟩ := Kd.R_slice HOIf.out; subst eo107) | (go_at_call 17; (with_reducible refine (kimberlitelaw03_alive.calls  t1160 _ A86.out).mono ?_); rintro e w108 ⟨rfl, hb⟩; have n0_ := zA (Kd.R_below (by (with_reducible repeat (first | apply Kd.R_alloc | apply Kd.R_drewN | apply Kd.R_drew)); exact (Kd.R_mono (Kd.R_far (p := ⟨gG, 2, none⟩) (Kd.R_far (p := ⟨gG, 1, none⟩) (Kd.R_far (p := ⟨gG, 0, none⟩) (Kd.R_types HO_1116002.out BKIh.out (by decide)) (fun _ hk => hk.2) (.int .i64 t1153)) (fun _ hk => hk.2) (.int .i64 t1154)) (fun _ hk => hk.2) (.slice Ao107 t1155.length co107)) (fun _ h_ => h_.1))) hb); have n1_ := zA (Kd.R_below (by (with_reducible repeat (first | apply Kd.R_alloc | apply Kd.R_drewN | apply Kd.R_drew)); exact (Kd.R_mono (Kd.R_far (p := ⟨gG, 2, none⟩) (Kd.R_far (p := ⟨gG, 1, none⟩) (Kd.R_far (p := ⟨gG, 0, none⟩) (Kd.R_types HO_1130002.out BKIh.out (by decide)) (fun _ hk => hk.2) (.int .i64 t1153)) (fun _ hk => hk.2) (.int .i64 t1154)) (fun _ hk => hk.2) (.slice Ao107 t1155.length co107)) (fun _ h_ => h_.1))) hb); have n2_ := zA (Kd.R_below (by (with_reducible repeat (first | apply Kd.R_alloc | apply Kd.R_drewN | apply Kd.R_drew)); exact (Kd.R_mono (Kd.R_far (p := ⟨gG, 2, none⟩) (Kd.R_far (p := ⟨gG, 1, none⟩) (Kd.R_far (p := ⟨gG, 0, none⟩) (Kd.R_types HO_1137002.out BKIh.out (by decide)) (fun _ hk => hk.2) (.int .i64 t1153)) (fun _ hk => hk.2) (.int .i64 t1154)) (fun _ hk => hk.2) (.slice Ao107 t1155.length co107)) (fun _ h_ => h_.1))) hb); have n3_ := zA (Kd.R_below (by (with_reducible repeat (first | apply Kd.R_alloc | apply Kd.R_drewN | apply Kd.R_drew)); exact (Kd.R_mono (Kd.R_far (p := ⟨gG, 2, none⟩) (Kd.R_far (p := ⟨gG, 1, none⟩) (Kd.R_far (p := ⟨gG, 0, none⟩) (Kd.R_types HO_1144002.out BKIh.out (by decide)) (fun _ hk => hk.2) (.int .i64 t1153)) (fun _ hk => hk.2) (.int .i64 t1154)) (fun _ hk => hk.2) (.slice Ao107 t1155.length co107)) (fun _ h_ => h_.1))) hb); have n4_ := zA (Kd.R_below (by (with_reducible repeat (first | apply Kd.R_alloc | apply Kd.R_drewN | apply Kd.R_drew)); exact (Kd.R_mono (Kd.R_far (p := ⟨gG, 2, none⟩) (Kd.R_far (p := ⟨gG, 1, none⟩) (Kd.R_far (p := ⟨gG, 0, none⟩) (Kd.R_types HOIf.out BKIh.out (by decide)) (fun _ hk => hk.2) (.int .i64 t1153)) (fun _ hk => hk.2) (.int .i64 t1154)) (fun _ hk => hk.2) (.slice Ao107 t1155.length co107)) (fun _ h_ => h_.1))) hb); have n5_ := zA (blk_below (g := gA) (o := .cells #[.int .i64 a0_0, .int .i64 a0_1, .slice A0_2 l0_2.length c0_2] 24 (0, 0)) (by (with_reducible repeat (first | refine zN ?_ _ | refine zD ?_ | refine zB ?_ _)); refine blk_far ?_ NB1107_1159.out _; (with_reducible repeat (first | refine zN ?_ _ | refine zD ?_ | refine zB ?_ _)); refine blk_far ?_ NB1107_1159.out _; (with_reducible repeat (first | refine zN ?_ _ | refine zD ?_ | refine zB ?_ _)); refine blk_far ?_ NB1107_1159.out _; (with_reducible repeat (first | refine zN ?_ _ | refine zD ?_ | refine zB ?_ _)); exact BKHr.out) hb); have n6_ := zA (blk_below (g := gB) (o := .cells #[.int .i64 a1_0, .int .i64 a1_1, .slice A1_2 l1_2.length c1_2] 24 (0, 0)) (by (with_reducible repeat (first | refine zN ?_ _ | refine zD ?_ | refine zB ?_ _)); refine blk_far ?_ NB1108_1159.out _; (with_reducible repeat (first | refine zN ?_ _ | refine zD ?_ | refine zB ?_ _)); refine blk_far ?_ NB1108_1159.out _; (with_reducible repeat (first | refine zN ?_ _ | refine zD ?_ | refine zB ?_ _)); refine blk_far ?_ NB1108_1159.out _; (with_reducible repeat (first | refine zN ?_ _ | refine zD ?_ | refine zB ?_ _)); exact BKHs.out) hb); have n7_ := zA (blk_below (g := gC) (o := .cells #[.int .i64 t1109, .int .i64 t1110, .slice Ao21 t1111.length co21] 24 (0, 0)) (by (with_reducible repeat (first | refine zN ?_ _ | refine zD ?_ | refine zB ?_ _)); refine blk_far ?_ NB1115_1159.out _; (with_reducible repeat (first | refine zN ?_ _ | refine zD ?_ | refine zB ?_ _)); refine blk_far ?_ NB1115_1159.out _; (with_reducible repeat (first | refine zN ?_ _ | refine zD ?_ | refine zB ?_ _)); refine blk_far ?_ NB1115_1159.out _; (with_reducible repeat (first | refine zN ?_ _ | refine zD ?_ | refine zB ?_ _)); exact BKHz.out) hb); have n8_ := zA (blk_below (g := gD) (o := .cells #[.int .i64 t1123, .int .i64 t1124, .slice Ao28 t1125.length co28] 24 (0, 0)) (by (with_reducible repeat (first | refine zN ?_ _ | refine zD ?_ | refine zB ?_ _)); refine blk_far ?_ NB1129_1159.out _; (with_reducible repeat (first | refine zN ?_ _ | refine zD ?_ | refine zB ?_ _)); refine blk_far ?_ NB1129_1159.out _; (with_reducible repeat (first | refine zN ?_ _ | refine zD ?_ | refine zB ?_ _)); refine blk_far ?_ NB1129_1159.out _; (with_reducible repeat (first | refine zN ?_ _ | refine zD ?_ | refine zB ?_ _)); exact BKID.out) hb); have n9_ := zA (blk_below (g := gE) (o := .cells #[.int .i64 t1130, .int .i64 t1131, .slice Ao37 t1132.length co37] 24 (0, 0)) (by (with_reducible repeat (first | refine zN ?_ _ | refine zD ?_ | refine zB ?_ _)); refine blk_far ?_ NB1136_1159.out _; (with_reducible repeat (first | refine zN ?_ _ | refine zD ?_ | refine zB ?_ _)); refine blk_far ?_ NB1136_1159.out _; (with_reducible repeat (first | refine zN ?_ _ | refine zD ?_ | refine zB ?_ _)); refine blk_far ?_ NB1136_1159.out _; (with_reducible repeat (first | refine zN ?_ _ | refine zD ?_ | refine zB ?_ _)); exact BKIK.out) hb); have n10_ := zA (blk_below (g := gF) (o := .cells #[.int .i64 t1137, .int .i64 t1138, .slice Ao47 t1139.length co47] 24 (0, 0)) (by (with_reducible repeat (first | refine zN ?_ _ | refine zD ?_ | refine zB ?_ _)); refine blk_far ?_ NB1143_1159.out _; (with_reducible repeat (first | refine zN ?_ _ | refine zD ?_ | refine zB ?_ _)); refine blk_far ?_ NB1143_1159.out _; (with_reducible repeat (first | refine zN ?_ _ | refine zD ?_ | refine zB ?_ _)); refine blk_far ?_ NB1143_1159.out _; (with_reducible repeat (first | refine zN ?_ _ | refine zD ?_ | refine zB ?_ _)); exact BKIR.out) hb); have n11_ := zA (blk_below (g := gG) (o := .cells #[.int .i64 t1153, .int .i64 t1154, .slice Ao107 t1155.length co107] 24 (0, 0)) (by (with_reducible repeat (first | refine zN ?_ _ | refine zD ?_ | refine zB ?_ _)); refine blk_put (cs := #[.int .i64 t1153, .int .i64 t1154, .slice none 0 0]) ?_ 2 _ rfl; (with_reducible repeat (first | refine zN ?_ _ | refine zD ?_ | refine zB ?_ _)); refine blk_put (cs := #[.int .i64 t1153, .int .i64 0, .slice none 0 0]) ?_ 1 _ rfl; (with_reducible repeat (first | refine zN ?_ _ | refine zD ?_ | refine zB ?_ _)); refine blk_put (cs := #[.int .i64 0, .int .i64 0, .slice none 0 0]) ?_ 0 _ rfl; (with_reducible repeat (first | refine zN ?_ _ | refine zD ?_ | refine zB ?_ _)); exact BKIh.out) hb); have n12_ := zA (below_step (by repeat (first | (with_reducible first | exact HB.out | apply zW | apply zX | apply zY | refine zS ?_ GEHr.out | refine zS ?_ GEHs.out | refine zS ?_ GEHz.out | refine zS ?_ GEID.out | refine zS ?_ GEIK.out | refine zS ?_ GEIR.out | refine zS ?_ GEIh.out) | exact HB.out)) hb); clear HO_1116002; clear HO_1130002; clear HO_1137002; clear HO_1144002; clear HOIf; clear BKHr; clear BKHs; clear BKHz; clear BKID; clear BKIK; clear BKIR; clear BKIh; clear HB; have HO_1116002 := n0_; have HO_1130002 := n1_; have HO_1137002 := n2_; have HO_1144002 := n3_; have HOIf := n4_; have BKHr := n5_; have BKHs := n6_; have BKHz := n7_; have BKID := n8_; have BKIK := n9_; have BKIR := n10_; have BKIh := n11_; have HB := n12_; clear n0_ n1_ n2_ n3_ n4_ n5_ n6_ n7_ n8_ n9_ n10_ n11_ n12_; (try clear hb); (try clear hb2); (try clear hk); (try clear hi)))
       go_ret
       exact ⟨by first | rfl | (simp [errW_none, errW_some] <;> rfl) | (simp [*, errW_none, errW_some] <;> rfl), by repeat (first | (with_reducible first | exact HB.out | apply zW | apply zX | apply zY | refine zS ?_ GEHr.out | refine zS ?_ GEHs.out | refine zS ?_ GEHz.out | refine zS ?_ GEID.out | refine zS ?_ GEIK.out | refine zS ?_ GEIR.out | refine zS ?_ GEIh.out) | exact HB.out)⟩
      ·
       rw [if_neg c85] at H
       exact absurd H (by simp)
 ·
  rw [if_neg c6] at H
  have c6b0 : (t1114 == 0) = false := beq_eq_false_iff_ne.mpr c6
  have c6b1 : (t1114 != 0) = true := bne_iff_ne.mpr c6
  replace H := Option.bind_eq_some_iff.mp H
  obtain ⟨t1116, A1090, H⟩ := H
  replace H : (some t1116) = some r := H
  have A109 := zA A1090
  clear A1090
  obtain rfl := Option.some.inj H
  go_enter Try.func12, Try.ntmps12
  go_wp2_with (first | ((with_reducible refine gate_dst (N := 4) rfl ?_); refine box_event ?hg (N := 4) ?hd (cs := #[.int .i64 a0_0, .int .i64 a0_1, .slice A0_2 l0_2.length c0_2]) (t := 24) ?hr ?_; (case hd => rfl); (case hg => rfl); (case hr => first | (go_simp; done) | (go_simp; rfl)); intro gA hg w110 hbox hb; have n0_ := zA (below_step (by repeat (first | (with_reducible first | exact HB.out | apply zW | apply zX | apply zY) | exact HB.out)) hb); have n1_ := zA (hbox); have n2_ := zA ((by rw [hg]; exact (below_size (by repeat (first | (with_reducible first | exact HB.out | apply zW | apply zX | apply zY) | exact HB.out))) : w.heap.size ≤ gA)); have n3_ := zA ((by rw [hg]; exact (below_size (by repeat (first | (with_reducible first | exact HB.out | apply zW | apply zX | apply zY) | exact HB.out))) : w.heap.size ≤ gA)); clear HB; have HB := n0_; have BKHr := n1_; have GWHr := n2_; have GEHr := n3_; clear n0_ n1_ n2_ n3_; clear hb hbox hg) | ((with_reducible refine gate_dst (N := 5) rfl ?_); refine box_event ?hg (N := 5) ?hd (cs := #[.int .i64 a1_0, .int .i64 a1_1, .slice A1_2 l1_2.length c1_2]) (t := 24) ?hr ?_; (case hd => rfl); (case hg => rfl); (case hr => first | (go_simp; done) | (go_simp; rfl)); intro gB hg w111 hbox hb; have n0_ := zA (blk_below (g := gA) (o := .cells #[.int .i64 a0_0, .int .i64 a0_1, .slice A0_2 l0_2.length c0_2] 24 (0, 0)) (by (with_reducible repeat (first | refine zN ?_ _ | refine zD ?_ | refine zB ?_ _)); exact BKHr.out) hb); have n1_ := zA (below_step (by repeat (first | (with_reducible first | exact HB.out | apply zW | apply zX | apply zY | refine zS ?_ GEHr.out) | exact HB.out)) hb); have n2_ := zA (hbox); have n3_ := zA ((by rw [hg]; exact (below_size (by repeat (first | (with_reducible first | exact HB.out | apply zW | apply zX | apply zY | refine zS ?_ GEHr.out) | exact HB.out))) : w.heap.size ≤ gB)); have n4_ := zA ((by rw [hg]; exact (below_size (by repeat (first | (with_reducible first | exact HB.out | apply zW | apply zX | apply zY | refine zS ?_ GEHr.out) | exact HB.out))) : w.heap.size ≤ gB)); have n5_ := zA ((by rw [hg]; exact Nat.ne_of_lt (blk_lt (g := gA) (o := .cells #[.int .i64 a0_0, .int .i64 a0_1, .slice A0_2 l0_2.length c0_2] 24 (0, 0)) (by (with_reducible repeat (first | refine zN ?_ _ | refine zD ?_ | refine zB ?_ _)); exact BKHr.out)) : gA ≠ gB)); have n6_ := zA ((by rw [hg]; exact Nat.ne_of_gt (blk_lt (g := gA) (o := .cells #[.int .i64 a0_0, .int .i64 a0_1, .slice A0_2 l0_2.length c0_2] 24 (0, 0)) (by (with_reducible repeat (first | refine zN ?_ _ | refine zD ?_ | refine zB ?_ _)); exact BKHr.out)) : gB ≠ gA)); clear BKHr; clear HB; have BKHr := n0_; have HB := n1_; have BKHs := n2_; have GWHs := n3_; have GEHs := n4_; have NB1107_1108 := n5_; have NB1108_1107 := n6_; clear n0_ n1_ n2_ n3_ n4_ n5_ n6_; clear hb hbox hg; have hnb112 := NB1107_1108.out; have hnc112 := NB1108_1107.out; have hcz113_0 : w111.cell? ⟨gA, 0, none⟩ = some (.int .i64 a0_0) := (blk_cell BKHr.out 0).trans rfl; have hcz113_1 : w111.cell? ⟨gA, 1, none⟩ = some (.int .i64 a0_1) := (blk_cell BKHr.out 1).trans rfl; have hcz113_2 : w111.cell? ⟨gA, 2, none⟩ = some (.slice A0_2 l0_2.length c0_2) := (blk_cell BKHr.out 2).trans rfl; have hfz113_0 := blk_frozen BKHr.out 0; have hfz113_1 := blk_frozen BKHr.out 1; have hfz113_2 := blk_frozen BKHr.out 2; have hcz114_0 : w111.cell? ⟨gB, 0, none⟩ = some (.int .i64 a1_0) := (blk_cell BKHs.out 0).trans rfl; have hcz114_1 : w111.cell? ⟨gB, 1, none⟩ = some (.int .i64 a1_1) := (blk_cell BKHs.out 1).trans rfl; have hcz114_2 : w111.cell? ⟨gB, 2, none⟩ = some (.slice A1_2 l1_2.length c1_2) := (blk_cell BKHs.out 2).trans rfl; have hfz114_0 := blk_frozen BKHs.out 0; have hfz114_1 := blk_frozen BKHs.out 1; have hfz114_2 := blk_frozen BKHs.out 2) | ((with_reducible refine gate_callee (f := 14) rfl ?_); refine goesL_ (some 22) rfl rfl Try.func14 (by kernel_rfl) rfl #[.agg #[.int .i64 a0_0, .int .i64 a0_1, .slice A0_2 l0_2.length c0_2], .agg #[.int .i64 a1_0, .int .i64 a1_1, .slice A1_2 l1_2.length c1_2]] rfl (by (try simp only [List.map_toArray, List.map_cons, List.map_nil]); first | done | rfl | (simp only [List.length_drop, List.length_take]; rfl)) ?_; (with_reducible refine (curve_Join.calls a0_0 a0_1 _ _ l0_2 a1_0 a1_1 _ _ l1_2 t1109 t1110 t1111 t1114 _ ?side1 ?side2 ?side3 ?side4 A5.out).mono ?_); (case side1 => repeat (first | exact (Kd.C_below HR0_2.out HB.out) | (with_reducible refine Kd.C_alloc ?_ _) | (with_reducible refine Kd.C_drewN ?_ _) | (with_reducible refine Kd.C_drew ?_))); (case side2 => exact HC0_2.out); (case side3 => repeat (first | exact (Kd.C_below HR1_2.out HB.out) | (with_reducible refine Kd.C_alloc ?_ _) | (with_reducible refine Kd.C_drewN ?_ _) | (with_reducible refine Kd.C_drew ?_))); (case side4 => exact HC1_2.out); rintro e w115 ⟨v1112, rfl, ho0, hb⟩; refine ⟨_, rfl, ?_⟩; have n0_ := zA (Kd.R_lower ho0 (below_size (by repeat (first | (with_reducible first | exact HB.out | apply zW | apply zX | apply zY | refine zS ?_ GEHr.out | refine zS ?_ GEHs.out) | exact HB.out)))); have n1_ := zA (blk_below (g := gA) (o := .cells #[.int .i64 a0_0, .int .i64 a0_1, .slice A0_2 l0_2.length c0_2] 24 (0, 0)) (by (with_reducible repeat (first | refine zN ?_ _ | refine zD ?_ | refine zB ?_ _)); exact BKHr.out) hb); have n2_ := zA (blk_below (g := gB) (o := .cells #[.int .i64 a1_0, .int .i64 a1_1, .slice A1_2 l1_2.length c1_2] 24 (0, 0)) (by (with_reducible repeat (first | refine zN ?_ _ | refine zD ?_ | refine zB ?_ _)); exact BKHs.out) hb); have n3_ := zA (below_step (by repeat (first | (with_reducible first | exact HB.out | apply zW | apply zX | apply zY | refine zS ?_ GEHr.out | refine zS ?_ GEHs.out) | exact HB.out)) hb); clear BKHr; clear BKHs; clear HB; have HOHx := n0_; have BKHr := n1_; have BKHs := n2_; have HB := n3_; clear n0_ n1_ n2_ n3_; (try clear hb); (try clear hb2); (try clear hk); (try clear hi); (try clear ho0)) | ((with_reducible refine gate_dst (N := 9) rfl ?_); refine box_event ?hg (N := 9) ?hd (cs := #[.int .i64 0, .int .i64 0, .slice none 0 0]) (t := 24) ?hr ?_; (case hd => rfl); (case hg => rfl); (case hr => first | (go_simp; done) | (go_simp; rfl)); intro gC hg w116 hbox hb; have n0_ := zA (Kd.R_below (by (with_reducible repeat (first | apply Kd.R_alloc | apply Kd.R_drewN | apply Kd.R_drew)); exact HOHx.out) hb); have n1_ := zA (blk_below (g := gA) (o := .cells #[.int .i64 a0_0, .int .i64 a0_1, .slice A0_2 l0_2.length c0_2] 24 (0, 0)) (by (with_reducible repeat (first | refine zN ?_ _ | refine zD ?_ | refine zB ?_ _)); exact BKHr.out) hb); have n2_ := zA (blk_below (g := gB) (o := .cells #[.int .i64 a1_0, .int .i64 a1_1, .slice A1_2 l1_2.length c1_2] 24 (0, 0)) (by (with_reducible repeat (first | refine zN ?_ _ | refine zD ?_ | refine zB ?_ _)); exact BKHs.out) hb); have n3_ := zA (below_step (by repeat (first | (with_reducible first | exact HB.out | apply zW | apply zX | apply zY | refine zS ?_ GEHr.out | refine zS ?_ GEHs.out) | exact HB.out)) hb); have n4_ := zA (hbox); have n5_ := zA ((by rw [hg]; exact (below_size (by repeat (first | (with_reducible first | exact HB.out | apply zW | apply zX | apply zY | refine zS ?_ GEHr.out | refine zS ?_ GEHs.out) | exact HB.out))) : w.heap.size ≤ gC)); have n6_ := zA ((by rw [hg]; exact (below_size (by repeat (first | (with_reducible first | exact HB.out | apply zW | apply zX | apply zY | refine zS ?_ GEHr.out | refine zS ?_ GEHs.out) | exact HB.out))) : w.heap.size ≤ gC)); have n7_ := zA ((by rw [hg]; exact Nat.ne_of_lt (blk_lt (g := gA) (o := .cells #[.int .i64 a0_0, .int .i64 a0_1, .slice A0_2 l0_2.length c0_2] 24 (0, 0)) (by (with_reducible repeat (first | refine zN ?_ _ | refine zD ?_ | refine zB ?_ _)); exact BKHr.out)) : gA ≠ gC)); have n8_ := zA ((by rw [hg]; exact Nat.ne_of_gt (blk_lt (g := gA) (o := .cells #[.int .i64 a0_0, .int .i64 a0_1, .slice A0_2 l0_2.length c0_2] 24 (0, 0)) (by (with_reducible repeat (first | refine zN ?_ _ | refine zD ?_ | refine zB ?_ _)); exact BKHr.out)) : gC ≠ gA)); have n9_ := zA ((by rw [hg]; exact Nat.ne_of_lt (blk_lt (g := gB) (o := .cells #[.int .i64 a1_0, .int .i64 a1_1, .slice A1_2 l1_2.length c1_2] 24 (0, 0)) (by (with_reducible repeat (first | refine zN ?_ _ | refine zD ?_ | refine zB ?_ _)); exact BKHs.out)) : gB ≠ gC)); have n10_ := zA ((by rw [hg]; exact Nat.ne_of_gt (blk_lt (g := gB) (o := .cells #[.int .i64 a1_0, .int .i64 a1_1, .slice A1_2 l1_2.length c1_2] 24 (0, 0)) (by (with_reducible repeat (first | refine zN ?_ _ | refine zD ?_ | refine zB ?_ _)); exact BKHs.out)) : gC ≠ gB)); clear HOHx; clear BKHr; clear BKHs; clear HB; have HOHx := n0_; have BKHr := n1_; have BKHs := n2_; have HB := n3_; have BKHz := n4_; have GWHz := n5_; have GEHz := n6_; have NB1107_1115 := n7_; have NB1115_1107 := n8_; have NB1108_1115 := n9_; have NB1115_1108 := n10_; clear n0_ n1_ n2_ n3_ n4_ n5_ n6_ n7_ n8_ n9_ n10_; clear hb hbox hg; have hnb117 := NB1115_1107.out; have hnc117 := NB1107_1115.out; have hnb118 := NB1115_1108.out; have hnc118 := NB1108_1115.out; have hcz119_0 : w116.cell? ⟨gC, 0, none⟩ = some (.int .i64 0) := (blk_cell BKHz.out 0).trans rfl; have hcz119_1 : w116.cell? ⟨gC, 1, none⟩ = some (.int .i64 0) := (blk_cell BKHz.out 1).trans rfl; have hcz119_2 : w116.cell? ⟨gC, 2, none⟩ = some (.slice none 0 0) := (blk_cell BKHz.out 2).trans rfl; have hfz119_0 := blk_frozen BKHz.out 0; have hfz119_1 := blk_frozen BKHz.out 1; have hfz119_2 := blk_frozen BKHz.out 2; obtain ⟨Ao120, co120, eo120⟩ := Kd.R_slice HOHx.out; subst eo120) | ((with_reducible refine gate_callee (f := 17) rfl ?_); refine goesL_ (some 27) rfl rfl Try.func17 (by kernel_rfl) rfl #[] rfl (by (try simp only [List.map_toArray, List.map_cons, List.map_nil]); first | done | rfl | (simp only [List.length_drop, List.length_take]; rfl)) ?_; (with_reducible refine (kimberlitelaw03_alive.calls  t1116 _ A109.out).mono ?_); rintro e w121 ⟨rfl, hb⟩; refine ⟨_, rfl, ?_⟩; have n0_ := zA (Kd.R_below (by (with_reducible repeat (first | apply Kd.R_alloc | apply Kd.R_drewN | apply Kd.R_drew)); exact (Kd.R_mono (Kd.R_far (p := ⟨gC, 2, none⟩) (Kd.R_far (p := ⟨gC, 1, none⟩) (Kd.R_far (p := ⟨gC, 0, none⟩) (Kd.R_types HOHx.out BKHz.out (by decide)) (fun _ hk => hk.2) (.int .i64 t1109)) (fun _ hk => hk.2) (.int .i64 t1110)) (fun _ hk => hk.2) (.slice Ao120 t1111.length co120)) (fun _ h_ => h_.1))) hb); have n1_ := zA (blk_below (g := gA) (o := .cells #[.int .i64 a0_0, .int .i64 a0_1, .slice A0_2 l0_2.length c0_2] 24 (0, 0)) (by (with_reducible repeat (first | refine zN ?_ _ | refine zD ?_ | refine zB ?_ _)); refine blk_far ?_ NB1107_1115.out _; (with_reducible repeat (first | refine zN ?_ _ | refine zD ?_ | refine zB ?_ _)); refine blk_far ?_ NB1107_1115.out _; (with_reducible repeat (first | refine zN ?_ _ | refine zD ?_ | refine zB ?_ _)); refine blk_far ?_ NB1107_1115.out _; (with_reducible repeat (first | refine zN ?_ _ | refine zD ?_ | refine zB ?_ _)); exact BKHr.out) hb); have n2_ := zA (blk_below (g := gB) (o := .cells #[.int .i64 a1_0, .int .i64 a1_1, .slice A1_2 l1_2.length c1_2] 24 (0, 0)) (by (with_reducible repeat (first | refine zN ?_ _ | refine zD ?_ | refine zB ?_ _)); refine blk_far ?_ NB1108_1115.out _; (with_reducible repeat (first | refine zN ?_ _ | refine zD ?_ | refine zB ?_ _)); refine blk_far ?_ NB1108_1115.out _; (with_reducible repeat (first | refine zN ?_ _ | refine zD ?_ | refine zB ?_ _)); refine blk_far ?_ NB1108_1115.out _; (with_reducible repeat (first | refine zN ?_ _ | refine zD ?_ | refine zB ?_ _)); exact BKHs.out) hb); have n3_ := zA (blk_below (g := gC) (o := .cells #[.int .i64 t1109, .int .i64 t1110, .slice Ao120 t1111.length co120] 24 (0, 0)) (by (with_reducible repeat (first | refine zN ?_ _ | refine zD ?_ | refine zB ?_ _)); refine blk_put (cs := #[.int .i64 t1109, .int .i64 t1110, .slice none 0 0]) ?_ 2 _ rfl; (with_reducible repeat (first | refine zN ?_ _ | refine zD ?_ | refine zB ?_ _)); refine blk_put (cs := #[.int .i64 t1109, .int .i64 0, .slice none 0 0]) ?_ 1 _ rfl; (with_reducible repeat (first | refine zN ?_ _ | refine zD ?_ | refine zB ?_ _)); refine blk_put (cs := #[.int .i64 0, .int .i64 0, .slice none 0 0]) ?_ 0 _ rfl; (with_reducible repeat (first | refine zN ?_ _ | refine zD ?_ | refine zB ?_ _)); exact BKHz.out) hb); have n4_ := zA (below_step (by repeat (first | (with_reducible first | exact HB.out | apply zW | apply zX | apply zY | refine zS ?_ GEHr.out | refine zS ?_ GEHs.out | refine zS ?_ GEHz.out) | exact HB.out)) hb); clear HOHx; clear BKHr; clear BKHs; clear BKHz; clear HB; have HOHx := n0_; have BKHr := n1_; have BKHs := n2_; have BKHz := n3_; have HB := n4_; clear n0_ n1_ n2_ n3_ n4_; (try clear hb); (try clear hb2); (try clear hk); (try clear hi)))
  go_ret
  exact ⟨by first | rfl | (simp [errW_none, errW_some] <;> rfl) | (simp [*, errW_none, errW_some] <;> rfl), by repeat (first | (with_reducible first | exact HB.out | apply zW | apply zX | apply zY | refine zS ?_ GEHr.out | refine zS ?_ GEHs.out | refine zS ?_ GEHz.out) | exact HB.out)⟩
end Go.Proofs.Ytfeeaipbmpmpgaa.PX

namespace Go.Proofs.Ytfeeaipbmpmpgaa.Pure
open Go.RowKit Go.Proofs.YtfeeaipbmpmpgaaW.PrintWords Go.Proofs.YtfeeaipbmpmpgaaW.PrintLast Go.Proofs.YtfeeaipbmpmpgaaW.PrintMore Go.Proofs.Ytfeeaipbmpmpgaa.PX
set_option linter.unusedVariables false
set_option linter.unusedSimpArgs false

theorem gr_join {a b : Int} {l : List Int} {a' b' : Int} {l' : List Int} (h1 : valB a b l = true) (h2 : valB a' b' l' = true) (p : Int) : gr (a + a') (b + b') (mrg l l') p = gr a b l p + gr a' b' l' p := by
  obtain ⟨x, hx, ex⟩ := gr_ex a b l p
  obtain ⟨y, hy, ey⟩ := gr_ex a' b' l' p
  have hle := cval_join_le h1 h2 x y hx hy
  have hge := gr_ge (a + a') (b + b') (mrg l l') p (x + y) (cdom_join x y hx hy)
  rw [Int.mul_add] at hge
  obtain ⟨z, hz, ez⟩ := gr_ex (a + a') (b + b') (mrg l l') p
  obtain ⟨t, ht, hv, huc⟩ := cval_join_ex h1 h2 z hz
  have g1 := gr_ge a b l p (a + (t : Int)) (cdom_iff.2 (by omega))
  have g2 := gr_ge a' b' l' p (z - a - (t : Int)) hv
  have e : p * z = p * (a + (t : Int)) + p * (z - a - (t : Int)) := by rw [← Int.mul_add]; congr 1; omega
  omega
theorem conjL_getElem (a b : Int) (l : List Int) (lo hi : Int) (i : Nat) (h : i < (conjL a b l lo hi).length) : (conjL a b l lo hi)[i] = gr a b l (lo + ((i + 1 : Nat) : Int)) - gr a b l (lo + (i : Int)) := by
  have h' : i + 1 < (grs a b l lo (conjN lo hi)).length := by
    unfold conjL at h
    rw [diffs_length] at h
    omega
  exact (diffs_getElem (grs a b l lo (conjN lo hi)) i h').trans (by rw [grs_getElem, grs_getElem])
theorem conjL_join {a b : Int} {l : List Int} {a' b' : Int} {l' : List Int} (h1 : valB a b l = true) (h2 : valB a' b' l' = true) {lo hi : Int} (h : lo ≤ hi) : addL (conjL a b l lo hi) (conjL a' b' l' lo hi) = conjL (a + a') (b + b') (mrg l l') lo hi := by
  have e1 := conjL_length (a := a) (b := b) (l := l) h
  have e2 := conjL_length (a := a') (b := b') (l := l') h
  have e3 := conjL_length (a := a + a') (b := b + b') (l := mrg l l') h
  have e : (conjL a b l lo hi).length = (conjL a' b' l' lo hi).length := by omega
  apply List.ext_getElem
  · rw [addL_length _ _ e]; omega
  · intro i h3 h4
    rw [addL_length _ _ e] at h3
    rw [addL_getElem _ _ e i h3]
    rw [conjL_getElem, conjL_getElem, conjL_getElem, gr_join h1 h2, gr_join h1 h2]
    omega
theorem add_conj {a b : Int} {l : List Int} {a' b' : Int} {l' : List Int} (h1 : valB a b l = true) (h2 : valB a' b' l' = true) {lo hi : Int} (h : lo ≤ hi) (v1 : valB lo (gr a b l lo) (conjL a b l lo hi) = true) (v2 : valB lo (gr a' b' l' lo) (conjL a' b' l' lo hi) = true) :
    addR lo (gr a b l lo) (conjL a b l lo hi) lo (gr a' b' l' lo) (conjL a' b' l' lo hi) = madeR lo (gr (a + a') (b + b') (mrg l l') lo) (conjL (a + a') (b + b') (mrg l l') lo hi) := by
  have e1 := conjL_length (a := a) (b := b) (l := l) h
  have e2 := conjL_length (a := a') (b := b') (l := l') h
  have m1 : mx lo lo = lo := by unfold mx; split <;> omega
  have m2 : mn (lo + ((conjL a b l lo hi).length : Int)) (lo + ((conjL a' b' l' lo hi).length : Int)) = hi := by rw [e1, e2]; unfold mn; split <;> omega
  have p : ∀ L : List Int, (L.length : Int) = hi - lo → partL lo L lo hi = L := fun L hL => by
    unfold partL
    rw [show (lo - lo).toNat = 0 from by omega, List.drop_zero, List.take_of_length_le (by omega)]
  unfold addR
  rw [if_pos v1, if_pos v2, m1, m2, if_neg (by omega), p _ e1, p _ e2, conj_cval a b l lo (Int.le_refl _) h, conj_cval a' b' l' lo (Int.le_refl _) h, conjL_join h1 h2 h, gr_join h1 h2]
theorem CurveDual (x0 y0 : Int) (l0 : List Int) (x1 y1 : Int) (l1 : List Int) (a2 a3 : Int) (J0 : CurveI x0 y0 l0) (n0 : l0.length ≤ 9223372036854775807) (J1 : CurveI x1 y1 l1) (n1 : l1.length ≤ 9223372036854775807) (h2 : I64 a2) (h3 : I64 a3) :
    ∃ k, kimberlitelaw03_CurveDual.f k x0 y0 l0 x1 y1 l1 a2 a3 = some true := by
  obtain ⟨K, hK⟩ : ∃ K : Nat, 1000 ≤ K := ⟨1000, Nat.le_refl _⟩
  refine ⟨K + 1, ?_⟩
  have e : ∀ A B L A' B' L' A2 B2 L2, kimberlitelaw03_CurveDual.j0 (K + 1) true A B L A' B' L' A2 B2 L2 = some true := by
    intros
    simp only [kimberlitelaw03_CurveDual.j0]
    rw [if_pos trivial]
    rfl
  unfold kimberlitelaw03_CurveDual.f curve_Join.f
  simp only [Option.bind_some]
  rcases joinR_cases x0 y0 l0 x1 y1 l1 with ⟨hv0, hv1, hvj, ej⟩ | ⟨_, _, _, ej⟩ | ⟨_, ej⟩
  · rw [ej]
    simp only [if_true]
    rcases Conj_some (x0 + x1) (y0 + y1) (mrg l0 l1) a2 a3 h2 h3 (K + 1) (by omega) with ⟨okj, cj⟩ | ⟨nj, cj⟩
    · have ok0 : conjOk x0 y0 l0 a2 a3 := ⟨hv0, okj.2⟩
      have ok1 : conjOk x1 y1 l1 a2 a3 := ⟨hv1, okj.2⟩
      have c0 : curve_Conj.f (K + 1) x0 y0 l0 a2 a3 = some (madeR a2 (gr x0 y0 l0 a2) (conjL x0 y0 l0 a2 a3)) := by
        rcases Conj_some x0 y0 l0 a2 a3 h2 h3 (K + 1) (by omega) with ⟨_, c⟩ | ⟨n, _⟩
        · exact c
        · exact absurd ok0 n
      have c1 : curve_Conj.f (K + 1) x1 y1 l1 a2 a3 = some (madeR a2 (gr x1 y1 l1 a2) (conjL x1 y1 l1 a2 a3)) := by
        rcases Conj_some x1 y1 l1 a2 a3 h2 h3 (K + 1) (by omega) with ⟨_, c⟩ | ⟨n, _⟩
        · exact c
        · exact absurd ok1 n
      have hle : a2 ≤ a3 := okj.2.2.2.1
      rw [cj, c0, c1]
      simp only [Option.bind_some]
      by_cases w0' : ¬valB a2 (gr (x0 + x1) (y0 + y1) (mrg l0 l1) a2) (conjL (x0 + x1) (y0 + y1) (mrg l0 l1) a2 a3) = true
      · unfold madeR
        rw [if_neg w0']
        simp only
        rw [if_neg (by decide)]
        exact e _ _ _ _ _ _ _ _ _
      have w0 := Decidable.not_not.1 w0'
      by_cases w1' : ¬valB a2 (gr x0 y0 l0 a2) (conjL x0 y0 l0 a2 a3) = true
      · unfold madeR
        rw [if_pos w0, if_neg w1']
        simp only
        rw [if_pos trivial, if_neg (by decide)]
        exact e _ _ _ _ _ _ _ _ _
      have w1 := Decidable.not_not.1 w1'
      by_cases w2' : ¬valB a2 (gr x1 y1 l1 a2) (conjL x1 y1 l1 a2 a3) = true
      · unfold madeR
        rw [if_pos w0, if_pos w1, if_neg w2']
        simp only
        rw [if_pos trivial, if_pos trivial]
        exact e _ _ _ _ _ _ _ _ _
      have w2 := Decidable.not_not.1 w2'
      have ha := add_conj hv0 hv1 hle w1 w2
      have hm : madeR a2 (gr (x0 + x1) (y0 + y1) (mrg l0 l1) a2) (conjL (x0 + x1) (y0 + y1) (mrg l0 l1) a2 a3) = (a2, gr (x0 + x1) (y0 + y1) (mrg l0 l1) a2, conjL (x0 + x1) (y0 + y1) (mrg l0 l1) a2 a3, 0) := by
        unfold madeR
        rw [if_pos w0]
      rw [hm] at ha
      have hlen : (conjL (x0 + x1) (y0 + y1) (mrg l0 l1) a2 a3).length ≤ 64 := (val_from w0).2.2.2.2
      unfold madeR
      rw [if_pos w0, if_pos w1, if_pos w2]
      simp only [if_true, bne_self_eq_false, kimberlitelaw03_CurveDual.j0, curve_Add.f, Option.bind_some]
      rw [if_neg (by decide), ha]
      simp only [if_true]
      rw [alike_some _ _ _ _ _ _ (by omega) K (by omega)]
      simp [kimberlitelaw03_alive.f]
    · rw [cj]
      have n0' : ¬conjOk x0 y0 l0 a2 a3 := fun h => nj ⟨hvj, h.2⟩
      have n1' : ¬conjOk x1 y1 l1 a2 a3 := fun h => nj ⟨hvj, h.2⟩
      rcases Conj_some x0 y0 l0 a2 a3 h2 h3 (K + 1) (by omega) with ⟨o, _⟩ | ⟨_, c0⟩
      · exact absurd o n0'
      rcases Conj_some x1 y1 l1 a2 a3 h2 h3 (K + 1) (by omega) with ⟨o, _⟩ | ⟨_, c1⟩
      · exact absurd o n1'
      rw [c0, c1]
      simp only [Option.bind_some]
      rw [if_neg (by decide)]
      exact e _ _ _ _ _ _ _ _ _
  · rw [ej]
    simp only
    rw [if_neg (by decide)]
    rfl
  · rw [ej]
    simp only
    rw [if_neg (by decide)]
    rfl
end Go.Proofs.Ytfeeaipbmpmpgaa.Pure

namespace Go.Proofs.Ytfeeaipbmpmpgaa.curveDual
open Go.ChangeShapes Go.WideShapes Go.ChangeAt Go.RowKit
open Go.ChangeMaps (open_string shut_string)
open Go.Proofs.YtfeeaipbmpmpgaaW.PrintWords Go.Proofs.YtfeeaipbmpmpgaaW.PrintLast Go.Proofs.YtfeeaipbmpmpgaaW.PrintMore Go.Proofs.Ytfeeaipbmpmpgaa.PX
set_option linter.unusedVariables false
theorem own : ownKnob Try.prog.godebug = none := by kernel_rfl
theorem laidOut : laidOutB Try.prog = true := by kernel_rfl
set_option maxRecDepth 100000 in
theorem lifted (os : Os) (started : os.Started) (H : Type) (enc : TypeId × Value → H) :
    ReturnsInHanded {} Try.checked os 12 .any (Rows.curveDualSpec.pre6 enc Try.prog Try.f12 Rows.curveDualRow.domain false) (Rows.curveDualSpec.post enc Try.prog Try.f12 false true false false) := by
  refine returnsInHanded_of_change_sized (C := Try.checked) own started (by kernel_rfl) Try.func12
    (ChangeSpec.witness6 (enc := enc) (C := Try.checked) false ⟨#[], #[.agg #[.int .i64 0, .int .i64 0, .slice none 0 0], .agg #[.int .i64 0, .int .i64 0, .slice none 0 0], .int .i64 0, .int .i64 0], []⟩ 8 (by kernel_rfl) (by kernel_rfl) (by kernel_rfl) (by kernel_rfl)) ?_
  intro W base args ds gs before hval0 hW hcnd hsz0 _
  have hval : ∀ (j : Nat) t v, Try.f12.params[j]? = some t → args[j]? = some v → Value.okWide Try.prog W .any base t v := hval0
  have hW' := hW
  obtain ⟨p, q, hA0, hV, rfl, hfz, hnd⟩ := hW
  have hA : DataW.TrodAll enc Try.prog W 0 (fun _ => true) true Try.f12.params.toList args.toList ds p := hA0
  rw [Try.params12] at hA hval
  obtain ⟨v0, vs0, d0, ds0, p0, q0, hargs, rfl, rfl, h0, r0⟩ := trodAll_cons hA
  obtain ⟨v1, vs1, d1, ds1, p1, q1, rfl, rfl, rfl, h1, r1⟩ := trodAll_cons r0
  obtain ⟨v2, vs2, d2, ds2, p2, q2, rfl, rfl, rfl, h2, r2⟩ := trodAll_cons r1
  obtain ⟨v3, vs3, d3, ds3, p3, q3, rfl, rfl, rfl, h3, r3⟩ := trodAll_cons r2
  obtain ⟨rfl, rfl, rfl⟩ := trodAll_nil r3
  obtain rfl : args = #[v0, v1, v2, v3] := by cases args; simp_all
  obtain ⟨rfl, rfl⟩ := trodVars_none hV
  have k0 := h0
  have lt0 : ∀ x ∈ p0, x.block < W.heap.size := by obtain ⟨m, hm⟩ := k0; exact DataW.trod_lt m _ _ _ hm
  obtain ⟨x0, y0, l0, A0, c0, rfl, e0, C0, J0⟩ := open_curve (hval 0 24 v0 rfl rfl) h0
  have k1 := h1
  have lt1 : ∀ x ∈ p1, x.block < W.heap.size := by obtain ⟨m, hm⟩ := k1; exact DataW.trod_lt m _ _ _ hm
  obtain ⟨x1, y1, l1, A1, c1, rfl, e1, C1, J1⟩ := open_curve (hval 1 24 v1 rfl rfl) h1
  obtain ⟨a2, rfl, rfl, rfl, w2⟩ := open_int Try.underlying3 (hval 2 3 v2 rfl rfl) h2
  obtain ⟨a3, rfl, rfl, rfl, w3⟩ := open_int Try.underlying3 (hval 3 3 v3 rfl rfl) h3
  clear hA0 hval0 hsz0
  obtain ⟨n, hn⟩ := Pure.CurveDual x0 y0 l0 x1 y1 l1 a2 a3 J0 C0.2.1 J1 C1.2.1 (i64_of_wf w2) (i64_of_wf w3)
  refine (kimberlitelaw03_CurveDual.calls n x0 y0 A0 c0 l0 x1 y1 A1 c1 l1 a2 a3 true W C0 e0 C1 e1 hn).mono fun e W' ⟨he, bel⟩ => ?_
  subst he
  exact ⟨_, rfl, _, _, _, [], _, [], hW', trodAll_mk1 (shut_bool Try.underlying4 _), (trodAll_cons_mk (Below.trod laidOut (by kernel_rfl) (of_decide_eq_true (by kernel_rfl)) k0 bel lt0) (trodAll_cons_mk (Below.trod laidOut (by kernel_rfl) (of_decide_eq_true (by kernel_rfl)) k1 bel lt1) (trodAll_cons_mk (shut_int Try.underlying3 w2) (trodAll_cons_mk (shut_int Try.underlying3 w3) trodAll_mk0)))), rfl, bel.frame _, fun h => by cases h⟩
theorem over : Rows.curveDualRow.holds Try.pinned (OpenSpec.ofChange Rows.curveDualSpec) :=
  OpenClaim.holds_of_wide 12 Try.f12 rfl rfl rfl rfl rfl rfl rfl ⟨rfl, rfl, rfl, rfl, rfl⟩ rfl rfl rfl rfl rfl (by kernel_rfl) Try.func12 (by kernel_rfl)
    (of_decide_eq_true (by kernel_rfl)) (by unfold Func.isWrapper; first | (rw [if_pos (by decide +kernel)]; kernel_rfl) | (rw [if_neg (by decide +kernel)]; exact ⟨rfl, rfl⟩))
    (fun os started H enc _ => lifted os started H enc)
theorem proved : Rows.CurveDualSaid := over
end Go.Proofs.Ytfeeaipbmpmpgaa.curveDual
namespace Go.Proofs.Ytfeeaipbmpmpgaa
/-- The row, under a short name, for the claim. -/
theorem curveDual_holds : Rows.CurveDualSaid := curveDual.proved
#print axioms curveDual_holds
end Go.Proofs.Ytfeeaipbmpmpgaa

