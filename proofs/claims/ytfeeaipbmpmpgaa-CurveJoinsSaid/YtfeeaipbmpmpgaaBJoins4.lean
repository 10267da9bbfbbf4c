/- The statement CurveJoins: Join is commutative and associative, and its value at a number is the least of the sums that are possible there: for every input the law returns true. Conditions: none. -/
import Derived.WalkKit
import Derived.ProofKit
import Derived.OpenShut
import Derived.ShutString
import Derived.ChangeOld
import Derived.Below
import Derived.SizedLaws
import Derived.Test.YtfeeaipbmpmpgaaBJoins1
import Derived.Test.YtfeeaipbmpmpgaaBJoins2
import Derived.Test.YtfeeaipbmpmpgaaBJoins3
import Derived.Test.YtfeeaipbmpmpgaaRows
namespace Go.Proofs.Ytfeeaipbmpmpgaa.PX
open Go.RowKit Go.Proofs.YtfeeaipbmpmpgaaW.PrintWords Go.Proofs.YtfeeaipbmpmpgaaW.PrintLast Go.Proofs.YtfeeaipbmpmpgaaW.PrintMore
set_option linter.unusedVariables false
set_option linter.unusedSimpArgs false

/-! ### sums of the first slopes -/
def sm (l : List Int) (i : Nat) : Int := (l.take i).sum
theorem sm_zero (l : List Int) : sm l 0 = 0 := rfl
theorem sm_nil (i : Nat) : sm [] i = 0 := by simp [sm]
theorem sm_cons (x : Int) (l : List Int) (i : Nat) : sm (x :: l) (i + 1) = x + sm l i := by simp [sm]
theorem sm_succ (l : List Int) (i : Nat) (h : i < l.length) : sm l (i + 1) = sm l i + l[i] := by
  unfold sm
  rw [List.take_succ_eq_append_getElem h, List.sum_append]
  simp
theorem sm_bound (l : List Int) (B : Int) (hB : 0 ≤ B) (h : ∀ s ∈ l, -B ≤ s ∧ s ≤ B) (i : Nat) : -(B * l.length) ≤ sm l i ∧ sm l i ≤ B * l.length := by
  induction l generalizing i with
  | nil => simp [sm]
  | cons x l ih =>
    cases i with
    | zero => simp only [sm_zero]; have : 0 ≤ B * ((x :: l).length : Int) := Int.mul_nonneg hB (by omega); omega
    | succ i =>
      rw [sm_cons]
      have h1 := h x List.mem_cons_self
      have h2 := ih (fun s hs => h s (List.mem_cons_of_mem _ hs)) i
      have e : B * ((x :: l).length : Int) = B * (l.length : Int) + B := by simp [Int.mul_add]
      omega
theorem addup_eq (b : Int) (l : List Int) (hl : l.length ≤ 100) (hb : -4398046511104 ≤ b ∧ b ≤ 4398046511104) (h : ∀ s ∈ l, -2097152 ≤ s ∧ s ≤ 2097152) : addup b l = b + l.sum := by
  have key : ∀ n, n ≤ l.length → addup b (l.take n) = b + sm l n := by
    intro n
    induction n with
    | zero => intro _; simp [addup, sm]
    | succ n ih =>
      intro hn
      have h1 := ih (by omega)
      rw [addup_snoc b l n (by omega), h1, sm_succ l n (by omega), rd_getElem l n (by omega)]
      have h2 := sm_bound l 2097152 (by omega) h n
      have h3 := h _ (List.getElem_mem (by omega : n < l.length))
      rw [w64 (by omega) (by omega)]
      omega
  have := key l.length (Nat.le_refl _)
  rw [List.take_length] at this
  rw [this]
  simp [sm]
theorem addup_take (b : Int) (l : List Int) (n : Nat) (hl : l.length ≤ 100) (hb : -4398046511104 ≤ b ∧ b ≤ 4398046511104) (h : ∀ s ∈ l, -2097152 ≤ s ∧ s ≤ 2097152) : addup b (l.take n) = b + sm l n :=
  addup_eq b (l.take n) (by simp; omega) hb (fun s hs => h s (List.mem_of_mem_take hs))

/-! ### merged -/
def mrg : List Int → List Int → List Int
  | [], m => m
  | x :: l, [] => x :: l
  | x :: l, y :: m => if x ≤ y then x :: mrg l (y :: m) else y :: mrg (x :: l) m
theorem mrg_nil_right (l : List Int) : mrg l [] = l := by cases l <;> simp [mrg]
theorem mrg_perm (l m : List Int) : (mrg l m).Perm (l ++ m) := by
  induction l, m using mrg.induct with
  | case1 m => simp [mrg]
  | case2 x l => simp [mrg]
  | case3 x l y m h ih => simp only [mrg, if_pos h]; exact ih.cons x
  | case4 x l y m h ih =>
    simp only [mrg, if_neg h]
    exact (ih.cons y).trans (List.perm_middle.symm)
theorem mrg_length (l m : List Int) : (mrg l m).length = l.length + m.length := by rw [(mrg_perm l m).length_eq, List.length_append]
theorem mrg_sorted (l m : List Int) (hl : l.Pairwise (· ≤ ·)) (hm : m.Pairwise (· ≤ ·)) : (mrg l m).Pairwise (· ≤ ·) := by
  induction l, m using mrg.induct with
  | case1 m => simpa [mrg] using hm
  | case2 x l => simpa [mrg] using hl
  | case3 x l y m h ih =>
    simp only [mrg, if_pos h]
    rw [List.pairwise_cons] at hl ⊢
    refine ⟨fun z hz => ?_, ih hl.2 hm⟩
    rcases List.mem_append.1 ((mrg_perm l (y :: m)).mem_iff.1 hz) with hz | hz
    · exact hl.1 z hz
    · rcases List.mem_cons.1 hz with rfl | hz
      · exact h
      · have := (List.pairwise_cons.1 hm).1 z hz
        omega
  | case4 x l y m h ih =>
    simp only [mrg, if_neg h]
    rw [List.pairwise_cons] at hm ⊢
    refine ⟨fun z hz => ?_, ih hl hm.2⟩
    rcases List.mem_append.1 ((mrg_perm (x :: l) m).mem_iff.1 hz) with hz | hz
    · rcases List.mem_cons.1 hz with rfl | hz
      · omega
      · have := (List.pairwise_cons.1 hl).1 z hz
        omega
    · exact hm.1 z hz
theorem sortI_sorted (l : List Int) : (sortI l).Pairwise (· ≤ ·) := by
  have h := List.pairwise_mergeSort (le := fun x y : Int => decide (x ≤ y)) (fun a b c h1 h2 => by simp at *; omega) (fun a b => by simp; omega) l
  exact h.imp (fun h => by simpa using h)
theorem sortI_perm (l : List Int) : (sortI l).Perm l := List.mergeSort_perm l _
theorem sorted_eq {l m : List Int} (hl : l.Pairwise (· ≤ ·)) (hm : m.Pairwise (· ≤ ·)) (h : l.Perm m) : l = m :=
  h.eq_of_pairwise (le := (· ≤ ·)) (fun a b _ _ h1 h2 => Int.le_antisymm h1 h2) hl hm
theorem sortI_congr {l m : List Int} (h : l.Perm m) : sortI l = sortI m := sorted_eq (sortI_sorted _) (sortI_sorted _) ((sortI_perm l).trans (h.trans (sortI_perm m).symm))
theorem sortI_append (l m : List Int) (hl : l.Pairwise (· ≤ ·)) (hm : m.Pairwise (· ≤ ·)) : sortI (l ++ m) = mrg l m :=
  sorted_eq (sortI_sorted _) (mrg_sorted l m hl hm) ((sortI_perm _).trans (mrg_perm l m).symm)

/-- Every division of n has at least the first n slopes of both, in order. -/
theorem sm_shift (x : Int) (l : List Int) (h : ∀ y ∈ l, x ≤ y) (hl : l.Pairwise (· ≤ ·)) (n : Nat) (hn : n ≤ l.length) : sm (x :: l) n ≤ sm l n := by
  induction l generalizing x n with
  | nil => have : n = 0 := by simpa using hn
           subst this
           simp [sm]
  | cons y l ih =>
    cases n with
    | zero => simp [sm]
    | succ n =>
      rw [sm_cons, sm_cons y l]
      have h1 := ih y (List.pairwise_cons.1 hl).1 (List.pairwise_cons.1 hl).2 n (by simpa using hn)
      have h2 := h y List.mem_cons_self
      omega
theorem sm_mrg_le (l m : List Int) (hl : l.Pairwise (· ≤ ·)) (hm : m.Pairwise (· ≤ ·)) (i j : Nat) (hi : i ≤ l.length) (hj : j ≤ m.length) : sm (mrg l m) (i + j) ≤ sm l i + sm m j := by
  induction l, m using mrg.induct generalizing i j with
  | case1 m =>
    have : i = 0 := by simpa using hi
    subst this
    simp [mrg, sm]
  | case2 x l =>
    have : j = 0 := by simpa using hj
    subst this
    simp [mrg, sm]
  | case3 x l y m h ih =>
    simp only [mrg, if_pos h]
    have hl' := List.pairwise_cons.1 hl
    cases i with
    | succ i =>
      rw [show i + 1 + j = (i + j) + 1 from by omega, sm_cons, sm_cons]
      have := ih hl'.2 hm i j (by simpa using hi) hj
      omega
    | zero =>
      have h1 := ih hl'.2 hm 0 j (by omega) hj
      have h2 := sm_shift x (mrg l (y :: m)) (fun z hz => ?_) (mrg_sorted _ _ hl'.2 hm) (0 + j) (by rw [mrg_length]; omega)
      · have e : sm (x :: l) 0 = 0 := rfl
        have e' : sm l 0 = 0 := rfl
        omega
      · rcases List.mem_append.1 ((mrg_perm l (y :: m)).mem_iff.1 hz) with hz | hz
        · exact hl'.1 z hz
        · rcases List.mem_cons.1 hz with rfl | hz
          · exact h
          · have := (List.pairwise_cons.1 hm).1 z hz
            omega
  | case4 x l y m h ih =>
    simp only [mrg, if_neg h]
    have hm' := List.pairwise_cons.1 hm
    cases j with
    | succ j =>
      rw [show i + (j + 1) = (i + j) + 1 from by omega, sm_cons, sm_cons]
      have := ih hl hm'.2 i j hi (by simpa using hj)
      omega
    | zero =>
      have h1 := ih hl hm'.2 i 0 hi (by omega)
      have h2 := sm_shift y (mrg (x :: l) m) (fun z hz => ?_) (mrg_sorted _ _ hl hm'.2) (i + 0) (by rw [mrg_length]; omega)
      · have e : sm (y :: m) 0 = 0 := rfl
        have e' : sm m 0 = 0 := rfl
        omega
      · rcases List.mem_append.1 ((mrg_perm (x :: l) m).mem_iff.1 hz) with hz | hz
        · rcases List.mem_cons.1 hz with rfl | hz
          · omega
          · have := (List.pairwise_cons.1 hl).1 z hz
            omega
        · exact hm'.1 z hz
/-- And one division has just that. -/
theorem sm_mrg_ex (l m : List Int) (n : Nat) (hn : n ≤ l.length + m.length) : ∃ i j, i + j = n ∧ i ≤ l.length ∧ j ≤ m.length ∧ sm (mrg l m) n = sm l i + sm m j := by
  induction l, m using mrg.induct generalizing n with
  | case1 m => exact ⟨0, n, by omega, by omega, by simpa using hn, by simp [mrg, sm]⟩
  | case2 x l => exact ⟨n, 0, by omega, by simpa using hn, by omega, by simp [mrg, sm]⟩
  | case3 x l y m h ih =>
    simp only [mrg, if_pos h]
    cases n with
    | zero => exact ⟨0, 0, rfl, by omega, by omega, by simp [sm]⟩
    | succ n =>
      obtain ⟨i, j, h1, h2, h3, h4⟩ := ih n (by simp at hn ⊢; omega)
      exact ⟨i + 1, j, by omega, by simpa using h2, h3, by rw [sm_cons, sm_cons]; omega⟩
  | case4 x l y m h ih =>
    simp only [mrg, if_neg h]
    cases n with
    | zero => exact ⟨0, 0, rfl, by omega, by omega, by simp [sm]⟩
    | succ n =>
      obtain ⟨i, j, h1, h2, h3, h4⟩ := ih n (by simp at hn ⊢; omega)
      exact ⟨i, j + 1, by omega, h2, by simpa using h3, by rw [sm_cons, sm_cons]; omega⟩
end Go.Proofs.Ytfeeaipbmpmpgaa.PX

namespace Go.Proofs.Ytfeeaipbmpmpgaa.PX
open Go.RowKit Go.Proofs.YtfeeaipbmpmpgaaW.PrintWords Go.Proofs.YtfeeaipbmpmpgaaW.PrintLast Go.Proofs.YtfeeaipbmpmpgaaW.PrintMore
set_option linter.unusedVariables false
set_option linter.unusedSimpArgs false

/-! ### the value of a curve at a number -/
def cval (a b : Int) (l : List Int) (x : Int) : Int := b + sm l (x - a).toNat
def cdom (a : Int) (l : List Int) (x : Int) : Bool := decide (a ≤ x) && decide (x ≤ a + (l.length : Int))
def atV (a b : Int) (l : List Int) (x : Int) : Int × Bool := if valB a b l = true then if cdom a l x = true then (cval a b l x, true) else (0, false) else (0, false)
theorem cdom_iff {a : Int} {l : List Int} {x : Int} : cdom a l x = true ↔ a ≤ x ∧ x ≤ a + (l.length : Int) := by unfold cdom; simp
theorem val_all {a b : Int} {l : List Int} (h : valB a b l = true) : l.Pairwise (· ≤ ·) ∧ ∀ s ∈ l, -1048576 ≤ s ∧ s ≤ 1048576 := by
  unfold valB srt at h
  simp only [Bool.and_eq_true, decide_eq_true_eq, List.all_eq_true, wi_iff] at h
  exact ⟨h.2.2.2.1, h.2.2.2.2⟩
theorem val_mk {a b : Int} {l : List Int} (h1 : -1048576 ≤ a ∧ a ≤ 1048576) (h2 : -1099511627776 ≤ b ∧ b ≤ 1099511627776) (h3 : l.length ≤ 64) (h4 : l.Pairwise (· ≤ ·)) (h5 : ∀ s ∈ l, -1048576 ≤ s ∧ s ≤ 1048576) : valB a b l = true := by
  unfold valB srt
  simp only [Bool.and_eq_true, decide_eq_true_eq, List.all_eq_true, wi_iff]
  exact ⟨h1, h2, h3, h4, h5⟩
theorem cval_bound {a b : Int} {l : List Int} (h : valB a b l = true) (i : Nat) : -1099578736640 ≤ b + sm l i ∧ b + sm l i ≤ 1099578736640 ∧ -67108864 ≤ sm l i ∧ sm l i ≤ 67108864 := by
  have h1 := val_from h
  have h2 := sm_bound l 1048576 (by omega) (val_all h).2 i
  omega
theorem curve_at_some {a b : Int} {l : List Int} {x : Int} (h : valB a b l = true) (hx : cdom a l x = true) : curve_at.f a b l x = some (cval a b l x) := by
  have h1 := val_from h
  have h2 := cdom_iff.1 hx
  unfold curve_at.f cval
  rw [w64 (x := x - a) (by omega) (by omega), if_pos (by omega), if_pos (by omega)]
  rw [addup_take b l _ (by omega) (by omega) (fun s hs => by have := (val_all h).2 s hs; omega)]
theorem law_at (a b : Int) (l : List Int) (x : Int) : kimberlitelaw03_at.f a b l x = some (atV a b l x) := by
  unfold kimberlitelaw03_at.f curve_At.f curve_Valid.f atV
  simp only [Option.bind_some]
  by_cases h : valB a b l = true
  · rw [if_pos h, if_pos h]
    have h1 := val_from h
    have hh : curve_has.f a b l x = some (cdom a l x) := by
      unfold curve_has.f curve_to.f cdom
      rw [w64 (by omega) (by omega)]
      by_cases c : x ≥ a
      · rw [if_pos c]; simp; omega
      · rw [if_neg c]; simp; omega
    rw [hh]
    simp only [Option.bind_some]
    by_cases hx : cdom a l x = true
    · rw [if_pos hx, if_pos hx, curve_at_some h hx]
      rfl
    · rw [if_neg hx, if_neg hx]
      rfl
  · rw [if_neg h, if_neg h]
    rfl
theorem same_l0 (l m : List Int) (hl : l.length ≤ 9223372036854775807) (h : l.length = m.length) (d : Nat) : ∀ k i : Nat, i + d = l.length → d < k → kimberlitelaw03_same.l0 k l m (i : Int) = some (decide (l.drop i = m.drop i)) := by
  induction d with
  | zero =>
    intro k i hi hk
    obtain ⟨k, rfl⟩ : ∃ m, k = m + 1 := ⟨k - 1, by omega⟩
    simp only [kimberlitelaw03_same.l0]
    rw [if_neg (by omega), List.drop_eq_nil_of_le (by omega), List.drop_eq_nil_of_le (by omega)]
    simp
  | succ d ih =>
    intro k i hi hk
    obtain ⟨k, rfl⟩ : ∃ m, k = m + 1 := ⟨k - 1, by omega⟩
    have h1 : i < l.length := by omega
    have h2 : i < m.length := by omega
    simp only [kimberlitelaw03_same.l0]
    rw [if_pos (by omega), if_pos (by omega), if_pos (by omega), rd_getElem l i h1, rd_getElem m i h2, List.drop_eq_getElem_cons h1, List.drop_eq_getElem_cons h2]
    by_cases c : l[i] = m[i]
    · rw [if_pos c, w64 (by omega) (by omega), show ((i : Int) + 1) = ((i + 1 : Nat) : Int) from by omega, ih k (i + 1) (by omega) (by omega)]
      congr 1
      rw [decide_eq_decide, c]
      exact ⟨fun h => by rw [h], fun h => (List.cons.inj h).2⟩
    · rw [if_neg c]
      congr 1
      symm
      rw [decide_eq_false_iff_not]
      exact fun h => c (List.cons.inj h).1
theorem same_some (l m : List Int) (hl : l.length ≤ 9223372036854775807) (k : Nat) (hk : l.length < k) : kimberlitelaw03_same.f k l m = some (decide (l = m)) := by
  unfold kimberlitelaw03_same.f
  by_cases c : l.length = m.length
  · rw [if_pos (by omega)]
    have := same_l0 l m hl c l.length k 0 (by omega) hk
    simpa using this
  · rw [if_neg (by omega)]
    have : ¬ l = m := fun e => c (by rw [e])
    simp [this]
theorem alike_some (a b : Int) (l : List Int) (a' b' : Int) (l' : List Int) (hl : l.length ≤ 9223372036854775807) (k : Nat) (hk : l.length < k) : kimberlitelaw03_alike.f k a b l a' b' l' = some (decide (a = a' ∧ b = b' ∧ l = l')) := by
  unfold kimberlitelaw03_alike.f
  rw [same_some l l' hl k hk]
  by_cases h1 : a = a'
  · by_cases h2 : b = b'
    · simp [h1, h2]
    · simp [h1, h2]
  · simp [h1]
end Go.Proofs.Ytfeeaipbmpmpgaa.PX

namespace Go.Proofs.Ytfeeaipbmpmpgaa.PX
open Go.RowKit Go.Proofs.YtfeeaipbmpmpgaaW.PrintWords Go.Proofs.YtfeeaipbmpmpgaaW.PrintLast Go.Proofs.YtfeeaipbmpmpgaaW.PrintMore
set_option linter.unusedVariables false
set_option linter.unusedSimpArgs false

theorem joinR_cases (a b : Int) (l : List Int) (a' b' : Int) (l' : List Int) :
    (valB a b l = true ∧ valB a' b' l' = true ∧ valB (a + a') (b + b') (mrg l l') = true ∧ joinR a b l a' b' l' = (a + a', b + b', mrg l l', 0)) ∨
    (valB a b l = true ∧ valB a' b' l' = true ∧ valB (a + a') (b + b') (mrg l l') = false ∧ joinR a b l a' b' l' = (0, 0, [], 4)) ∨
    ((valB a b l = false ∨ valB a' b' l' = false) ∧ joinR a b l a' b' l' = (0, 0, [], 2)) := by
  unfold joinR madeR
  by_cases h1 : valB a b l = true
  · by_cases h2 : valB a' b' l' = true
    · rw [if_pos h1, if_pos h2, sortI_append l l' (val_all h1).1 (val_all h2).1]
      by_cases h3 : valB (a + a') (b + b') (mrg l l') = true
      · exact .inl ⟨h1, h2, h3, by rw [if_pos h3]⟩
      · exact .inr (.inl ⟨h1, h2, Bool.eq_false_iff.2 h3, by rw [if_neg h3]⟩)
    · rw [if_pos h1, if_neg h2]
      exact .inr (.inr ⟨.inr (Bool.eq_false_iff.2 h2), rfl⟩)
  · rw [if_neg h1]
    exact .inr (.inr ⟨.inl (Bool.eq_false_iff.2 h1), rfl⟩)
theorem joinR_comm (a b : Int) (l : List Int) (a' b' : Int) (l' : List Int) : joinR a b l a' b' l' = joinR a' b' l' a b l := by
  unfold joinR
  rw [Int.add_comm a, Int.add_comm b, sortI_congr (List.perm_append_comm : (l ++ l').Perm (l' ++ l))]
  by_cases h1 : valB a b l = true
  · by_cases h2 : valB a' b' l' = true
    · rw [if_pos h1, if_pos h2, if_pos h2, if_pos h1]
    · rw [if_pos h1, if_neg h2, if_neg h2]
  · by_cases h2 : valB a' b' l' = true
    · rw [if_neg h1, if_pos h2, if_neg h1]
    · rw [if_neg h1, if_neg h2]
theorem joinR_length (a b : Int) (l : List Int) (a' b' : Int) (l' : List Int) : (joinR a b l a' b' l').2.2.1.length ≤ 64 := by
  rcases joinR_cases a b l a' b' l' with ⟨_, _, h, e⟩ | ⟨_, _, _, e⟩ | ⟨_, e⟩
  · rw [e]; exact (val_from h).2.2.2.2
  · rw [e]; simp
  · rw [e]; simp
theorem mrg_assoc {l m n : List Int} (hl : l.Pairwise (· ≤ ·)) (hm : m.Pairwise (· ≤ ·)) (hn : n.Pairwise (· ≤ ·)) : mrg (mrg l m) n = mrg l (mrg m n) :=
  sorted_eq (mrg_sorted _ _ (mrg_sorted _ _ hl hm) hn) (mrg_sorted _ _ hl (mrg_sorted _ _ hm hn)) (by
    refine (mrg_perm _ _).trans (((mrg_perm l m).append_right n).trans ?_)
    rw [List.append_assoc]
    exact ((mrg_perm m n).append_left l).symm.trans (mrg_perm l (mrg m n)).symm)
/-- The least sum at a number: no division is smaller. -/
theorem cval_join_le {a b : Int} {l : List Int} {a' b' : Int} {l' : List Int} (h1 : valB a b l = true) (h2 : valB a' b' l' = true) (x y : Int) (hx : cdom a l x = true) (hy : cdom a' l' y = true) :
    cval (a + a') (b + b') (mrg l l') (x + y) ≤ cval a b l x + cval a' b' l' y := by
  have d1 := cdom_iff.1 hx
  have d2 := cdom_iff.1 hy
  have := sm_mrg_le l l' (val_all h1).1 (val_all h2).1 (x - a).toNat (y - a').toNat (by omega) (by omega)
  unfold cval
  rw [show (x + y - (a + a')).toNat = (x - a).toNat + (y - a').toNat from by omega]
  omega
theorem cdom_join {a : Int} {l : List Int} {a' : Int} {l' : List Int} (x y : Int) (hx : cdom a l x = true) (hy : cdom a' l' y = true) : cdom (a + a') (mrg l l') (x + y) = true := by
  have d1 := cdom_iff.1 hx
  have d2 := cdom_iff.1 hy
  rw [cdom_iff, mrg_length]
  omega
/-- .. and one is just that. -/
theorem cval_join_ex {a b : Int} {l : List Int} {a' b' : Int} {l' : List Int} (h1 : valB a b l = true) (h2 : valB a' b' l' = true) (z : Int) (hz : cdom (a + a') (mrg l l') z = true) :
    ∃ t : Nat, t ≤ l.length ∧ cdom a' l' (z - a - (t : Int)) = true ∧ cval a b l (a + (t : Int)) + cval a' b' l' (z - a - (t : Int)) = cval (a + a') (b + b') (mrg l l') z := by
  have d1 := cdom_iff.1 hz
  rw [mrg_length] at d1
  obtain ⟨i, j, e, hi, hj, hs⟩ := sm_mrg_ex l l' (z - (a + a')).toNat (by omega)
  refine ⟨i, hi, cdom_iff.2 (by omega), ?_⟩
  unfold cval
  rw [hs, show (a + (i : Int) - a).toNat = i from by omega, show (z - a - (i : Int) - a').toNat = j from by omega]
  omega
theorem cval_i64 {a b : Int} {l : List Int} (h : valB a b l = true) (x : Int) : -1099578736640 ≤ cval a b l x ∧ cval a b l x ≤ 1099578736640 := by
  have := cval_bound h (x - a).toNat
  unfold cval
  omega
end Go.Proofs.Ytfeeaipbmpmpgaa.PX

namespace Go.Proofs.Ytfeeaipbmpmpgaa.Pure
open Go.RowKit Go.Proofs.YtfeeaipbmpmpgaaW.PrintWords Go.Proofs.YtfeeaipbmpmpgaaW.PrintLast Go.Proofs.YtfeeaipbmpmpgaaW.PrintMore Go.Proofs.Ytfeeaipbmpmpgaa.PX
set_option linter.unusedVariables false
set_option linter.unusedSimpArgs false

theorem next64 (i : Nat) (hi : i ≤ 1000000) : wrap64 ((i : Int) + 1) = ((i + 1 : Nat) : Int) := by rw [w64 (x := (i : Int) + 1) (by omega) (by omega)]; omega
theorem at_first {a b : Int} {l : List Int} (h1 : valB a b l = true) (i : Nat) (hi : i ≤ l.length) : kimberlitelaw03_at.f a b l (wrap64 (a + (i : Int))) = some (cval a b l (a + (i : Int)), true) := by
  have v1 := val_from h1
  have hdi : cdom a l (a + (i : Int)) = true := cdom_iff.2 (by omega)
  rw [w64 (x := a + (i : Int)) (by omega) (by omega), law_at]
  unfold atV
  rw [if_pos h1, if_pos hdi]
theorem at_second (a' b' : Int) (l' : List Int) (x y a : Int) (i : Nat) (hi : i ≤ 1000) (ha : -9000000 ≤ a ∧ a ≤ 9000000) (hx : -9000000 ≤ x ∧ x ≤ 9000000) (hy : -9000000 ≤ y ∧ y ≤ 9000000) :
    kimberlitelaw03_at.f a' b' l' (wrap64 ((wrap64 ((wrap64 (x + y)) - a)) - (i : Int))) = some (atV a' b' l' (x + y - a - (i : Int))) := by
  rw [w64 (x := x + y) (by omega) (by omega), w64 (x := x + y - a) (by omega) (by omega), w64 (x := x + y - a - (i : Int)) (by omega) (by omega), law_at]
/-- One round, and all that follow: nothing is below w, and w has been met or will be. -/
theorem loop {a b : Int} {l : List Int} {a' b' : Int} {l' : List Int} (h1 : valB a b l = true) (h2 : valB a' b' l' = true) (h3 : valB (a + a') (b + b') (mrg l l') = true) (x y : Int)
    (hx : cdom a l x = true) (hy : cdom a' l' y = true) (d : Nat) : ∀ (k i : Nat) (met : Bool), i + d = l.length + 1 → 2 * d < k →
    (met = true ∨ ∃ t : Nat, i ≤ t ∧ t ≤ l.length ∧ cdom a' l' (x + y - a - (t : Int)) = true ∧ cval a b l (a + (t : Int)) + cval a' b' l' (x + y - a - (t : Int)) = cval (a + a') (b + b') (mrg l l') (x + y)) →
    lawJoins.l0 k x y (cval a b l x) (cval a' b' l' y) (cval (a + a') (b + b') (mrg l l') (x + y)) true met (i : Int) a b l a' b' l' (a + a') (b + b') (mrg l l') = some true := by
  have ha9 : -9000000 ≤ a ∧ a ≤ 9000000 := by have v1 := val_from h1; exact ⟨by omega, by omega⟩
  have hx9 : -9000000 ≤ x ∧ x ≤ 9000000 := by have v1 := val_from h1; have dx := cdom_iff.1 hx; exact ⟨by omega, by omega⟩
  have hy9 : -9000000 ≤ y ∧ y ≤ 9000000 := by have v1 := val_from h2; have dx := cdom_iff.1 hy; exact ⟨by omega, by omega⟩
  have hl64 : l.length ≤ 64 := (val_from h1).2.2.2.2
  have hw0 : Aside0 (wrap64 (cval a b l x + cval a' b' l' y) = cval a b l x + cval a' b' l' y) := by
    have bx := cval_i64 h1 x
    have by' := cval_i64 h2 y
    exact ⟨w64 (by omega) (by omega)⟩
  have hle := cval_join_le h1 h2 x y hx hy
  have hwi : ∀ i j : Int, wrap64 (cval a b l i + cval a' b' l' j) = cval a b l i + cval a' b' l' j := fun i j => by
    have bx := cval_i64 h1 i
    have by' := cval_i64 h2 j
    exact w64 (by omega) (by omega)
  induction d with
  | zero =>
    intro k i met hi hk hm
    obtain ⟨k, rfl⟩ : ∃ m, k = m + 1 := ⟨k - 1, by omega⟩
    have hmet : met = true := by
      rcases hm with hm | ⟨t, ht1, ht2, _⟩
      · exact hm
      · omega
    simp only [lawJoins.l0]
    rw [if_neg (by omega), hw0.out]
    simp [curve_Valid.f, h3, hle, hmet, kimberlitelaw03_alive.f]
  | succ d ih =>
    intro k i met hi hk hm
    obtain ⟨k, rfl⟩ : ∃ m, k = m + 1 := ⟨k - 1, by omega⟩
    obtain ⟨k, rfl⟩ : ∃ m, k = m + 1 := ⟨k - 1, by omega⟩
    have hil : i ≤ l.length := by omega
    have hdi : cdom a l (a + (i : Int)) = true := cdom_iff.2 (by omega)
    have hnext := Aside0.mk (next64 i (by omega))
    have hA := at_first h1 i hil
    have hB := at_second a' b' l' x y a i (by omega) ha9 hx9 hy9
    simp only [lawJoins.l0]
    rw [if_pos (by omega), hA, hB]
    simp only [Option.bind_some]
    rw [if_pos trivial]
    by_cases hq : cdom a' l' (x + y - a - (i : Int)) = true
    · have hv : atV a' b' l' (x + y - a - (i : Int)) = (cval a' b' l' (x + y - a - (i : Int)), true) := by
        unfold atV
        rw [if_pos h2, if_pos hq]
      have hge := cval_join_le h1 h2 (a + (i : Int)) (x + y - a - (i : Int)) hdi hq
      rw [show a + (i : Int) + (x + y - a - (i : Int)) = x + y from by omega] at hge
      rw [hv]
      simp only [if_true]
      rw [hwi, decide_eq_false (Int.not_lt.2 hge)]
      simp only [lawJoins.j4]
      rw [if_neg (by decide), hwi, hnext.out]
      cases met with
      | true => rw [if_pos rfl]; exact ih k (i + 1) true (by omega) (by omega) (.inl rfl)
      | false =>
        rw [if_neg (by decide)]
        simp only [if_true]
        refine ih k (i + 1) _ (by omega) (by omega) ?_
        rcases hm with hm | ⟨t, ht1, ht2, ht3, ht4⟩
        · cases hm
        · by_cases e : t = i
          · subst e
            exact .inl (by rw [ht4]; simp)
          · exact .inr ⟨t, by omega, ht2, ht3, ht4⟩
    · have hv : atV a' b' l' (x + y - a - (i : Int)) = (0, false) := by
        unfold atV
        rw [if_pos h2, if_neg hq]
      rw [hv]
      simp only [Bool.false_eq_true, if_false]
      simp only [lawJoins.j4]
      rw [if_neg (by decide), hnext.out]
      cases met with
      | true => rw [if_pos rfl]; exact ih k (i + 1) true (by omega) (by omega) (.inl rfl)
      | false =>
        rw [if_neg (by decide)]
        simp only [Bool.false_eq_true, if_true, if_false]
        refine ih k (i + 1) _ (by omega) (by omega) ?_
        rcases hm with hm | ⟨t, ht1, ht2, ht3, ht4⟩
        · cases hm
        · by_cases e : t = i
          · subst e
            exact absurd ht3 hq
          · exact .inr ⟨t, by omega, ht2, ht3, ht4⟩

theorem rest {a b : Int} {l : List Int} {a' b' : Int} {l' : List Int} (h1 : valB a b l = true) (h2 : valB a' b' l' = true) (h3 : valB (a + a') (b + b') (mrg l l') = true) (x y : Int) (k : Nat) (hk : 200 ≤ k) :
    lawJoins.j1 k x y false a b l a' b' l' (a + a') (b + b') (mrg l l') = some true := by
  obtain ⟨k, rfl⟩ : ∃ m, k = m + 1 := ⟨k - 1, by omega⟩
  obtain ⟨k, rfl⟩ : ∃ m, k = m + 1 := ⟨k - 1, by omega⟩
  have v1 := val_from h1
  have v2 := val_from h2
  simp only [lawJoins.j1]
  rw [if_neg (by decide), law_at, law_at]
  simp only [Option.bind_some]
  by_cases hx : cdom a l x = true
  · by_cases hy : cdom a' l' y = true
    · have dx := cdom_iff.1 hx
      have dy := cdom_iff.1 hy
      have hv1 : atV a b l x = (cval a b l x, true) := by unfold atV; rw [if_pos h1, if_pos hx]
      have hv2 : atV a' b' l' y = (cval a' b' l' y, true) := by unfold atV; rw [if_pos h2, if_pos hy]
      rw [hv1, hv2]
      simp only [if_true, lawJoins.j2]
      rw [if_neg (by decide), w64 (x := x + y) (by omega) (by omega), law_at]
      have hv3 : atV (a + a') (b + b') (mrg l l') (x + y) = (cval (a + a') (b + b') (mrg l l') (x + y), true) := by unfold atV; rw [if_pos h3, if_pos (cdom_join x y hx hy)]
      rw [hv3]
      simp only [Option.bind_some]
      obtain ⟨t, ht1, ht2, ht3⟩ := cval_join_ex h1 h2 (x + y) (cdom_join x y hx hy)
      exact loop h1 h2 h3 x y hx hy (l.length + 1) k 0 false (by omega) (by omega) (.inr ⟨t, by omega, ht1, ht2, ht3⟩)
    · have hv1 : atV a b l x = (cval a b l x, true) := by unfold atV; rw [if_pos h1, if_pos hx]
      have hv2 : atV a' b' l' y = (0, false) := by unfold atV; rw [if_pos h2, if_neg hy]
      rw [hv1, hv2]
      simp [lawJoins.j2, kimberlitelaw03_alive.f]
  · have hv1 : atV a b l x = (0, false) := by unfold atV; rw [if_pos h1, if_neg hx]
    rw [hv1]
    simp [lawJoins.j2, kimberlitelaw03_alive.f]

theorem CurveJoins (x0 y0 : Int) (l0 : List Int) (x1 y1 : Int) (l1 : List Int) (x2 y2 : Int) (l2 : List Int) (a3 a4 : Int) (J0 : CurveI x0 y0 l0) (n0 : l0.length ≤ 9223372036854775807) (J1 : CurveI x1 y1 l1) (n1 : l1.length ≤ 9223372036854775807) (J2 : CurveI x2 y2 l2) (n2 : l2.length ≤ 9223372036854775807) (h3 : I64 a3) (h4 : I64 a4) :
    ∃ k, lawJoins.f k x0 y0 l0 x1 y1 l1 x2 y2 l2 a3 a4 = some true := by
  refine ⟨1000, ?_⟩
  unfold lawJoins.f curve_Join.f
  simp only [Option.bind_some]
  rw [joinR_comm x1 y1 l1 x0 y0 l0]
  have hlen := joinR_length x0 y0 l0 x1 y1 l1
  rw [alike_some _ _ _ _ _ _ (by omega) 1000 (by omega)]
  simp only [Option.bind_some, and_self, decide_true, if_true, bne_self_eq_false]
  rcases joinR_cases x0 y0 l0 x1 y1 l1 with ⟨g1, g2, g3, e⟩ | ⟨g1, g2, g3, e⟩ | ⟨g1, e⟩
  · rw [e]
    simp only [lawJoins.j0, curve_Join.f, Option.bind_some, Bool.false_eq_true, if_false, if_true]
    rcases joinR_cases (x0 + x1) (y0 + y1) (mrg l0 l1) x2 y2 l2 with ⟨p1, p2, p3, q1⟩ | ⟨p1, p2, p3, q1⟩ | ⟨p1, q1⟩
    · rcases joinR_cases x1 y1 l1 x2 y2 l2 with ⟨r1, r2, r3, q2⟩ | ⟨r1, r2, r3, q2⟩ | ⟨r1, q2⟩
      · rcases joinR_cases x0 y0 l0 (x1 + x2) (y1 + y2) (mrg l1 l2) with ⟨s1, s2, s3, q3⟩ | ⟨s1, s2, s3, q3⟩ | ⟨s1, q3⟩
        · rw [q1, q2]
          simp only
          rw [q3]
          simp only [if_true]
          have hl3 := (val_from p3).2.2.2.2
          rw [alike_some _ _ _ _ _ _ (by omega) 999 (by omega)]
          rw [decide_eq_true ⟨by omega, by omega, mrg_assoc (val_all g1).1 (val_all g2).1 (val_all p2).1⟩]
          exact rest g1 g2 g3 a3 a4 999 (by decide)
        · rw [q1, q2]
          simp only
          rw [q3]
          exact rest g1 g2 g3 a3 a4 999 (by decide)
        · rw [q1, q2]
          simp only
          rw [q3]
          exact rest g1 g2 g3 a3 a4 999 (by decide)
      · rw [q1, q2]
        exact rest g1 g2 g3 a3 a4 999 (by decide)
      · rw [q1, q2]
        exact rest g1 g2 g3 a3 a4 999 (by decide)
    · rw [q1]
      exact rest g1 g2 g3 a3 a4 999 (by decide)
    · rw [q1]
      exact rest g1 g2 g3 a3 a4 999 (by decide)
  · rw [e]
    simp [lawJoins.j0, curve_Valid.f, g1, g2, kimberlitelaw03_alive.f]
  · rw [e]
    rcases g1 with g1 | g1
    · simp [lawJoins.j0, curve_Valid.f, g1, kimberlitelaw03_alive.f]
    · by_cases g2 : valB x0 y0 l0 = true
      · simp [lawJoins.j0, curve_Valid.f, g1, g2, kimberlitelaw03_alive.f]
      · have g2 := Bool.eq_false_iff.2 g2
        simp [lawJoins.j0, curve_Valid.f, g1, g2, kimberlitelaw03_alive.f]
end Go.Proofs.Ytfeeaipbmpmpgaa.Pure

namespace Go.Proofs.Ytfeeaipbmpmpgaa.curveJoins
open Go.ChangeShapes Go.WideShapes Go.ChangeAt Go.RowKit
open Go.ChangeMaps (open_string shut_string)
open Go.Proofs.YtfeeaipbmpmpgaaW.PrintWords Go.Proofs.YtfeeaipbmpmpgaaW.PrintLast Go.Proofs.YtfeeaipbmpmpgaaW.PrintMore Go.Proofs.Ytfeeaipbmpmpgaa.PX
set_option linter.unusedVariables false
theorem own : ownKnob Try.prog.godebug = none := by kernel_rfl
theorem laidOut : laidOutB Try.prog = true := by kernel_rfl
set_option maxRecDepth 100000 in
theorem lifted (os : Os) (started : os.Started) (H : Type) (enc : TypeId × Value → H) :
    ReturnsInHanded {} Try.checked os 3 .any (Rows.curveJoinsSpec.pre6 enc Try.prog Try.f3 Rows.curveJoinsRow.domain false) (Rows.curveJoinsSpec.post enc Try.prog Try.f3 false true false false) := by
  refine returnsInHanded_of_change_sized (C := Try.checked) own started (by kernel_rfl) Try.func3
    (ChangeSpec.witness6 (enc := enc) (C := Try.checked) false ⟨#[], #[.agg #[.int .i64 0, .int .i64 0, .slice none 0 0], .agg #[.int .i64 0, .int .i64 0, .slice none 0 0], .agg #[.int .i64 0, .int .i64 0, .slice none 0 0], .int .i64 0, .int .i64 0], []⟩ 8 (by kernel_rfl) (by kernel_rfl) (by kernel_rfl) (by kernel_rfl)) ?_
  intro W base args ds gs before hval0 hW hcnd hsz0 _
  have hval : ∀ (j : Nat) t v, Try.f3.params[j]? = some t → args[j]? = some v → Value.okWide Try.prog W .any base t v := hval0
  have hW' := hW
  obtain ⟨p, q, hA0, hV, rfl, hfz, hnd⟩ := hW
  have hA : DataW.TrodAll enc Try.prog W 0 (fun _ => true) true Try.f3.params.toList args.toList ds p := hA0
  rw [Try.params3] at hA hval
  obtain ⟨v0, vs0, d0, ds0, p0, q0, hargs, rfl, rfl, h0, r0⟩ := trodAll_cons hA
  obtain ⟨v1, vs1, d1, ds1, p1, q1, rfl, rfl, rfl, h1, r1⟩ := trodAll_cons r0
  obtain ⟨v2, vs2, d2, ds2, p2, q2, rfl, rfl, rfl, h2, r2⟩ := trodAll_cons r1
  obtain ⟨v3, vs3, d3, ds3, p3, q3, rfl, rfl, rfl, h3, r3⟩ := trodAll_cons r2
  obtain ⟨v4, vs4, d4, ds4, p4, q4, rfl, rfl, rfl, h4, r4⟩ := trodAll_cons r3
  obtain ⟨rfl, rfl, rfl⟩ := trodAll_nil r4
  obtain rfl : args = #[v0, v1, v2, v3, v4] := by cases args; simp_all
  obtain ⟨rfl, rfl⟩ := trodVars_none hV
  have k0 := h0
  have lt0 : ∀ x ∈ p0, x.block < W.heap.size := by obtain ⟨m, hm⟩ := k0; exact DataW.trod_lt m _ _ _ hm
  obtain ⟨x0, y0, l0, A0, c0, rfl, e0, C0, J0⟩ := open_curve (hval 0 24 v0 rfl rfl) h0
  have k1 := h1
  have lt1 : ∀ x ∈ p1, x.block < W.heap.size := by obtain ⟨m, hm⟩ := k1; exact DataW.trod_lt m _ _ _ hm
  obtain ⟨x1, y1, l1, A1, c1, rfl, e1, C1, J1⟩ := open_curve (hval 1 24 v1 rfl rfl) h1
  have k2 := h2
  have lt2 : ∀ x ∈ p2, x.block < W.heap.size := by obtain ⟨m, hm⟩ := k2; exact DataW.trod_lt m _ _ _ hm
  obtain ⟨x2, y2, l2, A2, c2, rfl, e2, C2, J2⟩ := open_curve (hval 2 24 v2 rfl rfl) h2
  obtain ⟨a3, rfl, rfl, rfl, w3⟩ := open_int Try.underlying3 (hval 3 3 v3 rfl rfl) h3
  obtain ⟨a4, rfl, rfl, rfl, w4⟩ := open_int Try.underlying3 (hval 4 3 v4 rfl rfl) h4
  clear hA0 hval0 hsz0
  obtain ⟨n, hn⟩ := Pure.CurveJoins x0 y0 l0 x1 y1 l1 x2 y2 l2 a3 a4 J0 C0.2.1 J1 C1.2.1 J2 C2.2.1 (i64_of_wf w3) (i64_of_wf w4)
  refine (lawJoins.calls n x0 y0 A0 c0 l0 x1 y1 A1 c1 l1 x2 y2 A2 c2 l2 a3 a4 true W C0 e0 C1 e1 C2 e2 hn).mono fun e W' ⟨he, bel⟩ => ?_
  subst he
  exact ⟨_, rfl, _, _, _, [], _, [], hW', trodAll_mk1 (shut_bool Try.underlying4 _), (trodAll_cons_mk (Below.trod laidOut (by kernel_rfl) (of_decide_eq_true (by kernel_rfl)) k0 bel lt0) (trodAll_cons_mk (Below.trod laidOut (by kernel_rfl) (of_decide_eq_true (by kernel_rfl)) k1 bel lt1) (trodAll_cons_mk (Below.trod laidOut (by kernel_rfl) (of_decide_eq_true (by kernel_rfl)) k2 bel lt2) (trodAll_cons_mk (shut_int Try.underlying3 w3) (trodAll_cons_mk (shut_int Try.underlying3 w4) trodAll_mk0))))), rfl, bel.frame _, fun h => by cases h⟩
theorem over : Rows.curveJoinsRow.holds Try.pinned (OpenSpec.ofChange Rows.curveJoinsSpec) :=
  OpenClaim.holds_of_wide 3 Try.f3 rfl rfl rfl rfl rfl rfl rfl ⟨rfl, rfl, rfl, rfl, rfl⟩ rfl rfl rfl rfl rfl (by kernel_rfl) Try.func3 (by kernel_rfl)
    (of_decide_eq_true (by kernel_rfl)) (by unfold Func.isWrapper; first | (rw [if_pos (by decide +kernel)]; kernel_rfl) | (rw [if_neg (by decide +kernel)]; exact ⟨rfl, rfl⟩))
    (fun os started H enc _ => lifted os started H enc)
theorem proved : Rows.CurveJoinsSaid := over
end Go.Proofs.Ytfeeaipbmpmpgaa.curveJoins
namespace Go.Proofs.Ytfeeaipbmpmpgaa
/-- The row, under a short name, for the claim. -/
theorem curveJoins_holds : Rows.CurveJoinsSaid := curveJoins.proved
#print axioms curveJoins_holds
end Go.Proofs.Ytfeeaipbmpmpgaa

