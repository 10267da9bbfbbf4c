/- The statement CurveBest: Split returns the lexicographically first division of least cost, certified by its price: for every input the law returns true. Conditions: none. -/
import Derived.WalkKit
import Derived.ProofKit
import Derived.OpenShut
import Derived.ShutString
import Derived.ChangeOld
import Derived.Below
import Derived.SizedLaws
import Derived.Test.YtfeeaipbmpmpgaaBBest2
import Derived.Test.YtfeeaipbmpmpgaaRows
namespace Go.Proofs.Ytfeeaipbmpmpgaa.Pure
open Go.RowKit Go.Proofs.YtfeeaipbmpmpgaaW.PrintWords Go.Proofs.YtfeeaipbmpmpgaaW.PrintLast Go.Proofs.YtfeeaipbmpmpgaaW.PrintMore Go.Proofs.Ytfeeaipbmpmpgaa.PX
set_option linter.unusedVariables false
set_option linter.unusedSimpArgs false

theorem next64 (i : Nat) (hi : i ≤ 1000000) : wrap64 ((i : Int) + 1) = ((i + 1 : Nat) : Int) := by rw [w64 (x := (i : Int) + 1) (by omega) (by omega)]; omega

/-- What 'spent' tells of a division: its cost, if it fits. -/
def costs : List S24 → List Int → Int
  | c :: cs, x :: xs => cval c.f0 c.f1 c.f2 x + costs cs xs
  | _, _ => 0
def fitsAll : List S24 → List Int → Bool
  | c :: cs, x :: xs => cdom c.f0 c.f2 x && fitsAll cs xs
  | [], [] => true
  | _, _ => false
theorem costs_bound (cs : List S24) (xs : List Int) (hv : ∀ c ∈ cs, valB c.f0 c.f1 c.f2 = true) : -(1099578736640 * (cs.length : Int)) ≤ costs cs xs ∧ costs cs xs ≤ 1099578736640 * (cs.length : Int) := by
  induction cs generalizing xs with
  | nil => simp [costs]
  | cons c cs ih =>
    cases xs with
    | nil => simp only [costs, List.length_cons]; omega
    | cons x xs =>
      have h1 := ih xs (fun c hc => hv c (List.mem_cons_of_mem _ hc))
      have h2 := cval_bound (hv c List.mem_cons_self) (x - c.f0).toNat
      simp only [costs, cval, List.length_cons]
      omega
theorem fits_length {cs : List S24} {xs : List Int} (h : fitsAll cs xs = true) : xs.length = cs.length := by
  induction cs generalizing xs with
  | nil => cases xs with
    | nil => rfl
    | cons x xs => simp [fitsAll] at h
  | cons c cs ih => cases xs with
    | nil => simp [fitsAll] at h
    | cons x xs =>
      simp only [fitsAll, Bool.and_eq_true] at h
      simp [ih h.2]
theorem sum_bound (cs : List S24) (xs : List Int) (hv : ∀ c ∈ cs, valB c.f0 c.f1 c.f2 = true) (h : fitsAll cs xs = true) : -(1048640 * (cs.length : Int)) ≤ xs.sum ∧ xs.sum ≤ 1048640 * (cs.length : Int) := by
  induction cs generalizing xs with
  | nil => cases xs with
    | nil => simp
    | cons x xs => simp [fitsAll] at h
  | cons c cs ih => cases xs with
    | nil => simp [fitsAll] at h
    | cons x xs =>
      simp only [fitsAll, Bool.and_eq_true] at h
      have h1 := ih xs (fun c hc => hv c (List.mem_cons_of_mem _ hc)) h.2
      have h2 := val_from (hv c List.mem_cons_self)
      have h3 := cdom_iff.1 h.1
      simp only [List.sum_cons, List.length_cons]
      omega
def spentV (cs : List S24) (xs : List Int) (acc left : Int) : Int × Bool := if fitsAll cs xs = true then (acc + costs cs xs, left - xs.sum == 0) else (0, false)
theorem spentV_cons (c : S24) (cs : List S24) (x : Int) (xs : List Int) (acc left : Int) : spentV (c :: cs) (x :: xs) acc left = if cdom c.f0 c.f2 x = true then spentV cs xs (acc + cval c.f0 c.f1 c.f2 x) (left - x) else (0, false) := by
  unfold spentV
  by_cases h : cdom c.f0 c.f2 x = true
  · by_cases g : fitsAll cs xs = true
    · rw [if_pos (by simp [fitsAll, h, g]), if_pos h, if_pos g]
      simp only [costs, List.sum_cons]
      rw [Int.add_assoc, Int.sub_sub]
    · rw [if_neg (by simp [fitsAll, g]), if_pos h, if_neg g]
  · rw [if_neg (by simp [fitsAll, h]), if_neg h]
theorem spent_l0 (cs : List S24) (xs : List Int) (hv : ∀ c ∈ cs, valB c.f0 c.f1 c.f2 = true) (hn : cs.length ≤ 8) (hx : xs.length = cs.length) (d : Nat) : ∀ (k i : Nat) (acc left : Int), i + d = cs.length → d < k →
    -(1099578736640 * (i : Int)) ≤ acc → acc ≤ 1099578736640 * (i : Int) → -(9000000 + 1048640 * (i : Int)) ≤ left → left ≤ 9000000 + 1048640 * (i : Int) →
    kimberlitelaw03_spent.l0 k cs xs acc left (i : Int) = some (spentV (cs.drop i) (xs.drop i) acc left) := by
  induction d with
  | zero =>
    intro k i acc left hi hk ha1 ha2 hl1 hl2
    obtain ⟨k, rfl⟩ : ∃ m, k = m + 1 := ⟨k - 1, by omega⟩
    simp only [kimberlitelaw03_spent.l0]
    rw [if_neg (by omega), List.drop_eq_nil_of_le (by omega), List.drop_eq_nil_of_le (by omega)]
    simp [spentV, fitsAll, costs]
  | succ d ih =>
    intro k i acc left hi hk ha1 ha2 hl1 hl2
    obtain ⟨k, rfl⟩ : ∃ m, k = m + 1 := ⟨k - 1, by omega⟩
    have h1 : i < cs.length := by omega
    have h2 : i < xs.length := by omega
    have hvi := hv _ (List.getElem_mem h1)
    simp only [kimberlitelaw03_spent.l0]
    rw [if_pos (by omega), if_pos (by omega), if_pos (by omega), rd_T24_getElem cs i h1, rd_getElem xs i h2, List.drop_eq_getElem_cons h1, List.drop_eq_getElem_cons h2, law_at, spentV_cons]
    simp only [Option.bind_some]
    unfold atV
    rw [if_pos hvi]
    by_cases hd : cdom cs[i].f0 cs[i].f2 xs[i] = true
    · rw [if_pos hd, if_pos hd]
      simp only [if_true]
      have hb := cval_i64 hvi xs[i]
      have hvf := val_from hvi
      have hdd := cdom_iff.1 hd
      have hxb : -1048640 ≤ xs[i] ∧ xs[i] ≤ 1048640 := ⟨by omega, by omega⟩
      clear hvf hdd
      rw [w64 (x := acc + cval cs[i].f0 cs[i].f1 cs[i].f2 xs[i]) (by omega) (by omega), w64 (x := left - xs[i]) (by omega) (by omega), w64 (x := (i : Int) + 1) (by omega) (by omega), show ((i : Int) + 1) = ((i + 1 : Nat) : Int) from by omega]
      exact ih k (i + 1) _ _ (by omega) (by omega) (by omega) (by omega) (by omega) (by omega)
    · rw [if_neg hd, if_neg hd]
      simp
theorem spent_some (cs : List S24) (xs : List Int) (total : Int) (hv : ∀ c ∈ cs, valB c.f0 c.f1 c.f2 = true) (hn : cs.length ≤ 8) (ht : -9000000 ≤ total ∧ total ≤ 9000000) (k : Nat) (hk : 20 ≤ k) (hx : xs.length ≤ 9223372036854775807) :
    kimberlitelaw03_spent.f k cs xs total = some (spentV cs xs 0 total) := by
  unfold kimberlitelaw03_spent.f
  by_cases hl : xs.length = cs.length
  · rw [if_pos (by omega)]
    have := spent_l0 cs xs hv hn hl cs.length k 0 0 total (by omega) (by omega) (by omega) (by omega) (by omega) (by omega)
    simpa using this
  · rw [if_neg (by omega)]
    have : ¬ fitsAll cs xs = true := fun h => hl (fits_length h)
    unfold spentV
    rw [if_neg this]
/-- A certificate: what a division costs is at least what its price tells, and just that where each curve is least. -/
theorem weak (cs : List S24) (xs : List Int) (p : Int) (h : fitsAll cs xs = true) : p * xs.sum - (cs.map fun c => gr c.f0 c.f1 c.f2 p).sum ≤ costs cs xs := by
  induction cs generalizing xs with
  | nil => cases xs with
    | nil => simp [costs]
    | cons x xs => simp [fitsAll] at h
  | cons c cs ih => cases xs with
    | nil => simp [fitsAll] at h
    | cons x xs =>
      simp only [fitsAll, Bool.and_eq_true] at h
      have h1 := ih xs h.2
      have h2 := gr_ge c.f0 c.f1 c.f2 p x h.1
      simp only [costs, List.sum_cons, List.map_cons, Int.mul_add]
      omega
theorem strong (cs : List S24) (xs : List Int) (p : Int) (h : fitsAll cs xs = true) (he : ∀ (i : Nat) (h1 : i < cs.length) (h2 : i < xs.length), p * xs[i] - cval cs[i].f0 cs[i].f1 cs[i].f2 xs[i] = gr cs[i].f0 cs[i].f1 cs[i].f2 p) :
    costs cs xs = p * xs.sum - (cs.map fun c => gr c.f0 c.f1 c.f2 p).sum := by
  induction cs generalizing xs with
  | nil => cases xs with
    | nil => simp [costs]
    | cons x xs => simp [fitsAll] at h
  | cons c cs ih => cases xs with
    | nil => simp [fitsAll] at h
    | cons x xs =>
      simp only [fitsAll, Bool.and_eq_true] at h
      have h1 := ih xs h.2 (fun i g1 g2 => by have := he (i + 1) (by simp; omega) (by simp; omega); simpa using this)
      have h2 := he 0 (by simp) (by simp)
      simp only [List.getElem_cons_zero] at h2
      simp only [costs, List.sum_cons, List.map_cons, Int.mul_add]
      omega
/-- Where the costs are equal, each curve is least. -/
theorem tight (cs : List S24) (xs : List Int) (p : Int) (h : fitsAll cs xs = true) (he : costs cs xs ≤ p * xs.sum - (cs.map fun c => gr c.f0 c.f1 c.f2 p).sum) (i : Nat) (h1 : i < cs.length) (h2 : i < xs.length) : p * xs[i] - cval cs[i].f0 cs[i].f1 cs[i].f2 xs[i] = gr cs[i].f0 cs[i].f1 cs[i].f2 p := by
  induction cs generalizing xs i with
  | nil => simp at h1
  | cons c cs ih => cases xs with
    | nil => simp at h2
    | cons x xs =>
      simp only [fitsAll, Bool.and_eq_true] at h
      have g1 := weak cs xs p h.2
      have g2 := gr_ge c.f0 c.f1 c.f2 p x h.1
      simp only [costs, List.sum_cons, List.map_cons, Int.mul_add] at he
      cases i with
      | zero => simp only [List.getElem_cons_zero]; omega
      | succ i =>
        simp only [List.getElem_cons_succ]
        exact ih xs h.2 (by omega) i (by simpa using h1) (by simpa using h2)
/-! ### what Split tells where it succeeds -/
theorem fits_of_ok {cs : List S24} {ps : List (S24 × Int)} {m : Int} (h : OkP cs ps m) : fitsAll cs (ps.map (·.2)) = true := by
  obtain ⟨h1, h2, h3⟩ := h
  subst h1
  clear h3
  induction ps with
  | nil => rfl
  | cons p ps ih =>
    have hp := h2 p List.mem_cons_self
    unfold toP at hp
    simp only [List.map_cons, fitsAll, Bool.and_eq_true]
    exact ⟨cdom_iff.2 hp, ih (fun q hq => h2 q (List.mem_cons_of_mem _ hq))⟩
theorem sumP_eq (ps : List (S24 × Int)) (hv : ∀ p ∈ ps, valB p.1.f0 p.1.f1 p.1.f2 = true) (hn : ps.length ≤ 8) : sumP ps = costs (ps.map (·.1)) (ps.map (·.2)) := by
  have hc : ∀ p ∈ ps, valP p = cval p.1.f0 p.1.f1 p.1.f2 p.2 := fun p hp => valP_eq (hv p hp) p.2
  have key : ∀ (qs : List (S24 × Int)) (acc : Int), (∀ p ∈ qs, valB p.1.f0 p.1.f1 p.1.f2 = true) → -(1099578736640 * (8 - (qs.length : Int))) ≤ acc → acc ≤ 1099578736640 * (8 - (qs.length : Int)) → qs.length ≤ 8 →
      qs.foldl (fun s p => wrap64 (s + valP p)) acc = acc + costs (qs.map (·.1)) (qs.map (·.2)) := by
    intro qs
    induction qs with
    | nil => intro acc _ _ _ _; simp [costs]
    | cons q qs ih =>
      intro acc hq ha1 ha2 hl
      have hvq := hq q List.mem_cons_self
      have hb := cval_bound hvq (q.2 - q.1.f0).toNat
      simp only [List.foldl_cons, List.map_cons, costs, List.length_cons] at ha1 ha2 hl ⊢
      have e : valP q = cval q.1.f0 q.1.f1 q.1.f2 q.2 := valP_eq hvq q.2
      rw [e, w64 (x := acc + cval q.1.f0 q.1.f1 q.1.f2 q.2) (by unfold cval; omega) (by unfold cval; omega)]
      rw [ih _ (fun p hp => hq p (List.mem_cons_of_mem _ hp)) (by unfold cval; omega) (by unfold cval; omega) (by omega)]
      omega
  have := key ps 0 hv (by omega) (by omega) hn
  unfold sumP
  rw [this]
  omega
theorem sum_le_of (xs ys : List Int) (hl : ys.length = xs.length) (h : ∀ (j : Nat) (h1 : j < ys.length) (h2 : j < xs.length), ys[j] ≤ xs[j]) : ys.sum ≤ xs.sum := by
  induction xs generalizing ys with
  | nil => cases ys with
    | nil => simp
    | cons y ys => simp at hl
  | cons x xs ih => cases ys with
    | nil => simp at hl
    | cons y ys =>
      have h0 := h 0 (by simp) (by simp)
      have := ih ys (by simpa using hl) (fun j h1 h2 => by have := h (j + 1) (by simpa using h1) (by simpa using h2); simpa using this)
      simp only [List.getElem_cons_zero] at h0
      simp only [List.sum_cons]
      omega
theorem sum_lt_of (i : Nat) : ∀ (xs ys : List Int) (hl : ys.length = xs.length) (hi : i < ys.length) (hi2 : i < xs.length), (∀ (k : Nat) (h1 : k < ys.length) (h2 : k < xs.length), k < i → xs[k] = ys[k]) → ys[i] < xs[i] →
    (∀ (j : Nat) (h1 : j < ys.length) (h2 : j < xs.length), i < j → ys[j] ≤ xs[j]) → ys.sum < xs.sum := by
  induction i with
  | zero =>
    intro xs ys hl hi hi2 _ hlt hle
    cases xs with
    | nil => simp at hi2
    | cons x xs => cases ys with
      | nil => simp at hi
      | cons y ys =>
        have := sum_le_of xs ys (by simpa using hl) (fun j h1 h2 => by have := hle (j + 1) (by simpa using h1) (by simpa using h2) (by omega); simpa using this)
        simp only [List.getElem_cons_zero] at hlt
        simp only [List.sum_cons]
        omega
  | succ i ih =>
    intro xs ys hl hi hi2 heq hlt hle
    cases xs with
    | nil => simp at hi2
    | cons x xs => cases ys with
      | nil => simp at hi
      | cons y ys =>
        have h0 := heq 0 (by simp) (by simp) (by omega)
        have := ih xs ys (by simpa using hl) (by simpa using hi) (by simpa using hi2) (fun k h1 h2 hk => by have := heq (k + 1) (by simpa using h1) (by simpa using h2) (by omega); simpa using this) (by simpa using hlt) (fun j h1 h2 hj => by have := hle (j + 1) (by simpa using h1) (by simpa using h2) (by omega); simpa using this)
        simp only [List.getElem_cons_zero] at h0
        simp only [List.sum_cons]
        omega
structure Split (cs : List S24) (total : Int) (ps : List (S24 × Int)) : Prop where
  ok : OkP cs ps total
  greedy : Greedy ps
  val : ∀ p ∈ ps, valB p.1.f0 p.1.f1 p.1.f2 = true
  len : ps.length = cs.length
theorem Split.mk' {cs : List S24} {total : Int} (hv : ∀ c ∈ cs, valB c.f0 c.f1 c.f2 = true) (h1 : leastP cs ≤ total) (h2 : total ≤ mostP cs) : Split cs total (splitPs cs total) := by
  have e : leastP cs + (((total - leastP cs).toNat : Nat) : Int) = total := by omega
  have hok := OkP.run (cs := cs) (total - leastP cs).toNat (by omega)
  rw [e] at hok
  refine ⟨hok, Greedy.run hv _ (by omega), fun p hp => ?_, ?_⟩
  · exact hv _ (by rw [← hok.fst]; exact List.mem_map_of_mem hp)
  · have := congrArg List.length hok.fst
    unfold splitPs
    simpa using this
theorem Split.price {cs : List S24} {total : Int} {ps : List (S24 × Int)} (h : Split cs total ps) : -1048576 ≤ priceP ps ∧ priceP ps ≤ 1048576 ∧ ∀ p ∈ ps, loP p ≤ priceP ps :=
  priceP_spec ps 1048576 (fun p hp => lo_le (h.val p hp) (h.ok.dom p hp)) (by omega)
theorem Split.least {cs : List S24} {total : Int} {ps : List (S24 × Int)} (h : Split cs total ps) (i : Nat) (hi : i < ps.length) :
    priceP ps * ps[i].2 - cval ps[i].1.f0 ps[i].1.f1 ps[i].1.f2 ps[i].2 = gr ps[i].1.f0 ps[i].1.f1 ps[i].1.f2 (priceP ps) := by
  have hm := List.getElem_mem hi
  have hp := h.price
  have hd := h.ok.dom _ hm
  have hl : LeastAt ps[i].1 (priceP ps) ps[i].2 := leastAt_of (h.val _ hm) hd (hp.2.2 _ hm) hp.1 (fun b hb => price_le_key h.greedy h.val h.ok.dom i hi b hb)
  have hdc : cdom ps[i].1.f0 ps[i].1.f2 ps[i].2 = true := cdom_iff.2 hd
  have hge := gr_ge ps[i].1.f0 ps[i].1.f1 ps[i].1.f2 (priceP ps) ps[i].2 hdc
  obtain ⟨y, hy, e⟩ := gr_ex ps[i].1.f0 ps[i].1.f1 ps[i].1.f2 (priceP ps)
  have hy' := cdom_iff.1 hy
  have h2 := hl y hy'.1 (by unfold toP; exact hy'.2)
  have e1 : valP (ps[i].1, y) = cval ps[i].1.f0 ps[i].1.f1 ps[i].1.f2 y := valP_eq (h.val _ hm) y
  have e2 : valP (ps[i].1, ps[i].2) = cval ps[i].1.f0 ps[i].1.f1 ps[i].1.f2 ps[i].2 := valP_eq (h.val _ hm) ps[i].2
  rw [e1, e2] at h2
  omega
/-- Among the divisions that cost the same, Split's is the first. -/
theorem Split.first {cs : List S24} {total : Int} {ps : List (S24 × Int)} (h : Split cs total ps) (ys : List Int) (hf : fitsAll cs ys = true) (hs : ys.sum = total) (hc : costs cs ys = costs cs (ps.map (·.2))) (i : Nat) (hi : i < ys.length) (hi2 : i < ps.length)
    (heq : ∀ (k : Nat) (h1 : k < ys.length) (h2 : k < ps.length), k < i → ps[k].2 = ys[k]) (hne : ps[i].2 ≠ ys[i]) : ps[i].2 < ys[i] := by
  have hlen : ys.length = cs.length := fits_length hf
  have hlp := h.len
  have hP := h.price
  have hcs : ∀ (k : Nat) (h1 : k < cs.length) (h2 : k < ps.length), cs[k] = ps[k].1 := fun k h1 h2 => by
    have hfst := h.ok.fst
    subst hfst
    simp
  -- each curve is least at ys, too
  have htight : ∀ (k : Nat) (h1 : k < ps.length) (h2 : k < ys.length), priceP ps * ys[k] - cval ps[k].1.f0 ps[k].1.f1 ps[k].1.f2 ys[k] = gr ps[k].1.f0 ps[k].1.f1 ps[k].1.f2 (priceP ps) := fun k h1 h2 => by
    have hst := strong cs (ps.map (·.2)) (priceP ps) (fits_of_ok h.ok) (fun j g1 g2 => by
      have := h.least j (by omega)
      rw [hcs j g1 (by omega)]
      simpa using this)
    rw [h.ok.sum] at hst
    have ht := tight cs ys (priceP ps) hf (by rw [hs, hc, hst]; exact Int.le_refl _) k (by omega) h2
    rw [hcs k (by omega) h1] at ht
    exact ht
  have hdom : ∀ (k : Nat) (h1 : k < ps.length) (h2 : k < ys.length), cdom ps[k].1.f0 ps[k].1.f2 ys[k] = true := fun k h1 h2 => by
    have key : ∀ (cs : List S24) (ys : List Int), fitsAll cs ys = true → ∀ (k : Nat) (h1 : k < cs.length) (h2 : k < ys.length), cdom cs[k].f0 cs[k].f2 ys[k] = true := by
      intro cs
      induction cs with
      | nil => intro ys _ k h1; simp at h1
      | cons c cs ih =>
        intro ys hf k h1 h2
        cases ys with
        | nil => simp at h2
        | cons y ys =>
          simp only [fitsAll, Bool.and_eq_true] at hf
          cases k with
          | zero => exact hf.1
          | succ k => exact ih ys hf.2 k (by simpa using h1) (by simpa using h2)
    have := key cs ys hf k (by omega) h2
    rw [hcs k (by omega) h1] at this
    exact this
  refine Classical.byContradiction fun hcon => ?_
  have hlt : ys[i] < ps[i].2 := by omega
  -- a later curve gets more
  have hex : ∃ (j : Nat) (h1 : j < ys.length) (h2 : j < ps.length), i < j ∧ ps[j].2 < ys[j] := by
    refine Classical.byContradiction fun hno => ?_
    have := sum_lt_of i (ps.map (·.2)) ys (by simp; omega) hi (by simpa using hi2) (fun k h1 h2 hk => by have := heq k h1 (by simpa using h2) hk; simpa using this) (by simpa using hlt) (fun j h1 h2 hj => by
      have h2' : j < ps.length := by simpa using h2
      have : ¬ ps[j].2 < ys[j] := fun g => hno ⟨j, h1, h2', hj, g⟩
      simp only [List.getElem_map]
      omega)
    rw [hs, h.ok.sum] at this
    omega
  obtain ⟨j, hj1, hj2, hij, hjlt⟩ := hex
  -- what was taken last of i costs the price or more
  have hA : ∃ a, lastP ps[i] = some a ∧ priceP ps ≤ a := by
    have hd := h.ok.dom _ (List.getElem_mem hi2)
    have hdy := cdom_iff.1 (hdom i hi2 hi)
    have e1 := htight i hi2 hi
    have e2 := h.least i hi2
    have hv := h.val _ (List.getElem_mem hi2)
    generalize ps[i] = p at *
    generalize ys[i] = y at *
    unfold toP at hd
    obtain ⟨t, ht⟩ := Int.eq_ofNat_of_zero_le (show 0 ≤ p.2 - p.1.f0 from by omega)
    obtain ⟨u, hu⟩ := Int.eq_ofNat_of_zero_le (show 0 ≤ y - p.1.f0 from by omega)
    have htu : u < t := by omega
    have hr : rd p.1.f2 (p.2 - p.1.f0 - 1) = p.1.f2[t - 1] := by rw [show p.2 - p.1.f0 - 1 = ((t - 1 : Nat) : Int) from by omega, rd_getElem _ (t - 1) (by omega)]
    refine ⟨p.1.f2[t - 1], by unfold lastP; rw [if_pos (by omega), hr], ?_⟩
    refine Classical.byContradiction fun hcon => ?_
    have h1 := sm_down p.1.f2 p.1.f2[t - 1] t u (by omega) (by omega) (fun k hk hkt => by
      by_cases e : k = t - 1
      · subst e; exact Int.le_refl _
      · exact List.pairwise_iff_getElem.1 (val_all hv).1 k (t - 1) hk (by omega) (by omega))
    generalize p.1.f2[t - 1] = a at h1 hcon
    have h2 := Int.mul_le_mul_of_nonneg_right (show a ≤ priceP ps - 1 from by omega) (show (0 : Int) ≤ ((t - u : Nat) : Int) from by omega)
    rw [Int.sub_mul, Int.one_mul] at h2
    unfold cval at e1 e2
    rw [hu, Int.toNat_natCast] at e1
    rw [ht, Int.toNat_natCast] at e2
    have e3 : priceP ps * ((t - u : Nat) : Int) = priceP ps * p.2 - priceP ps * y := by
      rw [← Int.mul_sub]
      congr 1
      omega
    omega
  have hB : ∃ b, keyP ps[j] = some b ∧ b ≤ priceP ps := by
    have hd := h.ok.dom _ (List.getElem_mem hj2)
    have hdy := cdom_iff.1 (hdom j hj2 hj1)
    have e1 := htight j hj2 hj1
    have e2 := h.least j hj2
    have hv := h.val _ (List.getElem_mem hj2)
    generalize ps[j] = p at *
    generalize ys[j] = y at *
    unfold toP at hd
    obtain ⟨t, ht⟩ := Int.eq_ofNat_of_zero_le (show 0 ≤ p.2 - p.1.f0 from by omega)
    obtain ⟨u, hu⟩ := Int.eq_ofNat_of_zero_le (show 0 ≤ y - p.1.f0 from by omega)
    have htu : t < u := by omega
    have hr : rd p.1.f2 (p.2 - p.1.f0) = p.1.f2[t] := by rw [ht, rd_getElem _ t (by omega)]
    refine ⟨p.1.f2[t], by unfold keyP nextK; rw [if_pos (by omega), hr], ?_⟩
    refine Classical.byContradiction fun hcon => ?_
    have h1 := sm_up p.1.f2 p.1.f2[t] t u (by omega) (by omega) (fun k hk hkt => by
      by_cases e : t = k
      · subst e; exact Int.le_refl _
      · exact List.pairwise_iff_getElem.1 (val_all hv).1 t k (by omega) hk (by omega))
    generalize p.1.f2[t] = b at h1 hcon
    have h2 := Int.mul_le_mul_of_nonneg_right (show priceP ps + 1 ≤ b from by omega) (show (0 : Int) ≤ ((u - t : Nat) : Int) from by omega)
    rw [Int.add_mul, Int.one_mul] at h2
    unfold cval at e1 e2
    rw [hu, Int.toNat_natCast] at e1
    rw [ht, Int.toNat_natCast] at e2
    have e3 : priceP ps * ((u - t : Nat) : Int) = priceP ps * y - priceP ps * p.2 := by
      rw [← Int.mul_sub]
      congr 1
      omega
    omega
  obtain ⟨a, ha, hpa⟩ := hA
  obtain ⟨b, hb, hbp⟩ := hB
  have := (h.greedy i j hi2 hj2 a b ha hb).2 hij
  omega
theorem lex {cs : List S24} {total : Int} {ps : List (S24 × Int)} (h : Split cs total ps) (ys : List Int) (hf : fitsAll cs ys = true) (hs : ys.sum = total) (hc : costs cs ys = costs cs (ps.map (·.2))) (hn : cs.length ≤ 8) (d : Nat) :
    ∀ (k i : Nat), i + d = cs.length → 2 * d + 1 < k → (∀ (k : Nat) (h1 : k < ys.length) (h2 : k < ps.length), k < i → ps[k].2 = ys[k]) →
    kimberlitelaw03_CurveBest.l1 k cs ys (ps.map (·.2)) (costs cs (ps.map (·.2))) (costs cs ys) true (i : Int) = some true := by
  have hlen : ys.length = cs.length := fits_length hf
  have hlp := h.len
  induction d with
  | zero =>
    intro k i hi hk heq
    obtain ⟨k, rfl⟩ : ∃ m, k = m + 2 := ⟨k - 2, by omega⟩
    simp only [kimberlitelaw03_CurveBest.l1]
    rw [if_pos trivial, if_pos hc, decide_eq_false (by omega)]
    simp [kimberlitelaw03_CurveBest.j4, kimberlitelaw03_alive.f]
  | succ d ih =>
    intro k i hi hk heq
    obtain ⟨k, rfl⟩ : ∃ m, k = m + 2 := ⟨k - 2, by omega⟩
    have hi1 : i < ys.length := by omega
    have hi2 : i < ps.length := by omega
    have hr : rd (ps.map (·.2)) (i : Int) = ps[i].2 := by rw [rd_getElem _ i (by simpa using hi2)]; simp
    simp only [kimberlitelaw03_CurveBest.l1]
    rw [if_pos trivial, if_pos hc, decide_eq_true (by omega)]
    simp only [kimberlitelaw03_CurveBest.j4]
    rw [if_pos trivial, if_pos (by omega), if_pos (by simp; omega), if_pos (by omega), hr, rd_getElem ys i hi1]
    by_cases e : ps[i].2 = ys[i]
    · rw [if_pos e, next64 i (by omega)]
      refine ih k (i + 1) (by omega) (by omega) (fun k' h1 h2 hk' => ?_)
      by_cases e2 : k' = i
      · subst e2; exact e
      · exact heq k' h1 h2 (by omega)
    · rw [if_neg e, if_pos (h.first ys hf hs hc i hi1 hi2 heq e)]
      rfl
theorem j2_some {cs : List S24} {total : Int} {ps : List (S24 × Int)} (h : Split cs total ps) (hv : ∀ c ∈ cs, valB c.f0 c.f1 c.f2 = true) (hn : cs.length ≤ 8) (ys : List Int) (hy : ys.length ≤ 9223372036854775807) (ht : -9000000 ≤ total ∧ total ≤ 9000000) (k : Nat) (hk : 100 ≤ k) :
    ((kimberlitelaw03_spent.f k cs ys total).bind fun bt329 => (if costs cs (ps.map (·.2)) = costs cs (ps.map (·.2)) then (if bt329.2 = true then (kimberlitelaw03_CurveBest.j2 k cs ys (ps.map (·.2)) (costs cs (ps.map (·.2))) bt329.1 bt329.2 (decide (bt329.1 < costs cs (ps.map (·.2))))) else (kimberlitelaw03_CurveBest.j2 k cs ys (ps.map (·.2)) (costs cs (ps.map (·.2))) bt329.1 bt329.2 false)) else (kimberlitelaw03_CurveBest.j2 k cs ys (ps.map (·.2)) (costs cs (ps.map (·.2))) bt329.1 bt329.2 true))) = some true := by
  rw [spent_some cs ys total hv hn ht k (by omega) hy]
  simp only [Option.bind_some]
  rw [if_pos trivial]
  obtain ⟨k, rfl⟩ : ∃ m, k = m + 3 := ⟨k - 3, by omega⟩
  have no : ∀ (x : Int), kimberlitelaw03_CurveBest.j2 (k + 3) cs ys (ps.map (·.2)) (costs cs (ps.map (·.2))) x false false = some true := fun x => by
    simp [kimberlitelaw03_CurveBest.j2, kimberlitelaw03_CurveBest.l1, kimberlitelaw03_CurveBest.j4, kimberlitelaw03_alive.f]
  unfold spentV
  by_cases hf : fitsAll cs ys = true
  · rw [if_pos hf]
    by_cases hs : ys.sum = total
    · have hw := weak cs ys (priceP ps) hf
      have hst := strong cs (ps.map (·.2)) (priceP ps) (fits_of_ok h.ok) (fun j g1 g2 => by
        have := h.least j (by have := h.len; omega)
        have g3 : j < ps.length := by have := h.len; omega
        have e : cs[j] = ps[j].1 := by
          have hfst := h.ok.fst
          subst hfst
          simp
        rw [e]
        simpa using this)
      rw [h.ok.sum] at hst
      rw [hs] at hw
      have hbeq : (total - ys.sum == 0) = true := by rw [hs]; simp
      rw [hbeq]
      simp only [if_true]
      rw [Int.zero_add, decide_eq_false (by omega)]
      simp only [kimberlitelaw03_CurveBest.j2]
      rw [if_neg (by decide)]
      by_cases hc : costs cs ys = costs cs (ps.map (·.2))
      · exact lex h ys hf hs hc hn cs.length (k + 2) 0 (by omega) (by omega) (fun k' _ _ hk' => by omega)
      · simp only [kimberlitelaw03_CurveBest.l1]
        rw [if_pos trivial, if_neg hc]
        simp [kimberlitelaw03_CurveBest.j4, kimberlitelaw03_alive.f]
    · have hbeq : (total - ys.sum == 0) = false := beq_eq_false_iff_ne.2 (by omega)
      rw [hbeq]
      simp only [Bool.false_eq_true, if_false]
      exact no _
  · rw [if_neg hf]
    simp only [Bool.false_eq_true, if_false]
    exact no _
theorem low_loop {cs : List S24} {total : Int} {ps : List (S24 × Int)} (h : Split cs total ps) (hv : ∀ c ∈ cs, valB c.f0 c.f1 c.f2 = true) (hn : cs.length ≤ 8) (ys : List Int) (hy : ys.length ≤ 9223372036854775807) (ht : -9000000 ≤ total ∧ total ≤ 9000000) (d : Nat) :
    ∀ (k i : Nat) (low : Int), i + d = cs.length → 200 + d ≤ k → low = priceP ps * total - ((cs.take i).map fun c => gr c.f0 c.f1 c.f2 (priceP ps)).sum → -(10000000000000 + 2252999815782400 * (i : Int)) ≤ low → low ≤ 10000000000000 + 2252999815782400 * (i : Int) →
    kimberlitelaw03_CurveBest.l0 k cs total ys (ps.map (·.2)) (costs cs (ps.map (·.2))) (priceP ps) low (i : Int) = some true := by
  have hlp := h.len
  have hP := h.price
  have hp1 : -1073741825 ≤ priceP ps ∧ priceP ps ≤ 1073741825 := ⟨by omega, by omega⟩
  induction d with
  | zero =>
    intro k i low hi hk hlow hl1 hl2
    obtain ⟨k, rfl⟩ : ∃ m, k = m + 1 := ⟨k - 1, by omega⟩
    have hst := strong cs (ps.map (·.2)) (priceP ps) (fits_of_ok h.ok) (fun j g1 g2 => by
      have := h.least j (by omega)
      have e : cs[j] = ps[j].1 := by
        have hfst := h.ok.fst
        subst hfst
        simp
      rw [e]
      simpa using this)
    rw [h.ok.sum] at hst
    rw [List.take_of_length_le (by omega), ← hst] at hlow
    simp only [kimberlitelaw03_CurveBest.l0]
    rw [if_neg (by omega), hlow]
    exact j2_some h hv hn ys hy ht k (by omega)
  | succ d ih =>
    intro k i low hi hk hlow hl1 hl2
    obtain ⟨k, rfl⟩ : ∃ m, k = m + 1 := ⟨k - 1, by omega⟩
    have h1 : i < cs.length := by omega
    have h2 : i < ps.length := by omega
    have e : cs[i] = ps[i].1 := by
      have hfst := h.ok.fst
      subst hfst
      simp
    have hvi := hv _ (List.getElem_mem h1)
    have hgb := gr_bound hvi hp1
    have hr : rd (ps.map (·.2)) (i : Int) = ps[i].2 := by rw [rd_getElem _ i (by simpa using h2)]; simp
    have hle := h.least i h2
    have hd := h.ok.dom _ (List.getElem_mem h2)
    have hdc : cdom cs[i].f0 cs[i].f2 ps[i].2 = true := by rw [e]; exact cdom_iff.2 hd
    have hsum : ((cs.take (i + 1)).map fun c => gr c.f0 c.f1 c.f2 (priceP ps)).sum = ((cs.take i).map fun c => gr c.f0 c.f1 c.f2 (priceP ps)).sum + gr cs[i].f0 cs[i].f1 cs[i].f2 (priceP ps) := by
      rw [List.take_succ_eq_append_getElem h1, List.map_append, List.sum_append]
      simp
    rw [← e] at hle
    simp only [kimberlitelaw03_CurveBest.l0]
    rw [if_pos (by omega), if_pos (by omega), rd_T24_getElem cs i h1, law_great hvi hp1 k (by omega)]
    simp only [Option.bind_some]
    rw [if_pos (by simp; omega), hr, law_at]
    unfold atV
    rw [if_pos hvi, if_pos hdc]
    simp only [Option.bind_some]
    have hvf := val_from hvi
    have hdd := cdom_iff.1 hdc
    have hm := mul_small hp1 (x := ps[i].2) (by omega)
    have hcb := cval_i64 hvi ps[i].2
    rw [w64 (x := priceP ps * ps[i].2) (by omega) (by omega), w64 (x := priceP ps * ps[i].2 - cval cs[i].f0 cs[i].f1 cs[i].f2 ps[i].2) (by omega) (by omega), if_pos hle]
    clear hvf hdd hm hcb
    rw [w64 (x := low - gr cs[i].f0 cs[i].f1 cs[i].f2 (priceP ps)) (by omega) (by omega), next64 i (by omega)]
    exact ih k (i + 1) _ (by omega) (by omega) (by rw [hsum]; omega) (by omega) (by omega)
theorem CurveBest (l0 : List S24) (a1 : Int) (l2 : List Int) (J0 : ∀ s ∈ l0, CurveI s.f0 s.f1 s.f2) (n0 : l0.length ≤ 9223372036854775807) (h1 : I64 a1) (J2 : ∀ x ∈ l2, I64 x) (n2 : l2.length ≤ 9223372036854775807) :
    ∃ k, kimberlitelaw03_CurveBest.f k l0 a1 l2 = some true := by
  refine ⟨1000, ?_⟩
  have err : ∀ q : Int, q ≠ 0 → splitR l0 a1 = ([], 0, 0, q) → kimberlitelaw03_CurveBest.f 1000 l0 a1 l2 = some true := fun q hq e => by
    unfold kimberlitelaw03_CurveBest.f curve_Split.f
    rw [e]
    simp [hq, kimberlitelaw03_alive.f]
  by_cases g1 : 8 < l0.length
  · exact err 3 (by decide) (by unfold splitR; rw [if_pos g1])
  · by_cases g2 : l0.length = 0
    · exact err 2 (by decide) (by unfold splitR; rw [if_neg g1, if_pos g2])
    · by_cases g3 : l0.any notVal = true
      · exact err 2 (by decide) (by unfold splitR; rw [if_neg g1, if_neg g2, if_pos g3])
      · by_cases g4 : a1 < leastP l0 ∨ mostP l0 < a1
        · exact err 10 (by decide) (by unfold splitR; rw [if_neg g1, if_neg g2, if_neg g3, if_pos g4])
        · have hv : ∀ c ∈ l0, valB c.f0 c.f1 c.f2 = true := fun c hc => by
            have := (List.any_eq_false.1 (Bool.eq_false_iff.2 g3)) c hc
            unfold notVal at this
            simpa using this
          have hS := Split.mk' hv (show leastP l0 ≤ a1 from by omega) (by omega)
          have hb := least_bound l0 hv
          have ht : -9000000 ≤ a1 ∧ a1 ≤ 9000000 := ⟨by omega, by omega⟩
          have hP := hS.price
          have hsum : sumP (splitPs l0 a1) = costs l0 ((splitPs l0 a1).map (·.2)) := by
            rw [sumP_eq _ hS.val (by have := hS.len; omega), hS.ok.fst]
          have e : splitR l0 a1 = ((splitPs l0 a1).map (·.2), costs l0 ((splitPs l0 a1).map (·.2)), priceP (splitPs l0 a1), 0) := by
            unfold splitR
            rw [if_neg g1, if_neg g2, if_neg g3, if_neg g4, hsum]
          unfold kimberlitelaw03_CurveBest.f curve_Split.f
          rw [e]
          simp only [Option.bind_some, if_true]
          rw [spent_some l0 _ a1 hv (by omega) ht 1000 (by omega) (by have := hS.len; simp; omega)]
          simp only [Option.bind_some]
          have hsp : spentV l0 ((splitPs l0 a1).map (·.2)) 0 a1 = (costs l0 ((splitPs l0 a1).map (·.2)), true) := by
            unfold spentV
            rw [if_pos (fits_of_ok hS.ok), hS.ok.sum, Int.zero_add]
            simp
          rw [hsp]
          simp only [if_true]
          rw [if_neg (by omega), decide_eq_false (by omega)]
          simp only [kimberlitelaw03_CurveBest.j0]
          rw [if_neg (by decide)]
          have hm := mul_bound (P := 1048576) (X := 9000000) (p := priceP (splitPs l0 a1)) (x := a1) (by omega) ht
          rw [w64 (x := priceP (splitPs l0 a1) * a1) (by omega) (by omega)]
          exact low_loop hS hv (by omega) l2 n2 ht l0.length 999 0 _ (by omega) (by omega) (by simp) (by omega) (by omega)
end Go.Proofs.Ytfeeaipbmpmpgaa.Pure

namespace Go.Proofs.Ytfeeaipbmpmpgaa.curveBest
open Go.ChangeShapes Go.WideShapes Go.ChangeAt Go.RowKit
open Go.ChangeMaps (open_string shut_string)
open Go.Proofs.YtfeeaipbmpmpgaaW.PrintWords Go.Proofs.YtfeeaipbmpmpgaaW.PrintLast Go.Proofs.YtfeeaipbmpmpgaaW.PrintMore Go.Proofs.Ytfeeaipbmpmpgaa.PX
set_option linter.unusedVariables false
theorem own : ownKnob Try.prog.godebug = none := by kernel_rfl
theorem laidOut : laidOutB Try.prog = true := by kernel_rfl
set_option maxRecDepth 100000 in
theorem lifted (os : Os) (started : os.Started) (H : Type) (enc : TypeId × Value → H) :
    ReturnsInHanded {} Try.checked os 4 .any (Rows.curveBestSpec.pre6 enc Try.prog Try.f4 Rows.curveBestRow.domain false) (Rows.curveBestSpec.post enc Try.prog Try.f4 false true false false) := by
  refine returnsInHanded_of_change_sized (C := Try.checked) own started (by kernel_rfl) Try.func4
    (ChangeSpec.witness6 (enc := enc) (C := Try.checked) false ⟨#[], #[.slice none 0 0, .int .i64 0, .slice none 0 0], []⟩ 8 (by kernel_rfl) (by kernel_rfl) (by kernel_rfl) (by kernel_rfl)) ?_
  intro W base args ds gs before hval0 hW hcnd hsz0 _
  have hval : ∀ (j : Nat) t v, Try.f4.params[j]? = some t → args[j]? = some v → Value.okWide Try.prog W .any base t v := hval0
  have hW' := hW
  obtain ⟨p, q, hA0, hV, rfl, hfz, hnd⟩ := hW
  have hA : DataW.TrodAll enc Try.prog W 0 (fun _ => true) true Try.f4.params.toList args.toList ds p := hA0
  rw [Try.params4] at hA hval
  obtain ⟨v0, vs0, d0, ds0, p0, q0, hargs, rfl, rfl, h0, r0⟩ := trodAll_cons hA
  obtain ⟨v1, vs1, d1, ds1, p1, q1, rfl, rfl, rfl, h1, r1⟩ := trodAll_cons r0
  obtain ⟨v2, vs2, d2, ds2, p2, q2, rfl, rfl, rfl, h2, r2⟩ := trodAll_cons r1
  obtain ⟨rfl, rfl, rfl⟩ := trodAll_nil r2
  obtain rfl : args = #[v0, v1, v2] := by cases args; simp_all
  obtain ⟨rfl, rfl⟩ := trodVars_none hV
  have k0 := h0
  have lt0 : ∀ x ∈ p0, x.block < W.heap.size := by obtain ⟨m, hm⟩ := k0; exact DataW.trod_lt m _ _ _ hm
  obtain ⟨A0, c0, l0, rfl, e0, C0, J0⟩ := open_curves (hval 0 34 v0 rfl rfl) h0
  obtain ⟨a1, rfl, rfl, rfl, w1⟩ := open_int Try.underlying3 (hval 1 3 v1 rfl rfl) h1
  have k2 := h2
  have lt2 : ∀ x ∈ p2, x.block < W.heap.size := by obtain ⟨m, hm⟩ := k2; exact DataW.trod_lt m _ _ _ hm
  obtain ⟨A2, c2, l2, rfl, e2, C2, J2⟩ := open_ints22 (hval 2 22 v2 rfl rfl) h2
  clear hA0 hval0 hsz0
  obtain ⟨n, hn⟩ := Pure.CurveBest l0 a1 l2 J0 C0.2.1 (i64_of_wf w1) J2 C2.2.1
  refine (kimberlitelaw03_CurveBest.calls n A0 c0 l0 a1 A2 c2 l2 true W C0 e0 C2 e2 hn).mono fun e W' ⟨he, bel⟩ => ?_
  subst he
  exact ⟨_, rfl, _, _, _, [], _, [], hW', trodAll_mk1 (shut_bool Try.underlying4 _), (trodAll_cons_mk (Below.trod laidOut (by kernel_rfl) (of_decide_eq_true (by kernel_rfl)) k0 bel lt0) (trodAll_cons_mk (shut_int Try.underlying3 w1) (trodAll_cons_mk (Below.trod laidOut (by kernel_rfl) (of_decide_eq_true (by kernel_rfl)) k2 bel lt2) trodAll_mk0))), rfl, bel.frame _, fun h => by cases h⟩
theorem over : Rows.curveBestRow.holds Try.pinned (OpenSpec.ofChange Rows.curveBestSpec) :=
  OpenClaim.holds_of_wide 4 Try.f4 rfl rfl rfl rfl rfl rfl rfl ⟨rfl, rfl, rfl, rfl, rfl⟩ rfl rfl rfl rfl rfl (by kernel_rfl) Try.func4 (by kernel_rfl)
    (of_decide_eq_true (by kernel_rfl)) (by unfold Func.isWrapper; first | (rw [if_pos (by decide +kernel)]; kernel_rfl) | (rw [if_neg (by decide +kernel)]; exact ⟨rfl, rfl⟩))
    (fun os started H enc _ => lifted os started H enc)
theorem proved : Rows.CurveBestSaid := over
end Go.Proofs.Ytfeeaipbmpmpgaa.curveBest
namespace Go.Proofs.Ytfeeaipbmpmpgaa
/-- The row, under a short name, for the claim. -/
theorem curveBest_holds : Rows.CurveBestSaid := curveBest.proved
#print axioms curveBest_holds
end Go.Proofs.Ytfeeaipbmpmpgaa

