/-
  The program's least fuel computes what its words say.
-/
import Derived.Test.YtlofnkkokcihnaaCarPS
import Derived.Test.YtlofnkkokcihnaaCarTreeF
import Derived.Test.YtlofnkkokcihnaaSymGo
namespace Go.Proofs.Ytlofnkkokcihnaa
open Go.Lite

/-! ### Rows of integers -/
theorem len_tabI (n : Nat) (f : Nat → Int) : (tabI n f).length = n := by simp [tabI, mkI]
theorem tabI_congr {n : Nat} {f g : Nat → Int} (h : ∀ j, j < n → f j = g j) : tabI n f = tabI n g := by
  unfold tabI
  congr 1
  exact List.map_congr_left fun j hj => h j (List.mem_range.1 hj)
theorem tabI_get {n : Nat} {f : Nat → Int} {j : Nat} (h : j < n) : (tabI n f).getD j [] = [.i (f j)] := by
  simp [tabI, mkI, List.getD_eq_getElem?_getD, h]
theorem tabI_set {n : Nat} {f : Nat → Int} {i : Nat} {v : Int} : (tabI n f).set i [.i v] = tabI n fun j => if j = i then v else f j := by
  apply List.ext_getElem?
  intro j
  simp only [tabI, mkI, List.map_map, List.getElem?_set, List.getElem?_map, List.length_map, List.length_range]
  by_cases hij : i = j
  · subst hij
    by_cases hi : i < n
    · simp [hi]
    · simp [hi]
  · by_cases hj : j < n
    · simp [hj, hij, show ¬ j = i from fun h => hij h.symm]
    · simp [hj, hij]
theorem tabI_zero (n : Nat) : List.replicate n [D.i 0] = tabI n fun _ => 0 := by
  simp [tabI, mkI, List.map_const']

/-! ### Bounds -/
theorem tank_of {t r s : Int} {l : List (List D)} (h : tankP t r s l) : (1 ≤ t ∧ t ≤ 1000000) ∧ (0 ≤ r ∧ r ≤ t) ∧ (0 ≤ s ∧ s ≤ t) ∧ l.length ≤ 50 ∧ ∀ j, j < l.length → (0 ≤ leastOf l j ∧ leastOf l j ≤ mostOf l j) ∧ mostOf l j ≤ 1000000 ∧ (0 ≤ fillOf l j ∧ fillOf l j ≤ 1000000) := by
  simp only [tankP, tankOk, Bool.and_eq_true, Lite.within_iff, decide_eq_true_eq, allFrom_iff, legAt, legOk, legP] at h
  obtain ⟨⟨⟨⟨h1, h2⟩, h3⟩, h4⟩, h5⟩ := h
  refine ⟨h1, h2, h3, h4, fun j hj => ?_⟩
  have := h5 j (Nat.zero_le _) (by omega)
  exact ⟨this.1.1, this.1.2, this.2⟩
section
variable {t r s : Int} {l : List (List D)} (h : tankP t r s l)
include h
theorem need_rng : ∀ j, j ≤ l.length → -1000000 ≤ needAt l r s j ∧ needAt l r s j ≤ 1000000 * (j + 1)
  | 0, _ => by
    obtain ⟨h1, h2, h3, h4, h5⟩ := tank_of h
    simp only [needAt]; omega
  | j + 1, hj => by
    obtain ⟨h1, h2, h3, h4, h5⟩ := tank_of h
    have := need_rng j (by omega)
    have := h5 j (by omega)
    simp only [needAt]; omega
theorem up_rng : ∀ j, j ≤ l.length → 0 ≤ upAt l r s j ∧ upAt l r s j ≤ 1000000 * (j + 1)
  | 0, _ => by simp only [upAt]; omega
  | j + 1, hj => by
    have h1 := up_rng j (by omega)
    have h2 := need_rng h (j + 1) hj
    simp only [upAt]; omega
omit h in
theorem up_mono {j : Nat} : upAt l r s j ≤ upAt l r s (j + 1) := by simp only [upAt]; omega
theorem down_rng : ∀ k j, j + k < l.length → upAt l r s (j + 1) ≤ downAt l r s k j ∧ downAt l r s k j ≤ 1000000 * 51
  | 0, j, hj => by
    have h1 := up_rng h (j + 1) (by omega)
    have h2 := (tank_of h).2.2.2.1
    simp only [downAt]; omega
  | k + 1, j, hj => by
    have h1 := up_rng h (j + 1) (by omega)
    have h2 := (tank_of h).2.2.2.1
    have h3 := down_rng k (j + 1) (by omega)
    have h4 := ((tank_of h).2.2.2.2 (j + 1) (by omega)).2.2
    simp only [downAt]; omega
theorem sum_rng {j : Nat} (hj : j < l.length) : upAt l r s (j + 1) ≤ sumAt l r s j ∧ 0 ≤ sumAt l r s j ∧ sumAt l r s j ≤ 51000000 := by
  have h1 := down_rng h (l.length - 1 - j) j (by omega)
  have h2 := up_rng h (j + 1) (by omega)
  unfold sumAt
  omega
omit h in
theorem sum_step {j : Nat} (hj : j + 1 < l.length) : sumAt l r s j = max (upAt l r s (j + 1)) (sumAt l r s (j + 1) - fillOf l (j + 1)) := by
  unfold sumAt
  rw [show l.length - 1 - j = (l.length - 1 - (j + 1)) + 1 by omega]
  rfl
theorem sum_mono {j : Nat} (hj : j + 1 < l.length) : sumAt l r s j ≤ sumAt l r s (j + 1) ∧ sumAt l r s (j + 1) - sumAt l r s j ≤ fillOf l (j + 1) := by
  have h1 := sum_step (r := r) (s := s) hj
  have h2 := (sum_rng h hj).1
  have h3 := up_mono (l := l) (r := r) (s := s) (j := j + 1)
  have h4 := ((tank_of h).2.2.2.2 (j + 1) hj).2.2
  omega
end
set_option maxRecDepth 100000 in
theorem bytes3 : (Try.prog.types[3].bytes : Int) = 8 := by kernel_rfl
theorem max_if (a b : Int) : (if b > a then b else a) = max a b := by
  rw [Int.max_def]
  by_cases h : b > a
  · rw [if_pos h, if_pos (by omega)]
  · rw [if_neg h]
    by_cases h2 : a ≤ b
    · rw [if_pos h2]; omega
    · rw [if_neg h2]

theorem ok25_8 (n : Nat) : LoopSim C (n + 5) 25 (loopOf C.P 25 8) (mkL l25_8 G25_8) := by
  refine loop_of hC (sp := sp25) (lp := lp25) ⟨ok58 n, ok59 (n + 4), trivial⟩ [] (by kernel_rfl) rfl (fun k hk => by cases hk) (by kernel_rfl) (fun ds => ((ds.getD 9 default).I - (ds.getD 10 default).I).toNat) fun ds rr h => ?_
  unfold G25_8 at h
  split at h
  · rename_i t r s l m m' need most l' n' i row
    obtain ⟨hp, h⟩ := need_some h
    rw [yes_iff] at hp
    obtain ⟨h1, h2, h3, h4, h5, h6, h7, h8, h9, h10⟩ := hp
    have hlen := (tank_of h1).2.2.2.1
    refine ⟨by rw [fuelC]; simp; omega, ?_⟩
    rw [show roundT C (mkTab sp25 lp25) 25 (loopOf C.P 25 8) l25_8 [t, r, s, l, m, m', need, most, l', n', i, row] = _ from t25_8 t r s l m m' need most l' n' i row]
    obtain ⟨k, hk⟩ : ∃ k : Nat, i.I = k := ⟨i.I.toNat, by omega⟩
    simp only [hk, h2, h3, h4, h5, h8, h9, h10, Int.toNat_natCast, upd1, ix_def, Nat.zero_add] at h ⊢
    refine rd_if (fun hlt => ?_) fun hlt => ?_
    · have hkl : k < l.L.length := by omega
      have hn := need_rng h1 k (by omega)
      have hn' := need_rng h1 (k + 1) (by omega)
      have e1 : needAt l.L r.I s.I (k + 1) = needAt l.L r.I s.I k + ix (l.L.getD k []) 1 := rfl
      refine rd_dec ⟨by omega, by omega⟩ (rd_dec ⟨by omega, by omega⟩ (rd_dec (by simp only [upTo, len_tabI]; omega) (rd_again ?_ ?_)))
      · have w1 : IntKind.i64.wrap (needAt l.L r.I s.I k + ix (l.L.getD k []) 1) = needAt l.L r.I s.I (k + 1) := by rw [e1]; exact wrap_id (by omega) (by omega)
        rw [w1, max_if, wrap_succ (by omega)]
        refine (need_yes ⟨h1, rfl, rfl, rfl, rfl, by simp only [I_i]; omega, by simp only [I_i, L_l]; omega, rfl, rfl, ?_⟩).trans h
        simp only [L_l, I_i, Int.toNat_natCast, upTo, tabI_set]
        refine tabI_congr fun j hj => ?_
        by_cases hjk : j = k
        · subst hjk; simp [upAt]
        · rw [if_neg hjk]
          by_cases hlt2 : j < k
          · rw [if_pos hlt2]; exact (if_pos (show j < k + 1 by omega)).symm
          · rw [if_neg hlt2]; exact (if_neg (show ¬ j < k + 1 by omega)).symm
      · show ((l.L.length : Int) - ((IntKind.i64.wrap ((k : Int) + 1)))).toNat < (n'.I - i.I).toNat
        rw [wrap_succ (by omega)]
        omega
    · have hkl : k = l.L.length := by omega
      subst hkl
      exact rd_out h
  · cases h
theorem ok25_15 (n : Nat) : LoopSim C (n + 5) 25 (loopOf C.P 25 15) (mkL l25_15 G25_15) := by
  refine loop_of hC (sp := sp25) (lp := lp25) ⟨ok58 n, ok59 (n + 4), trivial⟩ [] (by kernel_rfl) rfl (fun k hk => by cases hk) (by kernel_rfl) (fun ds => ((ds.getD 6 default).I + 3).toNat) fun ds rr h => ?_
  unfold G25_15 at h
  split at h
  · rename_i t r s l m m' i row
    obtain ⟨hp, h⟩ := need_some h
    rw [yes_iff] at hp
    obtain ⟨h1, h2, h3, h4, h5, h6⟩ := hp
    have hlen := (tank_of h1).2.2.2.1
    refine ⟨by rw [fuelC]; simp; omega, ?_⟩
    rw [show roundT C (mkTab sp25 lp25) 25 (loopOf C.P 25 15) l25_15 [t, r, s, l, m, m', i, row] = _ from t25_15 t r s l m m' i row]
    simp only [h2, h3, h6, Int.toNat_natCast, upd1, ix_def, Nat.zero_add, Nat.reduceAdd] at h ⊢
    have e0 : (downTo l.L r.I s.I i.I).length = l.L.length := len_tabI _ _
    refine rd_if (fun hge => ?_) fun hge => ?_
    · obtain ⟨k, hk⟩ : ∃ k : Nat, i.I = k := ⟨i.I.toNat, by omega⟩
      have hkl : k + 1 < l.L.length := by omega
      have w1 : IntKind.i64.wrap ((k : Int) + 1) = ((k + 1 : Nat) : Int) := wrap_succ (by omega)
      have w2 : IntKind.i64.wrap ((k : Int) - 1) = (k : Int) - 1 := wrap_id (by omega) (by omega)
      rw [hk] at e0 ⊢
      rw [w1, w2]
      simp only [Int.toNat_natCast]
      have g1 : ix ((downTo l.L r.I s.I k).getD (k + 1) []) 0 = sumAt l.L r.I s.I (k + 1) := by
        unfold downTo
        rw [tabI_get hkl]
        show (if (k : Int) < ((k + 1 : Nat) : Int) then _ else _) = _
        rw [if_pos (by omega)]
      have g2 : ix ((downTo l.L r.I s.I k).getD k []) 0 = upAt l.L r.I s.I (k + 1) := by
        unfold downTo
        rw [tabI_get (by omega)]
        show (if (k : Int) < (k : Int) then _ else _) = _
        rw [if_neg (by omega)]
      have hs1 := sum_rng h1 hkl
      have hf := ((tank_of h1).2.2.2.2 (k + 1) hkl).2.2
      have e1 := sum_step (r := r.I) (s := s.I) hkl
      have e2 : fillOf l.L (k + 1) = ix (l.L.getD (k + 1) []) 2 := rfl
      have w3 : IntKind.i64.wrap (sumAt l.L r.I s.I (k + 1) - ix (l.L.getD (k + 1) []) 2) = sumAt l.L r.I s.I (k + 1) - fillOf l.L (k + 1) := wrap_id (by show _ ≤ _ - fillOf l.L (k + 1); omega) (by show _ - fillOf l.L (k + 1) < _; omega)
      simp only [g1, g2, w3, max_if, ← e1]
      refine rd_dec ⟨by omega, by omega⟩ (rd_dec (by omega) (rd_dec ⟨by omega, by omega⟩ (rd_dec (by omega) (rd_dec ⟨by omega, by omega⟩ (rd_dec ⟨by omega, by omega⟩ (rd_dec (by omega) (rd_again ?_ ?_)))))))
      · refine (need_yes ⟨h1, rfl, rfl, by simp only [I_i]; omega, by simp only [I_i, L_l]; omega, ?_⟩).trans h
        simp only [L_l, I_i, downTo, tabI_set]
        refine tabI_congr fun j hj => ?_
        by_cases hjk : j = k
        · subst hjk
          rw [if_pos rfl]; exact (if_pos (show (j : Int) - 1 < (j : Int) by omega)).symm
        · rw [if_neg hjk]
          by_cases hlt2 : (k : Int) < (j : Int)
          · rw [if_pos hlt2]; exact (if_pos (show (k : Int) - 1 < (j : Int) by omega)).symm
          · rw [if_neg hlt2]; exact (if_neg (show ¬ (k : Int) - 1 < (j : Int) by omega)).symm
      · show (((k : Int) - 1) + 3).toNat < (i.I + 3).toNat
        omega
    · refine rd_out ?_
      rw [← h]
      simp only [run_leaf]
      congr 5
      unfold downTo sums
      simp only [List.cons.injEq, D.l.injEq, and_true, true_and]
      refine tabI_congr fun j hj => ?_
      rw [if_pos (by omega)]
  · cases h
theorem out_of {l : List (List D)} {r s : Int} {k : Nat} (hk : k < l.length) : sumAt l r s k - beforeAt l r s k = outAt l r s k := by
  cases k with
  | zero => simp [beforeAt, outAt]
  | succ k => simp [beforeAt, outAt]
theorem before_rng {t r s : Int} {l : List (List D)} (h : tankP t r s l) {k : Nat} (hk : k ≤ l.length) : 0 ≤ beforeAt l r s k ∧ beforeAt l r s k ≤ 51000000 := by
  cases k with
  | zero => simp [beforeAt]
  | succ k =>
    have := sum_rng h (j := k) (by omega)
    simp only [beforeAt]; omega
theorem ok25_21 (n : Nat) : LoopSim C (n + 5) 25 (loopOf C.P 25 21) (mkL l25_21 G25_21) := by
  refine loop_of hC (sp := sp25) (lp := lp25) ⟨ok58 n, ok59 (n + 4), trivial⟩ [] (by kernel_rfl) rfl (fun k hk => by cases hk) (by kernel_rfl) (fun ds => ((ds.getD 7 default).I - (ds.getD 8 default).I).toNat) fun ds rr h => ?_
  unfold G25_21 at h
  split at h
  · rename_i t r s l m b m' n' i row row'
    obtain ⟨hp, h⟩ := need_some h
    rw [yes_iff] at hp
    obtain ⟨h1, h2, h3, h4, h5, h6, h7, h8, h9⟩ := hp
    have hlen := (tank_of h1).2.2.2.1
    refine ⟨by rw [fuelC]; simp; omega, ?_⟩
    rw [show roundT C (mkTab sp25 lp25) 25 (loopOf C.P 25 21) l25_21 [t, r, s, l, m, b, m', n', i, row, row'] = _ from t25_21 t r s l m b m' n' i row row']
    obtain ⟨k, hk⟩ : ∃ k : Nat, i.I = k := ⟨i.I.toNat, by omega⟩
    simp only [hk, h2, h3, h4, h7, h8, h9, Int.toNat_natCast, upd1, ix_def, Nat.zero_add, Nat.reduceAdd] at h ⊢
    have e0 : (outTo l.L r.I s.I k).length = l.L.length := len_tabI _ _
    have e3 : (sums l.L r.I s.I).length = l.L.length := len_tabI _ _
    refine rd_if (fun hlt => ?_) fun hlt => ?_
    · have hkl : k < l.L.length := by omega
      have g1 : ix ((sums l.L r.I s.I).getD k []) 0 = sumAt l.L r.I s.I k := by
        unfold sums
        rw [tabI_get hkl]; rfl
      have hs1 := sum_rng h1 hkl
      have hb := before_rng h1 (k := k) (by omega)
      have w1 : IntKind.i64.wrap (sumAt l.L r.I s.I k - beforeAt l.L r.I s.I k) = outAt l.L r.I s.I k := by rw [← out_of hkl]; exact wrap_id (by omega) (by omega)
      simp only [g1, w1]
      have e4 : (outTo l.L r.I s.I k).set k [.i (outAt l.L r.I s.I k)] = outTo l.L r.I s.I (k + 1) := by
        unfold outTo
        rw [tabI_set]
        refine tabI_congr fun j hj => ?_
        by_cases hjk : j = k
        · subst hjk; simp
        · rw [if_neg hjk]
          by_cases hlt2 : j < k
          · rw [if_pos hlt2, if_pos (show j < k + 1 by omega)]
          · rw [if_neg hlt2, if_neg (show ¬ j < k + 1 by omega)]
      have e5 : (outTo l.L r.I s.I (k + 1)).length = l.L.length := len_tabI _ _
      have g2 : ix ((outTo l.L r.I s.I (k + 1)).getD k []) 0 = outAt l.L r.I s.I k := by
        unfold outTo
        rw [tabI_get hkl]
        show (if k < k + 1 then _ else _) = _
        rw [if_pos (by omega)]
      rw [e4, g2]
      have e6 : l.L.length - k = (l.L.length - (k + 1)) + 1 := by omega
      rw [e6] at h
      simp only [allFrom] at h
      refine rd_dec ⟨by omega, by omega⟩ (rd_dec (by omega) (rd_dec ⟨by omega, by omega⟩ (rd_dec (by omega) (rd_dec ⟨by omega, by omega⟩ (rd_dec (by omega) (rd_dec ⟨by omega, by omega⟩ (rd_if (fun hc => ?_) fun hc => ?_)))))))
      · have : outOk l.L r.I s.I k = false := by
          unfold outOk
          exact decide_eq_false (by show ¬ _ ≤ ix (l.L.getD k []) 2; omega)
        rw [this, Bool.false_and] at h
        exact rd_out h
      · have : outOk l.L r.I s.I k = true := by
          unfold outOk
          exact decide_eq_true (by show _ ≤ ix (l.L.getD k []) 2; omega)
        rw [this, Bool.true_and] at h
        refine rd_again ?_ ?_
        · rw [wrap_succ (by omega)]
          exact (need_yes ⟨h1, rfl, rfl, rfl, by simp only [I_i]; omega, by simp only [I_i, L_l]; omega, rfl, rfl, rfl⟩).trans h
        · show ((l.L.length : Int) - ((IntKind.i64.wrap ((k : Int) + 1)))).toNat < (n'.I - i.I).toNat
          rw [wrap_succ (by omega)]
          omega
    · have hkl : k = l.L.length := by omega
      refine rd_out ?_
      rw [← h]
      subst hkl
      simp only [Nat.sub_self, allFrom, run_ite, run_leaf, if_true]
      congr 5
      simp only [List.cons.injEq, D.l.injEq, and_true, true_and]
      unfold outTo outs
      refine tabI_congr fun j hj => ?_
      rw [if_pos hj]
  · cases h
end Go.Proofs.Ytlofnkkokcihnaa
