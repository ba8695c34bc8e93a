/-
  The theorem of fuel: plain arithmetic, and the law's loops.
-/
import Derived.Test.YtlofnkkokcihnaaCarPI
import Derived.Test.YtlofnkkokcihnaaCarTree8
namespace Go.Proofs.Ytlofnkkokcihnaa
open Go.Lite

section
variable {l am : List (List D)} {t r s : Int} {a : List Int} (ha : ∀ j, ix (am.getD j []) 0 = a.getD j 0)
include ha
theorem low_eq : ∀ j, lowAt l am s (j + 1) = cum a j + r - needAt l r s (j + 1)
  | 0 => by simp only [lowAt, cum, needAt, ha]; omega
  | j + 1 => by
    have h1 := low_eq j
    have h2 : lowAt l am s (j + 1 + 1) = lowAt l am s (j + 1) + ix (am.getD (j + 1) []) 0 - mostOf l (j + 1) := rfl
    have h3 : needAt l r s (j + 1 + 1) = needAt l r s (j + 1) + mostOf l (j + 1) := rfl
    have h4 : cum a (j + 1) = cum a j + a.getD (j + 1) 0 := rfl
    rw [ha] at h2
    omega
theorem high_eq : ∀ j, highAt l am s j + ix (am.getD j []) 0 = cum a j + t - capAt l t s j
  | 0 => by simp only [highAt, cum, capAt, ha]; omega
  | j + 1 => by
    have h1 := high_eq j
    have h2 : highAt l am s (j + 1) = highAt l am s j + ix (am.getD j []) 0 - leastOf l j := rfl
    have h3 : capAt l t s (j + 1) = capAt l t s j + leastOf l j := rfl
    have h4 : cum a (j + 1) = cum a j + a.getD (j + 1) 0 := rfl
    rw [ha]
    omega
omit ha in
theorem safe_P (h1 : am.length = l.length) (h2 : allFrom (amOk l am) 0 l.length = true) : ∀ n i, i + n = l.length → safeFrom t r l am i n (lowAt l am s i) (highAt l am s i) = true → ∀ j, i ≤ j → j < l.length → amOk l am j = true ∧ highAt l am s j + ix (am.getD j []) 0 ≤ t ∧ r ≤ lowAt l am s (j + 1)
  | 0, i, hn, _ => fun j h3 h4 => by omega
  | n + 1, i, hn, hs => fun j h3 h4 => by
    simp only [safeFrom] at hs
    split at hs
    · cases hs
    · rename_i c1
      split at hs
      · cases hs
      · rename_i c2
        by_cases hji : j = i
        · subst hji
          exact ⟨allFrom_iff.1 h2 j (Nat.zero_le _) (by omega), by omega, by show r ≤ lowAt l am s j + ix (am.getD j []) 0 - mostOf l j; unfold mostOf; omega⟩
        · exact safe_P h1 h2 n (i + 1) (by omega) hs j (by omega) h4
omit ha in
theorem P_safe (h : SafeP t r s l am) : ∀ n i, i + n = l.length → safeFrom t r l am i n (lowAt l am s i) (highAt l am s i) = true
  | 0, i, _ => rfl
  | n + 1, i, hn => by
    obtain ⟨h1, h2, h3⟩ := h.2 i (by omega)
    have h4 : lowAt l am s (i + 1) = lowAt l am s i + ix (am.getD i []) 0 - ix (l.getD i []) 1 := rfl
    simp only [safeFrom]
    rw [if_neg (by omega), if_neg (by omega)]
    exact P_safe h n (i + 1) (by omega)
theorem P_cum (h : SafeP t r s l am) (j : Nat) (hj : j < l.length) : (0 ≤ a.getD j 0 ∧ a.getD j 0 ≤ fillOf l j) ∧ needAt l r s (j + 1) ≤ cum a j ∧ cum a j ≤ capAt l t s j := by
  obtain ⟨h1, h2, h3⟩ := h.2 j hj
  rw [high_eq (t := t) ha] at h2
  rw [low_eq (r := r) ha] at h3
  unfold amOk at h1
  rw [ha, Lite.within_iff] at h1
  exact ⟨h1, by omega, by omega⟩
theorem cum_P (h0 : am.length = l.length) (h : ∀ j, j < l.length → (0 ≤ a.getD j 0 ∧ a.getD j 0 ≤ fillOf l j) ∧ needAt l r s (j + 1) ≤ cum a j ∧ cum a j ≤ capAt l t s j) : SafeP t r s l am := by
  refine ⟨h0, fun j hj => ?_⟩
  obtain ⟨h1, h2, h3⟩ := h j hj
  refine ⟨?_, by rw [high_eq (t := t) ha]; omega, by rw [low_eq (r := r) ha]; omega⟩
  unfold amOk
  rw [ha, Lite.within_iff]
  exact h1
theorem sumFrom_cum : ∀ n i, sumFrom am (i + 1) n = cum a (i + n) - cum a i
  | 0, i => by simp [sumFrom]
  | n + 1, i => by
    simp only [sumFrom, sumFrom_cum n (i + 1), ha]
    rw [show i + 1 + n = i + (n + 1) by omega]
    have h4 : cum a (i + 1) = cum a i + a.getD (i + 1) 0 := rfl
    omega
theorem sum_cum (n : Nat) : sumFrom am 0 (n + 1) = cum a n := by
  simp only [sumFrom, ha]
  rw [sumFrom_cum ha n 0]
  simp only [cum, Nat.zero_add]
  omega
end
theorem ints_get {l : List (List D)} (j : Nat) : ix (l.getD j []) 0 = (ints l).getD j 0 := by
  unfold ints
  simp only [List.getD_eq_getElem?_getD, List.getElem?_map]
  cases l[j]? <;> rfl
/-- With the program's least fuel, or without any. -/
theorem least_of {t r s : Int} {l o : List (List D)} (h : tankP t r s l) (ho : SafeP t r s l o) : fuelOk t r s l = true ∧ ∀ j, j < l.length → sumAt l r s j ≤ cum (ints o) j := by
  have hc := P_cum (a := ints o) (fun j => ints_get j) ho
  have hS : ∀ j, j < l.length → sumAt l r s j ≤ cum (ints o) j := fun j hj => sum_least ⟨by rw [len_ints]; exact ho.1, fun j hj => (hc j hj).1⟩ (fun j hj => (hc j hj).2.1) (l.length - j) j (by omega) (by omega)
  have hout : ∀ j, j < l.length → outAt l r s j ≤ fillOf l j := fun j hj => by
    cases j with
    | zero =>
      have h1 := hS 0 hj
      have h2 := (hc 0 hj).1
      have h3 : outAt l r s 0 = sumAt l r s 0 := rfl
      have h4 : cum (ints o) 0 = (ints o).getD 0 0 := rfl
      omega
    | succ j => exact (sum_mono h hj).2
  have hP : SafeP t r s l (outs l r s) := cum_P (a := (List.range l.length).map (outAt l r s)) outs_get (len_tabI _ _) fun j hj => by
    rw [cum_outs j hj]
    have e : ((List.range l.length).map (outAt l r s)).getD j 0 = outAt l r s j := by simp [List.getD_eq_getElem?_getD, hj]
    rw [e]
    have := hS j hj
    have := hc j hj
    exact ⟨⟨out_nonneg h hj, hout j hj⟩, need_sum h hj, by omega⟩
  refine ⟨?_, hS⟩
  unfold fuelOk
  rw [show safeFrom t r l (outs l r s) 0 l.length s s = true from P_safe hP l.length 0 (by omega), Bool.and_true, allFrom_iff]
  exact fun j _ hj => decide_eq_true (hout j (by omega))
theorem outs_P {t r s : Int} {l : List (List D)} (h : tankP t r s l) (hf : fuelOk t r s l = true) : SafeP t r s l (outs l r s) := by
  unfold fuelOk at hf
  rw [Bool.and_eq_true] at hf
  have ham : allFrom (amOk l (outs l r s)) 0 l.length = true := allFrom_iff.2 fun j h5 h6 => by
    have hj : j < l.length := by omega
    have := of_decide_eq_true (allFrom_iff.1 hf.1 j h5 h6)
    unfold amOk
    rw [outs_get, Lite.within_iff]
    have e : ((List.range l.length).map (outAt l r s)).getD j 0 = outAt l r s j := by simp [List.getD_eq_getElem?_getD, hj]
    rw [e]
    exact ⟨out_nonneg h hj, this⟩
  exact ⟨len_tabI _ _, fun j hj => safe_P (len_tabI _ _) ham l.length 0 (by omega) hf.2 j (Nat.zero_le _) hj⟩
theorem more_of {r s : Int} {l o : List (List D)} (hS : ∀ j, j < l.length → sumAt l r s j ≤ cum (ints o) j) : ∀ n, n ≤ l.length → (∀ m, n = m + 1 → sumAt l r s m = cum (ints o) m) → moreAt o (outs l r s) n = true
  | 0, _, _ => rfl
  | n + 1, hn, he => by
    have h0 := he n rfl
    have e1 : ix ((outs l r s).getD n []) 0 = outAt l r s n := by
      rw [outs_get]; simp [List.getD_eq_getElem?_getD, show n < l.length by omega]
    have e2 : ix (o.getD n []) 0 = (ints o).getD n 0 := ints_get n
    simp only [moreAt]
    split
    · rename_i c
      refine more_of hS n (by omega) fun m hm => ?_
      subst hm
      have h1 : outAt l r s (m + 1) = sumAt l r s (m + 1) - sumAt l r s m := rfl
      have h2 : cum (ints o) (m + 1) = cum (ints o) m + (ints o).getD (m + 1) 0 := rfl
      omega
    · rename_i c
      refine decide_eq_true ?_
      cases n with
      | zero =>
        have h1 : outAt l r s 0 = sumAt l r s 0 := rfl
        have h2 : cum (ints o) 0 = (ints o).getD 0 0 := rfl
        omega
      | succ m =>
        have h1 : outAt l r s (m + 1) = sumAt l r s (m + 1) - sumAt l r s m := rfl
        have h2 : cum (ints o) (m + 1) = cum (ints o) m + (ints o).getD (m + 1) 0 := rfl
        have h3 := hS m (by omega)
        omega

theorem mix_rng {a b c : Int} (h : a ≤ b) : a ≤ (if (if c > a then c else a) < b then (if c > a then c else a) else b) ∧ (if (if c > a then c else a) < b then (if c > a then c else a) else b) ≤ b := by
  split <;> split at * <;> omega
theorem ok8_11 (n : Nat) (hA : AllOK C n sp8) : LoopSim C n 8 (loopOf C.P 8 11) (mkL l8_11 G8_11) := by
  refine loop_of hC (sp := sp8) (lp := lp8) hA [] (by kernel_rfl) rfl (fun k hk => by cases hk) (by kernel_rfl) (fun ds => (((ds.getD 2 default).L.length : Int) - (ds.getD 8 default).I).toNat) fun ds rr h => ?_
  unfold G8_11 at h
  split at h
  · rename_i t r l o mix is m v i row
    obtain ⟨hp, h⟩ := need_some h
    rw [yes_iff] at hp
    obtain ⟨s, h1, h2, h3, h4, h5, h6, h7⟩ := hp
    obtain ⟨t1, t2, t3, t4, t5⟩ := tank_of h1
    refine ⟨by rw [fuelC]; simp; omega, ?_⟩
    rw [show roundT C (mkTab sp8 lp8) 8 (loopOf C.P 8 11) l8_11 [t, r, l, o, mix, is, m, v, i, row] = _ from t8_11 t r l o mix is m v i row]
    obtain ⟨x, hx⟩ : ∃ x : Nat, i.I = x := ⟨i.I.toNat, by omega⟩
    have h3' := h3.1
    simp only [hx, ← h2, Int.toNat_natCast, ix_def, Nat.zero_add] at h h6 h7 ⊢
    refine rd_if (fun hlt => ?_) fun hge => rd_out h
    have hxl : x < l.L.length := by omega
    obtain ⟨s1, s2, s3⟩ := h3.2 x hxl
    have b2 := t5 x hxl
    unfold amOk at s1
    rw [Lite.within_iff] at s1
    have e1 : leastOf l.L x = ix (l.L.getD x []) 0 := rfl
    have e2 : mostOf l.L x = ix (l.L.getD x []) 1 := rfl
    have e3 : fillOf l.L x = ix (l.L.getD x []) 2 := rfl
    have e4 : lowAt l.L row.L s (x + 1) = lowAt l.L row.L s x + ix (row.L.getD x []) 0 - mostOf l.L x := rfl
    have e5 : highAt l.L row.L s (x + 1) = highAt l.L row.L s x + ix (row.L.getD x []) 0 - leastOf l.L x := rfl
    have hv0 : 0 ≤ v.I := by
      cases x with
      | zero => have : lowAt l.L row.L s 0 = s := rfl; omega
      | succ y => have := (h3.2 y (by omega)).2.2; omega
    have w1 : IntKind.i64.wrap (v.I + ix (row.L.getD x []) 0) = v.I + ix (row.L.getD x []) 0 := wrap_id (by omega) (by omega)
    rw [w1]
    have again : ∀ tk : Int, leastOf l.L x ≤ tk → tk ≤ mostOf l.L x → RdOK G8_11 (fun ds => (((ds.getD 2 default).L.length : Int) - (ds.getD 8 default).I).toNat) [t, r, l, o, mix, is, m, v, i, row] rr
        (T.ite (decide (IntKind.i64.wrap (v.I + ix (row.L.getD x []) 0 - tk) < r.I)) (T.leaf (Rd.out Ex.ret [D.b false])) (T.leaf (Rd.again [.i t.I, .i r.I, .l l.L, .l o.L, .l mix.L, .b is.B, .i row.L.length, .i (IntKind.i64.wrap (v.I + ix (row.L.getD x []) 0 - tk)), .i (IntKind.i64.wrap ((x : Int) + 1)), .l row.L]))).run := by
      intro tk hk1 hk2
      have w2 : IntKind.i64.wrap (v.I + ix (row.L.getD x []) 0 - tk) = v.I + ix (row.L.getD x []) 0 - tk := wrap_id (by omega) (by omega)
      rw [w2, wrap_succ (by omega)]
      refine rd_neg (by omega) (rd_again ?_ ?_)
      · refine (need_yes ⟨s, h1, rfl, h3, by simp only [I_i]; omega, by simp only [I_i, L_l]; omega, ?_, ?_⟩).trans h
        · show lowAt l.L row.L s (x + 1) ≤ _
          simp only [I_i]; omega
        · show _ ≤ highAt l.L row.L s (x + 1)
          simp only [I_i]; omega
      · show ((l.L.length : Int) - ((x + 1 : Nat) : Int)).toNat < ((l.L.length : Int) - i.I).toNat
        omega
    refine rd_dec ⟨by omega, by omega⟩ (rd_dec (by omega) (rd_neg (by omega) (rd_dec ⟨by omega, by omega⟩ (rd_if (fun c => ?_) fun c => ?_))))
    · refine rd_dec ⟨by omega, by omega⟩ (rd_dec ⟨by omega, by omega⟩ (rd_dec ⟨by omega, by omega⟩ ?_))
      have := @mix_rng (ix (l.L.getD x []) 0) (ix (l.L.getD x []) 1) (ix (mix.L.getD x []) 0) (by omega)
      exact again _ this.1 this.2
    · exact again _ (by omega) (by omega)
  · cases h
theorem ok8_27 (n : Nat) (hA : AllOK C n sp8) : LoopSim C n 8 (loopOf C.P 8 27) (mkL l8_27 G8_27) := by
  refine loop_of hC (sp := sp8) (lp := lp8) hA [] (by kernel_rfl) rfl (fun k hk => by cases hk) (by kernel_rfl) (fun ds => ((ds.getD 2 default).I + 2).toNat) fun ds rr h => ?_
  unfold G8_27 at h
  split at h
  · rename_i o m i row
    obtain ⟨hp, h⟩ := need_some h
    rw [yes_iff] at hp
    obtain ⟨h1, h2, h3, h4, h5⟩ := hp
    have hb : big = 4611686018427387904 := rfl
    refine ⟨by rw [fuelC]; simp; omega, ?_⟩
    rw [show roundT C (mkTab sp8 lp8) 8 (loopOf C.P 8 27) l8_27 [o, m, i, row] = _ from t8_27 o m i row]
    simp only [h1, Int.toNat_natCast, ix_def] at h ⊢
    refine rd_if (fun hge => ?_) fun hge => ?_
    · obtain ⟨x, hx⟩ : ∃ x : Nat, i.I = x := ⟨i.I.toNat, by omega⟩
      rw [hx, show ((x : Int) + 1).toNat = x + 1 by omega] at h
      simp only [hx, Int.toNat_natCast]
      have e0 : allFrom (sameAt row.L o.L) 0 (x + 1) = (allFrom (sameAt row.L o.L) 0 x && sameAt row.L o.L x) := by
        rw [Bool.eq_iff_iff, Bool.and_eq_true, allFrom_iff, allFrom_iff]
        refine ⟨fun hh => ⟨fun j a b => hh j a (by omega), hh x (Nat.zero_le _) (by omega)⟩, fun hh j a b => ?_⟩
        by_cases hj : j = x
        · subst hj; exact hh.2
        · exact hh.1 j a (by omega)
      rw [e0] at h
      refine rd_dec ⟨by omega, by omega⟩ (rd_dec (by omega) (rd_dec ⟨by omega, by omega⟩ (rd_ite (fun c => ?_) fun c => ?_)))
      · have c' : ix (row.L.getD x []) 0 ≠ ix (o.L.getD x []) 0 := by simpa using c
        have c2 : sameAt row.L o.L x = false := by unfold sameAt; simpa using c'
        simp only [c2, Bool.and_false, run_ite, Bool.false_eq_true, if_false, run_leaf, moreAt, if_neg c'] at h
        refine rd_dec ⟨by omega, by omega⟩ (rd_dec (by omega) (rd_dec ⟨by omega, by omega⟩ (rd_if (fun d => ?_) fun d => ?_)))
        · rw [decide_eq_true d] at h; exact rd_out h
        · rw [decide_eq_false d] at h; exact rd_out h
      · have c' : ix (row.L.getD x []) 0 = ix (o.L.getD x []) 0 := by simpa using c
        have c2 : sameAt row.L o.L x = true := by unfold sameAt; simpa using c'
        simp only [c2, Bool.and_true, moreAt, if_pos c'] at h
        have w : IntKind.i64.wrap ((x : Int) - 1) = (x : Int) - 1 := wrap_id (by omega) (by omega)
        rw [w]
        refine rd_again ?_ ?_
        · refine (need_yes ⟨rfl, h2, h3, by simp only [I_i]; omega, by simp only [I_i, L_l]; omega⟩).trans ?_
          simp only [I_i, L_l]
          rw [show ((x : Int) - 1 + 1).toNat = x by omega]
          exact h
        · show ((x : Int) - 1 + 2).toNat < (i.I + 2).toNat
          omega
    · rw [show (i.I + 1).toNat = 0 by omega] at h
      exact rd_out h
  · cases h
end Go.Proofs.Ytlofnkkokcihnaa
