/-
  The document's search finds the program's least fuel: plain arithmetic.
-/
import Derived.Test.YtlofnkkokcihnaaCarPH
namespace Go.Proofs.Ytlofnkkokcihnaa
open Go.Lite

def cum (A : List Int) : Nat → Int
  | 0 => A.getD 0 0
  | j + 1 => cum A j + A.getD (j + 1) 0
/-- How much can be filled in up to a zone, for the tank. -/
def capAt (l : List (List D)) (t s : Int) : Nat → Int
  | 0 => t - s
  | j + 1 => capAt l t s j + leastOf l j
theorem getD_set {A : List Int} {k : Nat} {v : Int} (hk : k < A.length) (j : Nat) : (A.set k v).getD j 0 = if j = k then v else A.getD j 0 := by
  simp only [List.getD_eq_getElem?_getD, List.getElem?_set]
  by_cases h : k = j
  · subst h; simp [hk]
  · rw [if_neg h, if_neg (fun e => h e.symm)]
theorem cum_set {A : List Int} {k : Nat} {v : Int} (hk : k < A.length) : ∀ j, cum (A.set k v) j = cum A j + if k ≤ j then v - A.getD k 0 else 0
  | 0 => by
    simp only [cum, getD_set hk]
    by_cases h : k = 0
    · subst h; simp; omega
    · rw [if_neg (fun e => h e.symm), if_neg (by omega)]; omega
  | j + 1 => by
    simp only [cum, getD_set hk, cum_set hk j]
    by_cases h : j + 1 = k
    · subst h; simp; omega
    · by_cases h2 : k ≤ j
      · rw [if_pos h2, if_neg h, if_pos (by omega)]; omega
      · rw [if_neg h2, if_neg h, if_neg (by omega)]; omega
theorem low_cum {l : List (List D)} {A : List Int} {r s : Int} : ∀ n k w, lowFrom l A (k + 1) n w = w + cum A (k + n) - cum A k - (needAt l r s (k + n + 1) - needAt l r s (k + 1))
  | 0, k, w => by simp only [lowFrom, Nat.add_zero]; omega
  | n + 1, k, w => by
    simp only [lowFrom]
    rw [low_cum (r := r) (s := s) n (k + 1)]
    rw [show k + 1 + n = k + (n + 1) by omega]
    have e1 : cum A (k + 1) = cum A k + A.getD (k + 1) 0 := rfl
    have e2 : needAt l r s (k + 1 + 1) = needAt l r s (k + 1) + mostOf l (k + 1) := rfl
    omega
theorem low_all {l : List (List D)} {A : List Int} {r s : Int} (i : Nat) : lowFrom l A 0 (i + 1) s = cum A i + r - needAt l r s (i + 1) := by
  simp only [lowFrom]
  rw [low_cum (r := r) (s := s) i 0]
  simp only [cum, needAt, Nat.zero_add]
  omega
/-- The room for more: not more than there is anywhere, and as much as there is somewhere. -/
theorem room_of {l : List (List D)} {A : List Int} {t s : Int} {k i : Nat} : ∀ (n j : Nat) (room high : Int), high = s + cum A j - A.getD j 0 - (capAt l t s j - (t - s)) →
    (∀ m, j ≤ m → m < j + n → k ≤ m → m ≤ i → roomFrom l A t k i j n room high ≤ capAt l t s m - cum A m) ∧
    (roomFrom l A t k i j n room high = room ∨ ∃ m, j ≤ m ∧ m < j + n ∧ k ≤ m ∧ m ≤ i ∧ roomFrom l A t k i j n room high = capAt l t s m - cum A m)
  | 0, j, room, high, _ => ⟨fun m h1 h2 => by omega, .inl rfl⟩
  | n + 1, j, room, high, hh => by
    simp only [roomFrom]
    have ih := room_of (l := l) (A := A) (t := t) (s := s) (k := k) (i := i) n (j + 1) (if k ≤ j ∧ j ≤ i then min room (t - (high + A.getD j 0)) else room) (high + A.getD j 0 - leastOf l j) (by simp only [cum, capAt]; omega)
    have hle := room_le (l := l) (A := A) (t := t) (k := k) (i := i) n (j + 1) (if k ≤ j ∧ j ≤ i then min room (t - (high + A.getD j 0)) else room) (high + A.getD j 0 - leastOf l j)
    generalize roomFrom l A t k i (j + 1) n (if k ≤ j ∧ j ≤ i then min room (t - (high + A.getD j 0)) else room) (high + A.getD j 0 - leastOf l j) = x at *
    refine ⟨fun m h1 h2 h3 h4 => ?_, ?_⟩
    · by_cases hm : m = j
      · subst hm
        rw [if_pos ⟨h3, h4⟩] at hle
        omega
      · exact ih.1 m (by omega) (by omega) h3 h4
    · rcases ih.2 with h | ⟨m, h1, h2, h3, h4, h5⟩
      · by_cases hc : k ≤ j ∧ j ≤ i
        · rw [if_pos hc] at h
          by_cases hr : room ≤ t - (high + A.getD j 0)
          · left; omega
          · right; exact ⟨j, by omega, by omega, hc.1, hc.2, by omega⟩
        · rw [if_neg hc] at h
          exact .inl h
      · exact .inr ⟨m, by omega, by omega, h3, h4, h5⟩
theorem roomAt_of {l : List (List D)} {A : List Int} {t s : Int} {k i : Nat} (hi : i < l.length) :
    (∀ m, k ≤ m → m ≤ i → roomAt l A t s k i ≤ capAt l t s m - cum A m) ∧ (roomAt l A t s k i = fillOf l k - A.getD k 0 ∨ ∃ m, k ≤ m ∧ m ≤ i ∧ roomAt l A t s k i = capAt l t s m - cum A m) := by
  have := room_of (l := l) (A := A) (t := t) (s := s) (k := k) (i := i) l.length 0 (fillOf l k - A.getD k 0) s (by simp only [cum, capAt]; omega)
  refine ⟨fun m h1 h2 => this.1 m (by omega) (by omega) h1 h2, this.2.imp_right ?_⟩
  rintro ⟨m, _, _, h3, h4, h5⟩
  exact ⟨m, h3, h4, h5⟩
/-- Full zones. -/
def Full (l : List (List D)) (A : List Int) (k i : Nat) : Prop := ∀ m, k ≤ m → m ≤ i → A.getD m 0 = fillOf l m
theorem full_le {l : List (List D)} {A : List Int} {S : Nat → Int} {j : Nat} : ∀ n, Full l A (j + 1) (j + n) → (∀ m, m < j + n → S (m + 1) - S m ≤ fillOf l (m + 1)) → S (j + n) - S j ≤ cum A (j + n) - cum A j
  | 0, _, _ => by simp
  | n + 1, hf, hS => by
    have h1 := full_le n (fun m a b => hf m a (by omega)) (fun m a => hS m (by omega))
    have h2 := hf (j + n + 1) (by omega) (by omega)
    have h3 := hS (j + n) (by omega)
    rw [show j + (n + 1) = j + n + 1 by omega]
    simp only [cum]
    omega
theorem full_le' {l : List (List D)} {A : List Int} {S : Nat → Int} {j i : Nat} (hji : j ≤ i) (hf : Full l A (j + 1) i) (hS : ∀ m, m < i → S (m + 1) - S m ≤ fillOf l (m + 1)) : S i - S j ≤ cum A i - cum A j := by
  obtain ⟨n, rfl⟩ : ∃ n, i = j + n := ⟨i - j, by omega⟩
  exact full_le n hf hS

structure Inv (l : List (List D)) (t r s : Int) (i : Nat) (A : List Int) : Prop where
  am : amts l A
  zero : ∀ j, i < j → A.getD j 0 = 0
  cap : ∀ j, j < l.length → cum A j ≤ capAt l t s j
  sum : ∀ j, j < l.length → cum A j ≤ sumAt l r s j
def Sat (l : List (List D)) (t s : Int) (i k : Nat) (A : List Int) : Prop := Full l A k i ∨ ∃ j, j ≤ i ∧ capAt l t s j ≤ cum A j ∧ Full l A (j + 1) i
theorem cum_flat {A : List Int} {i : Nat} (h : ∀ j, i < j → A.getD j 0 = 0) : ∀ n, cum A (i + n) = cum A i
  | 0 => rfl
  | n + 1 => by
    have := cum_flat h n
    rw [show i + (n + 1) = i + n + 1 by omega]
    simp only [cum]
    rw [this, h (i + n + 1) (by omega)]
    omega
theorem cap_mono {t r s : Int} {l : List (List D)} (h : tankP t r s l) {i : Nat} : ∀ n, i + n < l.length → capAt l t s i ≤ capAt l t s (i + n)
  | 0, _ => Int.le_refl _
  | n + 1, hn => by
    have h1 := cap_mono h (i := i) n (by omega)
    have h2 := ((tank_of h).2.2.2.2 (i + n) (by omega)).1.1
    rw [show i + (n + 1) = i + n + 1 by omega]
    simp only [capAt]
    omega
theorem sum_le {t r s : Int} {l : List (List D)} (h : tankP t r s l) {i : Nat} : ∀ n, i + n < l.length → sumAt l r s i ≤ sumAt l r s (i + n)
  | 0, _ => Int.le_refl _
  | n + 1, hn => by
    have h1 := sum_le h (i := i) n (by omega)
    have h2 := (sum_mono h (j := i + n) (by omega)).1
    rw [show i + (n + 1) = i + n + 1 by omega]
    omega
theorem need_sum {t r s : Int} {l : List (List D)} (h : tankP t r s l) {i : Nat} (hi : i < l.length) : needAt l r s (i + 1) ≤ sumAt l r s i := by
  have h1 := (sum_rng h hi).1
  have h2 : upAt l r s (i + 1) = max (upAt l r s i) (needAt l r s (i + 1)) := rfl
  omega
theorem fill_inv {t r s : Int} {l : List (List D)} (h : tankP t r s l) {i : Nat} (hi : i < l.length) : ∀ (k : Nat) (A : List Int) (w : Int), k ≤ i + 1 → Inv l t r s i A → w = cum A i + r - needAt l r s (i + 1) → (w < r → Sat l t s i k A) →
    Inv l t r s i (fillFrom l t r s i k A w).1 ∧ (fillFrom l t r s i k A w).2 = cum (fillFrom l t r s i k A w).1 i + r - needAt l r s (i + 1) ∧ ((fillFrom l t r s i k A w).2 < r → Sat l t s i 0 (fillFrom l t r s i k A w).1) ∧
    (∀ j, cum A j ≤ cum (fillFrom l t r s i k A w).1 j)
  | 0, A, w, _, hA, hw, hs => ⟨hA, hw, hs, fun j => Int.le_refl _⟩
  | k + 1, A, w, hk, hA, hw, hs => by
    simp only [fillFrom]
    by_cases c : w < r
    case neg => rw [if_neg c]; exact ⟨hA, hw, fun h => absurd h c, fun j => Int.le_refl _⟩
    rw [if_pos c]
    have hkl : k < l.length := by omega
    have hkA : k < A.length := by rw [hA.am.1]; exact hkl
    obtain ⟨r1, r2⟩ := roomAt_of (l := l) (A := A) (t := t) (s := s) (k := k) hi
    have hroom : roomAt l A t s k i ≤ fillOf l k - A.getD k 0 := room_le _ _ _ _
    have hak := hA.am.2 k hkl
    have hsat := hs c
    by_cases c2 : roomAt l A t s k i > 0
    · rw [if_pos c2]
      have hfull : Full l A (k + 1) i := by
        rcases hsat with hf | ⟨j, j1, j2, j3⟩
        · exact hf
        · by_cases hjk : k ≤ j
          · have := r1 j hjk j1
            omega
          · exact fun m m1 m2 => j3 m (by omega) m2
      generalize hmore : min (roomAt l A t s k i) (r - w) = more at *
      have hm0 : 0 < more := by omega
      have hcum := fun j => cum_set (v := A.getD k 0 + more) hkA j
      have hget := fun j => getD_set (v := A.getD k 0 + more) hkA j
      have hfull' : Full l (A.set k (A.getD k 0 + more)) (k + 1) i := fun m m1 m2 => by rw [hget, if_neg (by omega)]; exact hfull m m1 m2
      have hci : cum (A.set k (A.getD k 0 + more)) i = cum A i + more := by rw [hcum, if_pos (by omega)]; omega
      have hns := need_sum h hi
      have hA' : Inv l t r s i (A.set k (A.getD k 0 + more)) := by
        refine ⟨amts_set hA.am ⟨by omega, by omega⟩, fun j hj => by rw [hget, if_neg (by omega)]; exact hA.zero j hj, fun j hj => ?_, fun j hj => ?_⟩
        · rw [hcum]
          by_cases hkj : k ≤ j
          · rw [if_pos hkj]
            by_cases hji : j ≤ i
            · have := r1 j hkj hji; omega
            · have e1 := cum_flat hA.zero (j - i)
              rw [show i + (j - i) = j by omega] at e1
              have e2 := cap_mono h (i := i) (j - i) (by omega)
              rw [show i + (j - i) = j by omega] at e2
              have := r1 i (by omega) (Nat.le_refl _)
              omega
          · rw [if_neg hkj]; have := hA.cap j hj; omega
        · by_cases hkj : k ≤ j
          · by_cases hji : j ≤ i
            · have e1 := full_le' (S := sumAt l r s) hji (fun m m1 m2 => hfull' m (by omega) m2) (fun m hm => (sum_mono h (j := m) (by omega)).2)
              omega
            · have e1 := cum_flat hA.zero (j - i)
              rw [show i + (j - i) = j by omega] at e1
              have e2 := sum_le h (i := i) (j - i) (by omega)
              rw [show i + (j - i) = j by omega] at e2
              rw [hcum, if_pos hkj]
              omega
          · rw [hcum, if_neg hkj]; have := hA.sum j hj; omega
      obtain ⟨f1, f2, f3, f4⟩ := fill_inv h hi k (A.set k (A.getD k 0 + more)) (w + more) (by omega) hA' (by omega) (fun hlt => by
        have hmr : more = roomAt l A t s k i := by omega
        rcases r2 with e | ⟨m, m1, m2, e⟩
        · left
          intro m m1 m2
          by_cases hmk : m = k
          · subst hmk; rw [hget, if_pos rfl]; omega
          · exact hfull' m (by omega) m2
        · right
          refine ⟨m, m2, ?_, fun x x1 x2 => hfull' x (by omega) x2⟩
          rw [hcum, if_pos m1]
          omega)
      exact ⟨f1, f2, f3, fun j => by have := f4 j; rw [hcum] at this; split at this <;> omega⟩
    · rw [if_neg c2]
      refine fill_inv h hi k A w (by omega) hA hw fun _ => ?_
      rcases hsat with hf | hj
      · rcases r2 with e | ⟨m, m1, m2, e⟩
        · left
          intro m m1 m2
          by_cases hmk : m = k
          · subst hmk; omega
          · exact hf m (by omega) m2
        · exact .inr ⟨m, m2, by omega, fun x x1 x2 => hf x (by omega) x2⟩
      · exact .inr hj

/-! ### Safe amounts -/
theorem safe_cap {l am : List (List D)} {t r : Int} {s : Int} {a : List Int} (ha : ∀ j, ix (am.getD j []) 0 = a.getD j 0) : ∀ n i lo hi, hi = s + (cum a i - a.getD i 0) - (capAt l t s i - (t - s)) → safeFrom t r l am i n lo hi = true → ∀ j, i ≤ j → j < i + n → cum a j ≤ capAt l t s j
  | 0, i, lo, hi, _, _ => fun j h1 h2 => by omega
  | n + 1, i, lo, hi, hh, hs => by
    simp only [safeFrom] at hs
    split at hs
    · cases hs
    · rename_i c1
      split at hs
      · cases hs
      · intro j h1 h2
        rw [ha] at c1
        by_cases hji : j = i
        · subst hji; omega
        · exact safe_cap ha n (i + 1) _ _ (by rw [ha]; show _ = s + (cum a i + a.getD (i + 1) 0 - a.getD (i + 1) 0) - (capAt l t s i + leastOf l i - (t - s)); unfold leastOf; omega) hs j (by omega) (by omega)
theorem outs_get {l : List (List D)} {r s : Int} (j : Nat) : ix ((outs l r s).getD j []) 0 = ((List.range l.length).map (outAt l r s)).getD j 0 := ix_mkI _ _
theorem cum_outs {l : List (List D)} {r s : Int} : ∀ j, j < l.length → cum ((List.range l.length).map (outAt l r s)) j = sumAt l r s j
  | 0, h => by simp [cum, List.getD_eq_getElem?_getD, h, outAt]
  | j + 1, h => by
    simp only [cum]
    rw [cum_outs j (by omega)]
    have e : ((List.range l.length).map (outAt l r s)).getD (j + 1) 0 = outAt l r s (j + 1) := by simp [List.getD_eq_getElem?_getD, h]
    have e2 : outAt l r s (j + 1) = sumAt l r s (j + 1) - sumAt l r s j := rfl
    omega
/-- A search that fails: there is no safe choice. -/
theorem search_fails {t r s : Int} {l : List (List D)} (h : tankP t r s l) {i : Nat} (hi : i < l.length) {A : List Int} (_hA : Inv l t r s i A) (hlow : cum A i < needAt l r s (i + 1)) (hs : Sat l t s i 0 A) : fuelOk t r s l = false := by
  have hns := need_sum h hi
  have hst : ∀ m, m < i → sumAt l r s (m + 1) - sumAt l r s m ≤ fillOf l (m + 1) := fun m hm => (sum_mono h (j := m) (by omega)).2
  unfold fuelOk
  rcases hs with hf | ⟨j, j1, j2, j3⟩
  · have e1 := full_le' (S := sumAt l r s) (Nat.zero_le i) (fun m m1 m2 => hf m (by omega) m2) hst
    have e2 := hf 0 (Nat.le_refl _) (Nat.zero_le _)
    have e3 : cum A 0 = A.getD 0 0 := rfl
    have : allFrom (outOk l r s) 0 l.length = false := by
      refine Bool.eq_false_iff.2 fun hh => ?_
      have := (allFrom_iff.1 hh) 0 (Nat.le_refl _) (by omega)
      have h0 : outAt l r s 0 ≤ fillOf l 0 := of_decide_eq_true this
      have h1 : outAt l r s 0 = sumAt l r s 0 := rfl
      omega
    rw [this, Bool.false_and]
  · have e1 := full_le' (S := sumAt l r s) j1 j3 hst
    have : safeFrom t r l (outs l r s) 0 l.length s s = false := by
      refine Bool.eq_false_iff.2 fun hh => ?_
      have e2 := safe_cap (s := s) (a := (List.range l.length).map (outAt l r s)) (outs_get (l := l) (r := r) (s := s)) l.length 0 s s (by simp only [cum, capAt]; omega) hh j (Nat.zero_le _) (by omega)
      rw [cum_outs j (by omega)] at e2
      omega
    rw [this, Bool.and_false]
theorem search_inv {t r s : Int} {l : List (List D)} (h : tankP t r s l) : ∀ (n i : Nat) (A : List Int), i + n = l.length → amts l A → (∀ j, i ≤ j → A.getD j 0 = 0) → (∀ j, j < l.length → cum A j ≤ capAt l t s j) → (∀ j, j < l.length → cum A j ≤ sumAt l r s j) → (∀ j, j < i → needAt l r s (j + 1) ≤ cum A j) →
    ((searchFrom l t r s i n A).1 = false ∧ fuelOk t r s l = false) ∨ ((searchFrom l t r s i n A).1 = true ∧ amts l (searchFrom l t r s i n A).2 ∧ (∀ j, j < l.length → cum (searchFrom l t r s i n A).2 j ≤ sumAt l r s j) ∧ (∀ j, j < l.length → needAt l r s (j + 1) ≤ cum (searchFrom l t r s i n A).2 j))
  | 0, i, A, hn, ha, hz, hc, hs, hd => .inr ⟨rfl, ha, hs, fun j hj => hd j (by omega)⟩
  | n + 1, i, A, hn, ha, hz, hc, hs, hd => by
    have hi : i < l.length := by omega
    have hI : Inv l t r s i A := ⟨ha, fun j hj => hz j (by omega), hc, hs⟩
    have key := fill_inv h hi (i + 1) A (lowFrom l A 0 (i + 1) s) (Nat.le_refl _) hI (low_all i) (fun _ => .inl fun m m1 m2 => by omega)
    simp only [searchFrom]
    unfold fillAt
    obtain ⟨k1, k2, k3, k4⟩ := key
    by_cases c : (fillFrom l t r s i (i + 1) A (lowFrom l A 0 (i + 1) s)).2 < r
    · rw [if_pos c]
      exact .inl ⟨rfl, search_fails h hi k1 (by omega) (k3 c)⟩
    · rw [if_neg c]
      refine search_inv h n (i + 1) _ (by omega) k1.am (fun j hj => k1.zero j (by omega)) k1.cap k1.sum fun j hj => ?_
      by_cases hji : j = i
      · subst hji; omega
      · exact Int.le_trans (hd j (by omega)) (k4 j)
/-- What keeps the needs is not less than the program's sums. -/
theorem sum_least {r s : Int} {l : List (List D)} {a : List Int} (ha : amts l a) (hn : ∀ j, j < l.length → needAt l r s (j + 1) ≤ cum a j) : ∀ k j, j + k = l.length → 0 < k → sumAt l r s j ≤ cum a j := by
  have hup : ∀ j, j < l.length → upAt l r s (j + 1) ≤ cum a j := by
    intro j
    induction j with
    | zero =>
      intro hj
      have h1 := hn 0 hj
      have h2 := ha.2 0 hj
      simp only [upAt, cum, needAt] at h1 ⊢
      omega
    | succ j ih =>
      intro hj
      have h0 := ih (by omega)
      have h1 := hn (j + 1) hj
      have h2 := ha.2 (j + 1) hj
      have h3 : upAt l r s (j + 1 + 1) = max (upAt l r s (j + 1)) (needAt l r s (j + 1 + 1)) := rfl
      simp only [cum] at h1 ⊢
      omega
  intro k
  induction k with
  | zero => intro j _ h0; omega
  | succ k ih =>
    intro j hj _
    have hjl : j < l.length := by omega
    by_cases hk : k = 0
    · subst hk
      have : sumAt l r s j = upAt l r s (j + 1) := by unfold sumAt; rw [show l.length - 1 - j = 0 by omega]; rfl
      rw [this]; exact hup j hjl
    · have h1 := ih (j + 1) (by omega) (by omega)
      have h2 := sum_step (l := l) (r := r) (s := s) (j := j) (by omega)
      have h3 := hup j hjl
      have h4 := ha.2 (j + 1) (by omega)
      simp only [cum] at h1
      omega
theorem cap_zero {t r s : Int} {l : List (List D)} (h : tankP t r s l) : ∀ j, j < l.length → 0 ≤ capAt l t s j
  | 0, _ => by have := (tank_of h).2.2.1; simp only [capAt]; omega
  | j + 1, hj => by
    have h1 := cap_zero h j (by omega)
    have h2 := ((tank_of h).2.2.2.2 j (by omega)).1.1
    simp only [capAt]; omega
theorem cum_zero (n : Nat) : ∀ j, cum (List.replicate n 0) j = 0
  | 0 => by simp only [cum, List.getD_eq_getElem?_getD, List.getElem?_replicate]; split <;> rfl
  | j + 1 => by
    simp only [cum, cum_zero n j, List.getD_eq_getElem?_getD, List.getElem?_replicate]
    split <;> rfl
theorem eq_of_cum {a b : List Int} {n : Nat} (ha : a.length = n) (hb : b.length = n) (h : ∀ j, j < n → cum a j = cum b j) : a = b := by
  apply List.ext_getElem?
  intro j
  by_cases hj : j < n
  · have e : a.getD j 0 = b.getD j 0 := by
      cases j with
      | zero => exact h 0 hj
      | succ j =>
        have h1 := h j (by omega)
        have h2 := h (j + 1) hj
        simp only [cum] at h2
        omega
    simp only [List.getD_eq_getElem?_getD, List.getElem?_eq_getElem (show j < a.length by omega), List.getElem?_eq_getElem (show j < b.length by omega), Option.getD_some] at e ⊢
    rw [e]
  · rw [List.getElem?_eq_none (by omega), List.getElem?_eq_none (by omega)]
theorem refSafe_safe {t r : Int} {l am : List (List D)} : ∀ n i lo hi, (∀ j, i ≤ j → j < i + n → amOk l am j = true) → refSafeFrom t r l am i n lo hi = safeFrom t r l am i n lo hi
  | 0, i, lo, hi, _ => rfl
  | n + 1, i, lo, hi, h => by
    simp only [refSafeFrom, safeFrom, h i (Nat.le_refl _) (by omega), Bool.not_true, Bool.false_eq_true, if_false]
    rw [refSafe_safe n (i + 1) _ _ fun j h1 h2 => h j (by omega) (by omega)]
/-- What the search finds. -/
theorem search_of {t r s : Int} {l : List (List D)} (h : tankP t r s l) :
    ((searchAll l t r s).1 = false ∧ fuelOk t r s l = false) ∨ ((searchAll l t r s).1 = true ∧ mkI (searchAll l t r s).2 = outs l r s ∧ refSafeFrom t r l (outs l r s) 0 l.length s s = fuelOk t r s l) := by
  have key := search_inv h l.length 0 (List.replicate l.length 0) (by omega) (amts_zero h) (fun j _ => by simp only [List.getD_eq_getElem?_getD, List.getElem?_replicate]; split <;> rfl) (fun j hj => by rw [cum_zero]; exact cap_zero h j hj)
    (fun j hj => by rw [cum_zero]; exact (sum_rng h hj).2.1) (fun j hj => by omega)
  rcases key with hf | ⟨h1, h2, h3, h4⟩
  · exact .inl hf
  · right
    have e0 : searchFrom l t r s 0 l.length (List.replicate l.length 0) = searchAll l t r s := rfl
    rw [e0] at h1 h2 h3 h4
    have e1 : (searchAll l t r s).2 = (List.range l.length).map (outAt l r s) := eq_of_cum h2.1 (by simp) fun j hj => by
      rw [cum_outs j hj]
      have := sum_least h2 h4 (l.length - j) j (by omega) (by omega)
      have := h3 j hj
      omega
    have ham : ∀ j, 0 ≤ j → j < 0 + l.length → amOk l (outs l r s) j = true := fun j _ hj => by
      have := h2.2 j (by omega)
      rw [e1] at this
      unfold amOk
      rw [outs_get, Lite.within_iff]
      exact this
    refine ⟨h1, by rw [e1]; rfl, ?_⟩
    rw [refSafe_safe _ _ _ _ ham]
    have : allFrom (outOk l r s) 0 l.length = true := allFrom_iff.2 fun j h5 h6 => by
      have := ham j h5 h6
      unfold amOk at this
      rw [outs_get, Lite.within_iff] at this
      unfold outOk
      refine decide_eq_true ?_
      have h7 := this.2
      simp only [List.getD_eq_getElem?_getD, List.getElem?_map, List.getElem?_range (show j < l.length by omega), Option.map_some, Option.getD_some] at h7
      exact h7
    unfold fuelOk
    rw [this, Bool.true_and]
end Go.Proofs.Ytlofnkkokcihnaa
