/-
  Times that are raised until all links are kept: plain facts about them.
-/
import Derived.Test.YtipbcpobnciccaaSym
namespace Go.Lite

/-! ### Links: from, to, least -/
structure Net where
  n : Nat
  m : Nat
  f : Nat → Nat
  t : Nat → Nat
  w : Nat → Int
structure Net.OK (E : Net) : Prop where
  f : ∀ i, i < E.m → E.f i < E.n
  t : ∀ i, i < E.m → E.t i < E.n
/-- All links are kept. -/
def Net.kept (E : Net) (p : Nat → Int) : Prop := ∀ i, i < E.m → p (E.f i) + E.w i ≤ p (E.t i)

def upd {α : Type} (x : Nat → α) (i : Nat) (v : α) : Nat → α := fun j => if j = i then v else x j
theorem upd_same {α : Type} {x : Nat → α} {i : Nat} {v : α} : upd x i v i = v := by simp [upd]
theorem upd_ne {α : Type} {x : Nat → α} {i j : Nat} {v : α} (h : j ≠ i) : upd x i v j = x j := by simp [upd, h]

/-- The state of raising: times, who raised them last (-1: nobody), who was raised last in this round; and, to think with: when, in which round, the clock. -/
structure Rz where
  t : Nat → Int
  b : Nat → Int
  r : Int
  lst : Nat → Nat
  lv : Nat → Nat
  c : Nat
def Net.step (E : Net) (ρ i : Nat) (s : Rz) : Rz :=
  if s.t (E.f i) + E.w i > s.t (E.t i) then
    { t := upd s.t (E.t i) (s.t (E.f i) + E.w i), b := upd s.b (E.t i) i, r := E.t i, lst := upd s.lst (E.t i) (s.c + 1), lv := upd s.lv (E.t i) ρ, c := s.c + 1 }
  else s
/-- Some links in order: from i on, so many. -/
def Net.pass (E : Net) (ρ : Nat) : Nat → Nat → Rz → Rz
  | _, 0, s => s
  | i, k + 1, s => E.pass ρ (i + 1) k (E.step ρ i s)
/-- Rounds: the number of this round, how many there may be. -/
def Net.rounds (E : Net) : Nat → Nat → Rz → Rz
  | _, 0, s => s
  | ρ, k + 1, s => if (E.pass ρ 0 E.m { s with r := -1 }).r < 0 then E.pass ρ 0 E.m { s with r := -1 } else E.rounds (ρ + 1) k (E.pass ρ 0 E.m { s with r := -1 })
def Rz.start (t : Nat → Int) : Rz := ⟨t, fun _ => -1, -1, fun _ => 0, fun _ => 0, 0⟩

section
variable {E : Net}
theorem Net.step_le (ρ i : Nat) (s : Rz) (j : Nat) : s.t j ≤ (E.step ρ i s).t j := by
  unfold Net.step
  split
  · simp only [upd]; split
    · rename_i h1 h2; subst h2; omega
    · exact Int.le_refl _
  · exact Int.le_refl _
theorem Net.pass_le (ρ : Nat) : ∀ (k i : Nat) (s : Rz) (j : Nat), s.t j ≤ (E.pass ρ i k s).t j
  | 0, _, _, _ => Int.le_refl _
  | k + 1, i, s, j => Int.le_trans (Net.step_le ρ i s j) (Net.pass_le ρ k (i + 1) _ j)
theorem Net.rounds_le : ∀ (k ρ : Nat) (s : Rz) (j : Nat), s.t j ≤ (E.rounds ρ k s).t j
  | 0, _, _, _ => Int.le_refl _
  | k + 1, ρ, s, j => by
    have h1 := Net.pass_le (E := E) ρ E.m 0 { s with r := -1 } j
    simp only [Net.rounds]
    split
    · exact h1
    · exact Int.le_trans h1 (Net.rounds_le k (ρ + 1) _ j)
/-- What is kept by greater times bounds the times. -/
theorem Net.step_ub {p : Nat → Int} (hp : E.kept p) {ρ i : Nat} (hi : i < E.m) {s : Rz} (h : ∀ j, s.t j ≤ p j) (j : Nat) : (E.step ρ i s).t j ≤ p j := by
  unfold Net.step
  split
  · simp only [upd]; split
    · rename_i h2; subst h2
      have := hp i hi
      have := h (E.f i)
      omega
    · exact h j
  · exact h j
theorem Net.pass_ub {p : Nat → Int} (hp : E.kept p) {ρ : Nat} : ∀ (k i : Nat), i + k ≤ E.m → ∀ (s : Rz), (∀ j, s.t j ≤ p j) → ∀ j, (E.pass ρ i k s).t j ≤ p j
  | 0, _, _, _, h => h
  | k + 1, i, hk, s, h => Net.pass_ub hp k (i + 1) (by omega) _ (Net.step_ub hp (by omega) h)
theorem Net.rounds_ub {p : Nat → Int} (hp : E.kept p) : ∀ (k ρ : Nat) (s : Rz), (∀ j, s.t j ≤ p j) → ∀ j, (E.rounds ρ k s).t j ≤ p j
  | 0, _, _, h => h
  | k + 1, ρ, s, h => by
    have h1 := Net.pass_ub (ρ := ρ) hp E.m 0 (by omega) { s with r := -1 } h
    simp only [Net.rounds]
    split
    · exact h1
    · exact Net.rounds_ub hp k (ρ + 1) _ h1
/-- What was raised last. -/
theorem Net.step_r (ρ i : Nat) (s : Rz) : ((E.step ρ i s).r < 0 → E.step ρ i s = s) ∧ (s.r ≥ 0 → (E.step ρ i s).r ≥ 0) := by
  unfold Net.step
  split
  · exact ⟨fun h => by simp only at h; omega, fun _ => by simp only; omega⟩
  · exact ⟨fun _ => rfl, fun h => h⟩
theorem Net.pass_r (ρ : Nat) : ∀ (k i : Nat) (s : Rz), s.r ≥ 0 → (E.pass ρ i k s).r ≥ 0
  | 0, _, _, h => h
  | k + 1, i, s, h => Net.pass_r ρ k (i + 1) _ ((Net.step_r ρ i s).2 h)
/-- A pass that raises nothing: all is kept. -/
theorem Net.pass_kept (ρ : Nat) : ∀ (k i : Nat) (s : Rz), (E.pass ρ i k s).r < 0 → E.pass ρ i k s = s ∧ ∀ j, i ≤ j → j < i + k → s.t (E.f j) + E.w j ≤ s.t (E.t j)
  | 0, _, _, _ => ⟨rfl, fun j h1 h2 => by omega⟩
  | k + 1, i, s, h => by
    simp only [Net.pass] at h ⊢
    obtain ⟨h1, h2⟩ := Net.pass_kept ρ k (i + 1) _ h
    rw [h1] at h ⊢
    have h3 := (Net.step_r ρ i s).1 h
    rw [h3] at h2 ⊢
    refine ⟨rfl, fun j h4 h5 => ?_⟩
    by_cases hj : j = i
    · subst hj
      unfold Net.step at h3
      split at h3
      · rename_i hgt
        have := congrArg Rz.c h3
        simp only at this
        omega
      · omega
    · exact h2 j (by omega) (by omega)
theorem Net.rounds_kept : ∀ (k ρ : Nat) (s : Rz), 0 < k → (E.rounds ρ k s).r < 0 → E.kept (E.rounds ρ k s).t
  | 0, _, _, h, _ => by omega
  | k + 1, ρ, s, _, h => by
    simp only [Net.rounds] at h ⊢
    split at h
    · rename_i hr
      rw [if_pos hr]
      obtain ⟨h1, h2⟩ := Net.pass_kept ρ E.m 0 _ hr
      rw [h1]
      exact fun i hi => h2 i (Nat.zero_le _) (by omega)
    · rename_i hr
      rw [if_neg hr]
      cases k with
      | zero => simp only [Net.rounds] at h; exact absurd h hr
      | succ k => exact Net.rounds_kept (k + 1) (ρ + 1) _ (by omega) h

/-! ### Who raised whom -/
structure Rz.Inv (E : Net) (s : Rz) (ρ i : Nat) : Prop where
  by_ : ∀ v, 0 ≤ s.b v → ∃ e : Nat, s.b v = e ∧ e < E.m ∧ E.t e = v ∧ s.t v ≤ s.t (E.f e) + E.w e ∧ ((s.lst v < s.lst (E.f e) ∨ E.f e = v) → s.t v < s.t (E.f e) + E.w e) ∧ s.lv v ≤ s.lv (E.f e) + 1
  none_ : ∀ v, s.b v < 0 → s.b v = -1 ∧ s.lst v = 0 ∧ s.lv v = 0
  lst_ : ∀ v, s.lst v ≤ s.c
  pos_ : ∀ v, 0 ≤ s.b v → 0 < s.lst v
  inj_ : ∀ u v, 0 ≤ s.b u → 0 ≤ s.b v → s.lst u = s.lst v → u = v
  lv_ : ∀ v, s.lv v ≤ ρ
  past_ : ∀ j, j < E.m → j < i → s.lv (E.f j) < ρ → s.t (E.f j) + E.w j ≤ s.t (E.t j)
  rest_ : ∀ j, j < E.m → s.lv (E.f j) + 1 < ρ → s.t (E.f j) + E.w j ≤ s.t (E.t j)
theorem Rz.start_inv (t : Nat → Int) : (Rz.start t).Inv E 1 0 where
  by_ v h := by simp only [Rz.start] at h; omega
  none_ v _ := ⟨rfl, rfl, rfl⟩
  lst_ v := Nat.le_refl _
  pos_ v h := by simp only [Rz.start] at h; omega
  inj_ u v h := by simp only [Rz.start] at h; omega
  lv_ v := Nat.zero_le _
  past_ j _ h := by omega
  rest_ j _ h := by omega
theorem Rz.Inv.step {s : Rz} {ρ i : Nat} (I : s.Inv E ρ i) (hi : i < E.m) : (E.step ρ i s).Inv E ρ (i + 1) := by
  unfold Net.step
  split
  · rename_i hgt
    have hlv : ρ ≤ s.lv (E.f i) + 1 := by
      apply Classical.byContradiction
      intro hn
      have := I.rest_ i hi (by omega)
      omega
    constructor
    · intro v hv
      by_cases e : v = E.t i
      · subst e
        refine ⟨i, by simp [upd], hi, rfl, ?_, ?_, ?_⟩
        · simp only [upd, if_true]
          split
          · rename_i h; rw [h] at hgt ⊢; omega
          · exact Int.le_refl _
        · simp only [upd, if_true]
          rintro (h | h)
          · split at h
            · omega
            · have := I.lst_ (E.f i); omega
          · rw [if_pos h, h] ; rw [h] at hgt; omega
        · simp only [upd, if_true]
          split
          · omega
          · exact hlv
      · simp only [upd, e, if_false] at hv ⊢
        obtain ⟨e', h1, h2, h3, h4, h5, h6⟩ := I.by_ v hv
        refine ⟨e', h1, h2, h3, ?_, ?_, ?_⟩
        · split
          · rename_i h; rw [h] at h4; omega
          · exact h4
        · intro h
          split at h
          · rename_i hf
            rw [if_pos hf, ]
            rw [hf] at h4
            omega
          · rename_i hf
            rw [if_neg hf]
            exact h5 h
        · split
          · have := I.lv_ v; omega
          · exact h6
    · intro v hv
      by_cases e : v = E.t i
      · subst e; simp only [upd, if_true] at hv; omega
      · simp only [upd, e, if_false] at hv ⊢
        exact I.none_ v hv
    · intro v
      simp only [upd]
      split
      · exact Nat.le_refl _
      · have := I.lst_ v; omega
    · intro v hv
      by_cases e : v = E.t i
      · subst e; simp [upd]
      · simp only [upd, e, if_false] at hv ⊢
        exact I.pos_ v hv
    · intro u v hu hv h
      by_cases eu : u = E.t i <;> by_cases ev : v = E.t i
      · rw [eu, ev]
      · simp only [upd, eu, ev, if_true, if_false] at h
        have := I.lst_ v; omega
      · simp only [upd, eu, ev, if_true, if_false] at h
        have := I.lst_ u; omega
      · simp only [upd, eu, ev, if_false] at hu hv h
        exact I.inj_ u v hu hv h
    · intro v
      simp only [upd]
      split
      · exact Nat.le_refl _
      · exact I.lv_ v
    · intro j hj hji hlt
      simp only [upd] at hlt ⊢
      by_cases ef : E.f j = E.t i
      · rw [if_pos ef] at hlt; omega
      · rw [if_neg ef] at hlt ⊢
        by_cases hje : j = i
        · subst hje; simp
        · have := I.past_ j hj (by omega) hlt
          split
          · rename_i h; rw [h] at this; omega
          · exact this
    · intro j hj hlt
      simp only [upd] at hlt ⊢
      by_cases ef : E.f j = E.t i
      · rw [if_pos ef] at hlt; omega
      · rw [if_neg ef] at hlt ⊢
        have := I.rest_ j hj hlt
        split
        · rename_i h; rw [h] at this; omega
        · exact this
  · rename_i hle
    exact ⟨I.by_, I.none_, I.lst_, I.pos_, I.inj_, I.lv_, fun j hj hji hlt => by
      by_cases e : j = i
      · subst e; omega
      · exact I.past_ j hj (by omega) hlt, I.rest_⟩
theorem Rz.Inv.pass {ρ : Nat} : ∀ (k i : Nat), i + k ≤ E.m → ∀ {s : Rz}, s.Inv E ρ i → (E.pass ρ i k s).Inv E ρ (i + k)
  | 0, _, _, _, I => I
  | k + 1, i, hk, s, I => by
    have := Rz.Inv.pass k (i + 1) (by omega) (I.step (by omega))
    rw [show i + 1 + k = i + (k + 1) by omega] at this
    exact this
theorem Rz.Inv.next {s : Rz} {ρ : Nat} (I : s.Inv E ρ E.m) : s.Inv E (ρ + 1) 0 :=
  ⟨I.by_, I.none_, I.lst_, I.pos_, I.inj_, fun v => Nat.le_trans (I.lv_ v) (by omega), fun j _ h => by omega, fun j hj h => I.past_ j hj hj (by omega)⟩
theorem Rz.Inv.clear {s : Rz} {ρ i : Nat} (I : s.Inv E ρ i) (r : Int) : Rz.Inv E { s with r := r } ρ i := ⟨I.by_, I.none_, I.lst_, I.pos_, I.inj_, I.lv_, I.past_, I.rest_⟩
/-- Who is raised last in a round was raised in it. -/
theorem Net.step_last {ρ i : Nat} {s : Rz} (h : 0 ≤ s.r → ∃ v : Nat, s.r = v ∧ s.lv v = ρ ∧ v < E.n) (hE : E.OK) (hi : i < E.m) : 0 ≤ (E.step ρ i s).r → ∃ v : Nat, (E.step ρ i s).r = v ∧ (E.step ρ i s).lv v = ρ ∧ v < E.n := by
  unfold Net.step
  split
  · intro _
    exact ⟨E.t i, rfl, by simp [upd], hE.t i hi⟩
  · exact h
theorem Net.pass_last (hE : E.OK) {ρ : Nat} : ∀ (k i : Nat), i + k ≤ E.m → ∀ (s : Rz), (0 ≤ s.r → ∃ v : Nat, s.r = v ∧ s.lv v = ρ ∧ v < E.n) → 0 ≤ (E.pass ρ i k s).r → ∃ v : Nat, (E.pass ρ i k s).r = v ∧ (E.pass ρ i k s).lv v = ρ ∧ v < E.n
  | 0, _, _, _, h => h
  | k + 1, i, hk, s, h => Net.pass_last hE k (i + 1) (by omega) _ (Net.step_last h hE (by omega))
/-- After the rounds: if something was raised in the last one, who raised whom leads back so many times. -/
theorem Net.rounds_inv (hE : E.OK) : ∀ (k ρ : Nat) (s : Rz), 0 < ρ → s.Inv E ρ 0 → 0 < k → ∃ ρ', ρ' ≤ ρ + k - 1 ∧ (E.rounds ρ k s).Inv E ρ' E.m ∧ (0 ≤ (E.rounds ρ k s).r → ρ' = ρ + k - 1 ∧ ∃ v : Nat, (E.rounds ρ k s).r = v ∧ (E.rounds ρ k s).lv v = ρ' ∧ v < E.n)
  | 0, _, _, _, _, h => by omega
  | k + 1, ρ, s, hρ, I, _ => by
    have I1 := Rz.Inv.pass E.m 0 (by omega) (I.clear (-1))
    rw [Nat.zero_add] at I1
    simp only [Net.rounds]
    split
    · rename_i hr
      exact ⟨ρ, by omega, I1, fun h => by omega⟩
    · rename_i hr
      cases k with
      | zero =>
        simp only [Net.rounds]
        exact ⟨ρ, by omega, I1, fun h => ⟨by omega, Net.pass_last hE E.m 0 (by omega) _ (fun h => by simp only at h; omega) h⟩⟩
      | succ k =>
        obtain ⟨ρ', h1, h2, h3⟩ := Net.rounds_inv hE (k + 1) (ρ + 1) _ (by omega) I1.next (by omega)
        exact ⟨ρ', by omega, h2, fun h => by obtain ⟨h4, h5⟩ := h3 h; exact ⟨by omega, h5⟩⟩
end

/-! ### Chains -/
/-- A function that is applied so many times. -/
def iter (g : Nat → Nat) : Nat → Nat → Nat
  | 0, x => x
  | k + 1, x => iter g k (g x)
theorem iter_add (g : Nat → Nat) : ∀ (a b x : Nat), iter g (a + b) x = iter g b (iter g a x)
  | 0, b, x => by rw [Nat.zero_add]; rfl
  | a + 1, b, x => by rw [show a + 1 + b = (a + b) + 1 by omega]; exact iter_add g a b (g x)
theorem iter_succ (g : Nat → Nat) (k x : Nat) : iter g (k + 1) x = g (iter g k x) := iter_add g k 1 x
theorem iter_lt {g : Nat → Nat} {n : Nat} (hg : ∀ x, x < n → g x < n) : ∀ (k : Nat) {x : Nat}, x < n → iter g k x < n
  | 0, _, h => h
  | k + 1, _, h => iter_lt hg k (hg _ h)
/-- Two of so many steps are at the same place. -/
theorem exists_rep : ∀ {n : Nat} (s : Nat → Nat), (∀ k, k ≤ n → s k < n) → ∃ a c, a < c ∧ c ≤ n ∧ s a = s c
  | 0, s, hs => by have := hs 0 (Nat.le_refl _); omega
  | n + 1, s, hs => by
    by_cases h : ∃ a, a ≤ n ∧ s a = s (n + 1)
    · obtain ⟨a, h1, h2⟩ := h
      exact ⟨a, n + 1, by omega, Nat.le_refl _, h2⟩
    · have hne : ∀ k, k ≤ n → s k ≠ s (n + 1) := fun k hk e => h ⟨k, hk, e⟩
      have hv := hs (n + 1) (Nat.le_refl _)
      obtain ⟨a, c, h1, h2, h3⟩ := exists_rep (n := n) (fun k => if s k > s (n + 1) then s k - 1 else s k) (fun k hk => by
        have h4 := hne k hk
        have h5 := hs k (by omega)
  
        split <;> omega)
      refine ⟨a, c, h1, by omega, ?_⟩
      have h4 := hne a (by omega)
      have h5 := hne c h2
      split at h3 <;> split at h3 <;> omega
/-- After as many steps as there are places one is in a circle. -/
theorem iter_cycle {n : Nat} {g : Nat → Nat} (hg : ∀ x, x < n → g x < n) {x : Nat} (hx : x < n) {K : Nat} (hK : n ≤ K + 1) : ∃ k, 0 < k ∧ k ≤ n ∧ iter g k (iter g K x) = iter g K x := by
  obtain ⟨a, c, hac, hcn, e⟩ := exists_rep (n := n) (fun k => iter g k x) (fun k _ => iter_lt hg k hx)
  refine ⟨c - a, by omega, by omega, ?_⟩
  have h1 : iter g (c - a) (iter g a x) = iter g a x := by rw [← iter_add, show a + (c - a) = c by omega]; exact e.symm
  rw [show K = a + (K - a) by omega, iter_add, ← iter_add, Nat.add_comm, iter_add, h1]

/-- The sum along a circle. -/
def sumTo (x : Nat → Int) : Nat → Int
  | 0 => 0
  | k + 1 => sumTo x k + x k
theorem sumTo_le {x y : Nat → Int} : ∀ {k : Nat}, (∀ j, j < k → x j ≤ y j) → sumTo x k ≤ sumTo y k
  | 0, _ => Int.le_refl _
  | k + 1, h => by
    have h1 := sumTo_le (k := k) fun j hj => h j (by omega)
    have h2 := h k (by omega)
    simp only [sumTo]; omega
theorem sumTo_lt {x y : Nat → Int} : ∀ {k j : Nat}, j < k → (∀ i, i < k → x i ≤ y i) → x j < y j → sumTo x k < sumTo y k
  | 0, _, hj, _, _ => by omega
  | k + 1, j, hj, h, hl => by
    simp only [sumTo]
    by_cases e : j = k
    · subst e
      have := sumTo_le (k := j) fun i hi => h i (by omega)
      omega
    · have := sumTo_lt (k := k) (j := j) (by omega) (fun i hi => h i (by omega)) hl
      have := h k (by omega)
      omega
theorem sumTo_tele (x : Nat → Int) : ∀ (k : Nat), sumTo (fun j => x j - x (j + 1)) k = x 0 - x k
  | 0 => by simp [sumTo]
  | k + 1 => by rw [sumTo, sumTo_tele x k]; omega
/-- The greatest of some numbers. -/
theorem exists_max (x : Nat → Nat) : ∀ (k : Nat), 0 < k → ∃ j, j < k ∧ ∀ i, i < k → x i ≤ x j
  | 0, h => by omega
  | 1, _ => ⟨0, by omega, fun i hi => by rw [show i = 0 by omega]; exact Nat.le_refl _⟩
  | k + 2, _ => by
    obtain ⟨j, h1, h2⟩ := exists_max x (k + 1) (by omega)
    by_cases h : x j ≤ x (k + 1)
    · refine ⟨k + 1, by omega, fun i hi => ?_⟩
      by_cases e : i = k + 1
      · rw [e]; exact Nat.le_refl _
      · exact Nat.le_trans (h2 i (by omega)) h
    · refine ⟨j, by omega, fun i hi => ?_⟩
      by_cases e : i = k + 1
      · rw [e]; omega
      · exact h2 i (by omega)

/-- Who raised whom, as a step back: by a link, or by another one where nobody was raised. -/
def Net.back (_ : Net) (b : Nat → Int) (d : Nat → Nat) (v : Nat) : Nat := if b v < 0 then d v else (b v).toNat
section
variable {E : Net} {s : Rz} {ρ : Nat} {d : Nat → Nat}
theorem Rz.Inv.walk_lv (I : s.Inv E ρ E.m) {v : Nat} : ∀ {k : Nat}, k < s.lv v → 0 < s.lv (iter (fun x => E.f (E.back s.b d x)) k v) ∧ s.lv v ≤ s.lv (iter (fun x => E.f (E.back s.b d x)) k v) + k
  | 0, h => ⟨h, by simp [iter]⟩
  | k + 1, h => by
    obtain ⟨h1, h2⟩ := I.walk_lv (k := k) (v := v) (by omega)
    rw [iter_succ]
    generalize iter (fun x => E.f (E.back s.b d x)) k v = u at h1 h2 ⊢
    have hb : 0 ≤ s.b u := by
      apply Classical.byContradiction
      intro hn
      have := (I.none_ u (by omega)).2.2
      omega
    obtain ⟨e, e1, _, _, _, _, e6⟩ := I.by_ u hb
    have hbk : E.back s.b d u = e := by unfold Net.back; rw [if_neg (by omega), e1]; rfl
    rw [hbk]
    omega
/-- A circle that is come to from who was raised in the last of enough rounds: all in it were raised. -/
theorem Rz.Inv.circle (I : s.Inv E ρ E.m) (hE : E.OK) (hd : ∀ v, v < E.n → d v < E.m) {v : Nat} (hv : v < E.n) (hlv : s.lv v = ρ) (hρ : ρ = E.n + 1) {K : Nat} (hK : K = E.n + 1) :
    ∃ k, 0 < k ∧ k ≤ E.n ∧ iter (fun x => E.f (E.back s.b d x)) k (iter (fun x => E.f (E.back s.b d x)) K v) = iter (fun x => E.f (E.back s.b d x)) K v ∧
      ∀ j, 0 ≤ s.b (iter (fun x => E.f (E.back s.b d x)) j (iter (fun x => E.f (E.back s.b d x)) K v)) := by
  have hg : ∀ x, x < E.n → E.f (E.back s.b d x) < E.n := fun x hx => by
    refine hE.f _ ?_
    unfold Net.back
    split
    · exact hd x hx
    · rename_i h
      obtain ⟨e, e1, e2, _⟩ := I.by_ x (by omega)
      rw [e1]; exact e2
  have hpos : ∀ k, k ≤ E.n → 0 ≤ s.b (iter (fun x => E.f (E.back s.b d x)) k v) := fun k hk => by
    apply Classical.byContradiction
    intro hn
    have h1 := (I.none_ _ (show s.b (iter (fun x => E.f (E.back s.b d x)) k v) < 0 by omega)).2.2
    have := (I.walk_lv (d := d) (v := v) (k := k) (by omega)).1
    omega
  obtain ⟨k, k1, k2, k3⟩ := iter_cycle hg hv (K := K) (by omega)
  refine ⟨k, k1, k2, k3, fun j => ?_⟩
  obtain ⟨a, c, hac, hcn, e⟩ := exists_rep (n := E.n) (fun k => iter (fun x => E.f (E.back s.b d x)) k v) (fun k _ => iter_lt hg k hv)
  -- everything from a on repeats within a .. c - 1
  have hall : ∀ i, ∃ k, k < c ∧ iter (fun x => E.f (E.back s.b d x)) i v = iter (fun x => E.f (E.back s.b d x)) k v := by
    intro i
    induction i with
    | zero => exact ⟨0, by omega, rfl⟩
    | succ i ih =>
      obtain ⟨k, h1, h2⟩ := ih
      by_cases hk : k + 1 < c
      · exact ⟨k + 1, hk, by rw [iter_succ, iter_succ, h2]⟩
      · refine ⟨a, hac, ?_⟩
        have h3 : iter (fun x => E.f (E.back s.b d x)) (k + 1) v = E.f (E.back s.b d (iter (fun x => E.f (E.back s.b d x)) k v)) := iter_succ _ _ _
        rw [iter_succ, h2, ← h3, show k + 1 = c by omega]; exact e.symm
  rw [← iter_add]
  obtain ⟨i, h1, h2⟩ := hall (K + j)
  rw [h2]
  exact hpos i (by omega)
/-- A circle of links by which all in it were raised weighs something. -/
theorem Rz.Inv.weighs (I : s.Inv E ρ E.m) {y k : Nat} (hk : 0 < k) (hy : iter (fun x => E.f (E.back s.b d x)) k y = y) (hb : ∀ j, 0 ≤ s.b (iter (fun x => E.f (E.back s.b d x)) j y)) :
    0 < sumTo (fun j => E.w (E.back s.b d (iter (fun x => E.f (E.back s.b d x)) j y))) k := by
  have key : ∀ j, s.t (iter (fun x => E.f (E.back s.b d x)) j y) - s.t (iter (fun x => E.f (E.back s.b d x)) (j + 1) y) ≤ E.w (E.back s.b d (iter (fun x => E.f (E.back s.b d x)) j y)) ∧
      ((s.lst (iter (fun x => E.f (E.back s.b d x)) j y) < s.lst (iter (fun x => E.f (E.back s.b d x)) (j + 1) y) ∨ iter (fun x => E.f (E.back s.b d x)) (j + 1) y = iter (fun x => E.f (E.back s.b d x)) j y) →
        s.t (iter (fun x => E.f (E.back s.b d x)) j y) - s.t (iter (fun x => E.f (E.back s.b d x)) (j + 1) y) < E.w (E.back s.b d (iter (fun x => E.f (E.back s.b d x)) j y))) := by
    intro j
    rw [iter_succ]
    have h0 := hb j
    generalize iter (fun x => E.f (E.back s.b d x)) j y = u at h0 ⊢
    obtain ⟨e, e1, _, _, e4, e5, _⟩ := I.by_ u h0
    have hbk : E.back s.b d u = e := by unfold Net.back; rw [if_neg (by omega), e1]; rfl
    rw [hbk]
    exact ⟨by omega, fun h => by have := e5 h; omega⟩
  have htele := sumTo_tele (fun j => s.t (iter (fun x => E.f (E.back s.b d x)) j y)) k
  rw [hy] at htele
  have hz : sumTo (fun j => s.t (iter (fun x => E.f (E.back s.b d x)) j y) - s.t (iter (fun x => E.f (E.back s.b d x)) (j + 1) y)) k = 0 := by rw [htele]; simp [iter]
  rw [← hz]
  obtain ⟨j, hj, hmax⟩ := exists_max (fun j => s.lst (iter (fun x => E.f (E.back s.b d x)) j y)) k hk
  -- the one ahead of the latest
  have hcase : ∃ i, i < k ∧ iter (fun x => E.f (E.back s.b d x)) (i + 1) y = iter (fun x => E.f (E.back s.b d x)) j y := by
    cases j with
    | zero => exact ⟨k - 1, by omega, by rw [show k - 1 + 1 = k by omega, hy]; rfl⟩
    | succ j => exact ⟨j, by omega, rfl⟩
  obtain ⟨i, hi, he⟩ := hcase
  refine sumTo_lt hi (fun i _ => (key i).1) ((key i).2 ?_)
  have h1 := hmax i hi
  rw [he]
  by_cases h2 : s.lst (iter (fun x => E.f (E.back s.b d x)) i y) = s.lst (iter (fun x => E.f (E.back s.b d x)) j y)
  · exact .inr (I.inj_ _ _ (hb i) (hb j) h2).symm
  · exact .inl (by omega)
end
end Go.Lite
