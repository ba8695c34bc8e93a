/-
  The theorem of fuel holds for every input.
-/
import Derived.Test.YtlofnkkokcihnaaCarPJ
import Derived.Test.YtlofnkkokcihnaaCarK
import Derived.Test.YtlofnkkokcihnaaCarLeastOver
namespace Go.Proofs.Ytlofnkkokcihnaa
open Go.Lite

theorem law8 (a b c d e f : D) : (fnT C tab8 8 s8 [a, b, c, d, e, f]).run = some [D.b true] := by
  refine (congrArg T.run (t8 a b c d e f)).trans ?_
  have hb : big = 4611686018427387904 := rfl
  refine go_if (fun _ => rfl) fun h1 => go_if (fun _ => rfl) fun h2 => go_if (fun _ => rfl) fun h3 => go_not (fun _ => rfl) fun ht => ?_
  have hp : tankP a.I b.I c.I d.L := ht
  obtain ⟨t1, t2, t3, t4, t5⟩ := tank_of hp
  have e1 : (outs d.L b.I c.I).length = d.L.length := len_tabI _ _
  have e2 : (outs d.L b.I c.I).take d.L.length = outs d.L b.I c.I := take_tabI
  simp only [Int.toNat_natCast, e1, e2, ht, Bool.true_and, Int.toNat_zero]
  refine go_yes ⟨by omega, by omega⟩ (go_yes (by omega) (go_true rfl ?_))
  -- what the other amounts are, if they are safe
  have hsafe : ∀ am : List (List D), (decide (am.length = d.L.length) && allFrom (amOk d.L am) 0 am.length && safeFrom a.I b.I d.L am 0 d.L.length c.I c.I) = true → SafeP a.I b.I c.I d.L am := fun am h => by
    simp only [Bool.and_eq_true, decide_eq_true_eq] at h
    refine ⟨h.1.1, fun j hj => ?_⟩
    exact safe_P h.1.1 (by rw [← h.1.1]; exact h.1.2) d.L.length 0 (by omega) h.2 j (Nat.zero_le _) hj
  have hsafe' : ∀ am : List (List D), SafeP a.I b.I c.I d.L am → (decide (am.length = d.L.length) && allFrom (amOk d.L am) 0 am.length && safeFrom a.I b.I d.L am 0 d.L.length c.I c.I) = true := fun am h => by
    simp only [Bool.and_eq_true, decide_eq_true_eq]
    exact ⟨⟨h.1, allFrom_iff.2 fun j h1 h2 => (h.2 j (by have := h.1; omega)).1⟩, P_safe h d.L.length 0 (by omega)⟩
  have hsm : ∀ am : List (List D), SafeP a.I b.I c.I d.L am → am.length ≤ 1000 ∧ allFrom (fun j => within (ix (am.getD j []) 0) (-1000000) 1000000) 0 am.length = true := fun am h => by
    refine ⟨by have := h.1; omega, allFrom_iff.2 fun j h1 h2 => ?_⟩
    have hj : j < d.L.length := by have := h.1; omega
    have := (h.2 j hj).1
    unfold amOk at this
    rw [Lite.within_iff] at this ⊢
    have h5 := (t5 j hj).2.2
    have e3 : fillOf d.L j = ix (d.L.getD j []) 2 := rfl
    omega
  refine go_ite (fun hf => ?_) fun hf => ?_
  · have hP := outs_P hp hf
    have hs := hsafe' _ hP
    have hm := hsm _ hP
    rw [e1] at hs hm
    refine go_false rfl (go_false (by simp) (go_dec (by omega) (go_yes ⟨by omega, by omega⟩ (go_notT (by simpa using hs) ?_))))
    refine go_ite (fun ho => ?_) fun ho => ?_
    · have hO := hsafe _ ho
      have hmo := hsm _ hO
      have hl := hO.1
      obtain ⟨-, hS⟩ := least_of hp hO
      refine go_false (by simp [hl]) (go_yes ⟨c.I, hp, by trivial, hP, by omega, by omega, by exact Int.le_refl _, by exact Int.le_refl _⟩ (go_notT ho (go_yes hmo (go_dec (by omega) (go_yes hm ?_)))))
      have hsum : sumFrom e.L 0 e.L.length ≥ sumFrom (outs d.L b.I c.I) 0 d.L.length ∧ (∀ m, d.L.length = m + 1 → sumFrom e.L 0 e.L.length = cum (ints e.L) m ∧ sumFrom (outs d.L b.I c.I) 0 d.L.length = sumAt d.L b.I c.I m) := by
        rw [hl]
        cases hn : d.L.length with
        | zero => exact ⟨by simp [sumFrom], fun m hm => by omega⟩
        | succ n =>
          rw [sum_cum (a := ints e.L) (fun j => ints_get j), sum_cum (a := (List.range d.L.length).map (outAt d.L b.I c.I)) outs_get, cum_outs n (by omega)]
          have := hS n (by omega)
          refine ⟨this, fun m hm => ?_⟩
          obtain rfl : m = n := by omega
          exact ⟨rfl, rfl⟩
      refine go_ite (fun hne => ?_) fun hne => ?_
      · have hne' : sumFrom e.L 0 e.L.length ≠ sumFrom (outs d.L b.I c.I) 0 d.L.length := by simpa using hne
        exact go_yes hmo (go_dec (by omega) (go_yes hm (go_pos (by omega) rfl)))
      · have hne' : sumFrom e.L 0 e.L.length = sumFrom (outs d.L b.I c.I) 0 d.L.length := by simpa using hne
        have w : IntKind.i64.wrap ((d.L.length : Int) - 1) = (d.L.length : Int) - 1 := wrap_id (by omega) (by omega)
        rw [w, show ((d.L.length : Int) - 1 + 1).toNat = d.L.length by omega]
        have hmore : moreAt e.L (outs d.L b.I c.I) d.L.length = true := more_of hS d.L.length (Nat.le_refl _) fun m hm => by
          have := hsum.2 m hm
          omega
        rw [hmore]
        refine go_yes ⟨by trivial, hl, by omega, by omega, by omega⟩ ?_
        exact go_ite (fun _ => rfl) fun _ => rfl
    · refine go_yes ⟨c.I, hp, by trivial, hP, by omega, by omega, by exact Int.le_refl _, by exact Int.le_refl _⟩ (go_notF ho rfl)
  · have ho : (decide (e.L.length = d.L.length) && allFrom (amOk d.L e.L) 0 e.L.length && safeFrom a.I b.I d.L e.L 0 d.L.length c.I c.I) = false := Bool.eq_false_iff.2 fun ho => by
      have := (least_of hp (hsafe _ ho)).1
      rw [this] at hf; cases hf
    refine go_true rfl (go_true rfl ?_)
    rw [ho]
    rfl
set_option maxRecDepth 100000 in
theorem carLeast_law : carLeastLaw := fun xs hx =>
  have hA : AllOK C 12 sp8 := ⟨ok26 10, ok16, ok32 6, ok25 6, ok34 11, trivial⟩
  law_true hC (sp := sp8) (lp := lp8) (n := 12) hA (by kernel_rfl) [11, 27] (by kernel_rfl) (by kernel_rfl) (fun k hk L hL => by
    simp only [List.mem_cons, List.not_mem_nil, or_false] at hk
    rcases hk with rfl | rfl <;> cases hL
    · exact ok8_11 12 hA
    · exact ok8_27 12 hA)
    (ts := [3, 3, 3, 44, 23, 23]) (ks := s8.args) (by kernel_rfl) (of_decide_eq_true (by kernel_rfl)) (m := 6) (by kernel_rfl) (fun ds hl => by
      match ds, hl with
      | [a, b, c, d, e, f], _ => exact law8 a b c d e f) 12 xs hx
theorem car_least : Rows.CarLeastSaid := carLeast_over carLeast_law
end Go.Proofs.Ytlofnkkokcihnaa
