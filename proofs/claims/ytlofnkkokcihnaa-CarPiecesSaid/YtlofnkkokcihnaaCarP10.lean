/-
  The law of loops in two pieces holds for every input.
-/
import Derived.Test.YtlofnkkokcihnaaCarPT
import Derived.Test.YtlofnkkokcihnaaCarTree10
import Derived.Test.YtlofnkkokcihnaaCarK
import Derived.Test.YtlofnkkokcihnaaCarP3
import Derived.Test.YtlofnkkokcihnaaCarPiecesOver
namespace Go.Proofs.Ytlofnkkokcihnaa
open Go.Lite

theorem loopOk_take {l : List (List D)} {n : Int} (h : loopOk l n = true) (k : Nat) : loopOk (l.take k) n = true ∧ loopOk (l.drop k) n = true := by
  simp only [loopOk, Bool.and_eq_true, decide_eq_true_eq, allFrom_iff, stretchAt] at h ⊢
  refine ⟨⟨by simp; omega, fun j h1 h2 => ?_⟩, ⟨by simp; omega, fun j h1 h2 => ?_⟩⟩
  · have hj : j < (l.take k).length := by omega
    have := h.2 j (Nat.zero_le _) (by simp at hj; omega)
    have e : (l.take k).getD j [] = l.getD j [] := by
      simp only [List.getD_eq_getElem?_getD, List.getElem?_take]
      rw [if_pos (by simp at hj; omega)]
    rw [e]; exact this
  · have hj : j < (l.drop k).length := by omega
    have := h.2 (k + j) (Nat.zero_le _) (by simp at hj; omega)
    have e : (l.drop k).getD j [] = l.getD (k + j) [] := by
      simp only [List.getD_eq_getElem?_getD, List.getElem?_drop]
    rw [e]; exact this
theorem pieces_fact {dry wet wl : List (List D)} {loss w m : Int} {l : List (List D)} {k : Nat} (hp : drivePre dry wet wl loss l) (hk : k ≤ l.length) (h0 : 0 ≤ w) (h1 : 0 ≤ m) (h2 : w + m ≤ 1000000) :
    (0 ≤ (drive dry wet wl loss (l.take k) w).1 ∧ (drive dry wet wl loss (l.take k) w).1 ≤ 1000000) ∧
    (drive dry wet wl loss l w).2.1 = (drive dry wet wl loss (l.take k) w).2.1 + (drive dry wet wl loss (l.drop k) (drive dry wet wl loss (l.take k) w).1).2.1 ∧
    (0 ≤ (drive dry wet wl loss l w).2.1 ∧ (drive dry wet wl loss l w).2.1 ≤ 100000 * 30) ∧
    (drive dry wet wl loss l w).1 = (drive dry wet wl loss (l.drop k) (drive dry wet wl loss (l.take k) w).1).1 ∧
    (drive dry wet wl loss l w).2.1 ≤ (drive dry wet wl loss l (w + m)).2.1 ∧ ((drive dry wet wl loss l (w + m)).2.2 = true → (drive dry wet wl loss l w).2.2 = true) ∧
    (0 ≤ (drive dry wet wl loss l w).1 ∧ (drive dry wet wl loss l w).1 ≤ 1000000) := by
  have hf := fun c hc => (fine_of hp c hc).1
  have hb := fun c hc => (fine_of hp c hc).2
  simp only [drive_L]
  have e1 := driveL_append (dry := dry) (wet := wet) (wl := wl) (loss := loss) (l.take k) (l.drop k) w 0 true
  rw [List.take_append_drop] at e1
  obtain ⟨a1, a2, a3⟩ := driveL_sum (dry := dry) (wet := wet) (wl := wl) (loss := loss) (l.drop k) (driveL dry wet wl loss (l.take k) w 0 true).1 (driveL dry wet wl loss (l.take k) w 0 true).2.1 (driveL dry wet wl loss (l.take k) w 0 true).2.2
  obtain ⟨b1, b2⟩ := driveL_mono l w (w + m) 0 0 true true hf h0 (by omega) h2 (Int.le_refl _) (fun h => h)
  have b3 := driveL_bound l w 0 true hf hb h0 (by omega)
  have hlen := (stretch_of hp.2).1
  refine ⟨driveL_range _ _ _ _ (fun c hc => hf c (List.mem_of_mem_take hc)) h0 (by omega), by rw [e1, a2], ⟨by omega, by omega⟩, by rw [e1, a1], b1, b2, driveL_range _ _ _ _ hf h0 (by omega)⟩
theorem law10 (a b c d e f g h : D) (hle : e.L.length < lim) : (fnT C tab10 10 s10 [a, b, c, d, e, f, g, h]).run = some [D.b true] := by
  refine (congrArg T.run (t10 a b c d e f g h)).trans ?_
  have hb : big = 4611686018427387904 := rfl
  simp only [run_ite, run_need, run_leaf]
  by_cases hsh : shortOk a.L b.L c.L = true
  case neg => simp [hsh]
  obtain ⟨k1, k2, k3, k4, k5⟩ := small_of hsh
  have c2 := yes_true (p := a.L.length < big ∧ b.L.length < big ∧ c.L.length < big) ⟨k4, k5, k3⟩
  by_cases p1 : compoundOk a.L b.L c.L d.I = true
  case neg => simp [hsh, c2, p1]
  have hn : fewN (a.L.length : Int) := ⟨by omega, by have := (drive_comp p1).1; omega⟩
  have c3 := yes_true (p := fewN (a.L.length : Int) ∧ e.L.length < lim) ⟨hn, hle⟩
  by_cases p2 : loopOk e.L (a.L.length : Int) = true
  case neg => simp [hsh, c2, c3, p1, p2]
  by_cases q1 : f.I < 0
  case pos => simp [hsh, c2, c3, p1, p2, q1]
  by_cases q2 : f.I > e.L.length
  case pos => simp [hsh, c2, c3, p1, p2, q1, q2]
  by_cases q3 : g.I < 0
  case pos => simp [hsh, c2, c3, p1, p2, q1, q2, q3]
  by_cases q4 : h.I < 0
  case pos => simp [hsh, c2, c3, p1, p2, q1, q2, q3, q4]
  by_cases q5 : g.I > 1000000
  case pos => simp [hsh, c2, c3, p1, p2, q1, q2, q3, q4, q5]
  have w1 : IntKind.i64.wrap (1000000 - g.I) = 1000000 - g.I := wrap_id (by omega) (by omega)
  by_cases q6 : h.I > 1000000 - g.I
  case pos => simp [hsh, c2, c3, p1, p2, q1, q2, q3, q4, q5, q6, w1]
  have w2 : IntKind.i64.wrap (g.I + h.I) = g.I + h.I := wrap_id (by omega) (by omega)
  obtain ⟨k, hk⟩ : ∃ k : Nat, f.I = k := ⟨f.I.toNat, by omega⟩
  have hpre : drivePre a.L b.L c.L d.I e.L := ⟨p1, p2⟩
  have hkl : k ≤ e.L.length := by omega
  obtain ⟨f1, f2, f3, f4, f5, f6, f7⟩ := pieces_fact (k := k) hpre hkl (w := g.I) (m := h.I) (by omega) (by omega) (by omega)
  obtain ⟨t1, t2⟩ := loopOk_take p2 k
  have lp : ∀ (l : List (List D)) (w : Int), loopOk l (a.L.length : Int) = true → 0 ≤ w ∧ w ≤ 1000000 → yes (lossPre a.L b.L c.L d.I l w) = true := fun l w h1 h2 => yes_true ⟨k1, k2, k3, by simp [lossOk, p1, h1, Lite.within_iff, h2]⟩
  have g1 := lp e.L g.I p2 (by omega)
  have g2 := lp e.L (g.I + h.I) p2 (by omega)
  have g3 := lp (e.L.take k) g.I t1 (by omega)
  have g4 := lp (e.L.drop k) _ t2 f1
  have e1 : (e.L.drop k).take (e.L.length - k) = e.L.drop k := List.take_of_length_le (by simp)
  have w3 : IntKind.i64.wrap ((drive a.L b.L c.L d.I (e.L.take k) g.I).2.1 + (drive a.L b.L c.L d.I (e.L.drop k) (drive a.L b.L c.L d.I (e.L.take k) g.I).1).2.1) = (drive a.L b.L c.L d.I e.L g.I).2.1 := by rw [← f2]; exact wrap_id (by omega) (by omega)
  have w4 : IntKind.i64.wrap ((drive a.L b.L c.L d.I e.L g.I).1 - g.I) = (drive a.L b.L c.L d.I e.L g.I).1 - g.I := wrap_id (by omega) (by omega)
  have d1 : decide ((0 : Int) ≤ (k : Int) ∧ (k : Int) ≤ (e.L.length : Int)) = true := decide_eq_true ⟨by omega, by omega⟩
  have d2 : (drive a.L b.L c.L d.I e.L g.I).1 - g.I ≤ 1000000 := by omega
  simp only [hk, Int.toNat_natCast, Nat.sub_zero, List.drop_zero, e1, w1, w2] at q1 q2 ⊢
  simp only [w3, w4]
  simp only [hsh, c2, c3, p1, p2, q1, q2, q3, q4, q5, q6, g1, g2, g3, g4, d1, Bool.not_true, Bool.false_eq_true, if_false, if_true, decide_false, ← f4, beq_self_eq_true, f5, d2, decide_true, ge_iff_le]
  cases h6 : (drive a.L b.L c.L d.I e.L g.I).2.2 <;> cases h7 : (drive a.L b.L c.L d.I e.L (g.I + h.I)).2.2 <;> simp_all
theorem kinds10 : [25, 60, 3, 3, 3].flatMap (kindsL C.P) = [.ro [.ro [.int .i64, .int .i64]], .ro [.ro [.int .i64, .int .i64]], .ro [.int .i64], .int .i64, .ro [.int .i64, .int .i64, .int .i64, .bool], .int .i64, .int .i64, .int .i64] := by kernel_rfl
set_option maxRecDepth 100000 in
theorem carPieces_law : carPiecesLaw := fun xs hx =>
  law_true_wf hC (sp := sp10) (lp := lp10) (n := 12) ⟨ok15 11, ok18 9, ok37 10, ok16, ok35w 4, ok36w 4, trivial⟩ (by kernel_rfl) [] (by kernel_rfl) rfl (fun k hk => by cases hk)
    (ts := [25, 60, 3, 3, 3]) (ks := s10.args) (by kernel_rfl) (of_decide_eq_true (by kernel_rfl)) (m := 8) (by kernel_rfl) (fun ds hl hw => by
      match ds, hl with
      | [a, b, c, d, e, f, g, h], _ =>
        rw [kinds10] at hw
        simp only [WfC, WfK] at hw
        exact law10 a b c d e f g h (Nat.lt_of_le_of_lt hw.2.2.2.2.1.1 (by decide))) 12 xs hx
theorem car_pieces : Rows.CarPiecesSaid := carPieces_over carPieces_law
end Go.Proofs.Ytlofnkkokcihnaa
