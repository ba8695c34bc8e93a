/-
  The law of tables that keep a plan: what the program's check and the document's check say is the same, and each car is due when it should be.
-/
import Derived.Test.YtipbcpobnciccaaTimTreeV
import Derived.Test.YtipbcpobnciccaaTimPU
import Derived.Test.YtipbcpobnciccaaTimR1
import Derived.Test.YtipbcpobnciccaaKnown
import Derived.Test.YtipbcpobnciccaaTimetableFitsOver
namespace Go.Proofs.Ytipbcpobnciccaa
open Go.Lite
set_option maxRecDepth 100000

theorem all_and {p q : Nat → Bool} (n : Nat) : allFrom (fun j => p j && q j) 0 n = (allFrom p 0 n && allFrom q 0 n) := by
  rw [Bool.eq_iff_iff, Bool.and_eq_true, allFrom_iff, allFrom_iff, allFrom_iff]
  constructor
  · intro h
    exact ⟨fun j h1 h2 => by have := h j h1 h2; rw [Bool.and_eq_true] at this; exact this.1, fun j h1 h2 => by have := h j h1 h2; rw [Bool.and_eq_true] at this; exact this.2⟩
  · rintro ⟨h1, h2⟩ j h3 h4
    rw [Bool.and_eq_true]
    exact ⟨h1 j h3 h4, h2 j h3 h4⟩
theorem next_all (c : Int) (w du : List (List D)) (n : Nat) : allFrom (nextR c w du) 0 (n + 1) = allFrom (nextB c w du) 0 n := by
  rw [Bool.eq_iff_iff, allFrom_iff, allFrom_iff]
  constructor
  · intro h j _ h2
    exact h (j + 1) (Nat.zero_le _) (by omega)
  · intro h j _ h2
    cases j with
    | zero => rfl
    | succ j => exact h j (Nat.zero_le _) (by omega)
/-- Both checks say the same. -/
theorem fits_same {c f : Int} {w du cl op ch : List (List D)} (hp : planB c f w = true) : fitsP c f w du cl op ch = fitsR c f w du cl op ch := by
  unfold fitsP fitsR
  rw [hp, Bool.true_and, next_all, all_and]
theorem ok14_9 : LoopSim C 12 14 (loopOf C.P 14 9) (mkL l14_9 G14_9) := by
  refine loop_ofK hC (sp := sp14) (lp := lp14) (sw := sw14) ⟨ok25 11, ok37 11, ok16, ok44 4, ok38 4, ok26 10, ok27 9, trivial⟩ trivial 0 [] (by kernel_rfl) rfl (fun k hk => by cases hk) (by kernel_rfl) (fun ds => (((ds.getD 11 default).L.length : Int) - (ds.getD 7 default).I).toNat) fun ds rr hh => ?_
  unfold G14_9 at hh
  split at hh
  · rename_i car at' fb a b e ok i c f w du cl op ch
    obtain ⟨hp, hh⟩ := need_some hh
    rw [yes_iff] at hp
    obtain ⟨hl, hi0, hi1⟩ := hp
    refine ⟨by rw [fuelC]; simp; omega, ?_⟩
    rw [show roundTK C (mkTab sp14 lp14 sw14) 14 (loopOf C.P 14 9) 0 l14_9 [car, at', fb, a, b, e, ok, i, c, f, w, du, cl, op, ch] = _ from t14_9 car at' fb a b e ok i c f w du cl op ch]
    obtain ⟨k, hk⟩ : ∃ k : Nat, i.I = k := ⟨i.I.toNat, by omega⟩
    simp only [hk, Int.toNat_natCast, rg_def] at hh hi0 hi1 ⊢
    refine rd_if (fun hlt => ?_) fun hge => ?_
    · have hkl : k < du.L.length := by omega
      rw [wrap_succ (by omega)]
      have hmu : ((du.L.length : Int) - ((k + 1 : Nat) : Int)).toNat < ((du.L.length : Int) - i.I).toNat := by omega
      rw [show du.L.length - k = (du.L.length - (k + 1)) + 1 by omega] at hh
      simp only [allFrom] at hh
      have go : ∀ q : Bool, (ok.B && timeL du.L k) = q → (G14_9 [.i car.I, .i at'.I, .b fb.B, .i a.I, .i b.I, .i e.I, .b q, .i ((k + 1 : Nat) : Int), .i c.I, .i f.I, .l w.L, .l du.L, .l cl.L, .l op.L, .l ch.L]).run = some rr := fun q e => by
        refine (need_yes ⟨hl, by simp only [I_i]; omega, by simp only [I_i, L_l]; omega⟩).trans ?_
        rw [← hh, ← Bool.and_assoc, e]
        rfl
      refine rd_ite (fun k1 => rd_dec (by omega) (rd_if (fun k2 => rd_dec (by omega) (rd_again (go _ ?_) hmu)) fun k2 => rd_again (go _ ?_) hmu)) fun k1 => rd_again (go _ ?_) hmu
      · rw [k1, Bool.true_and]
        unfold timeL
        by_cases k3 : rg du.L k ≤ 1000000000
        · rw [decide_eq_true k3, decide_eq_true (by omega)]
        · rw [decide_eq_false k3, decide_eq_false (by omega)]
      · unfold timeL
        rw [decide_eq_false (show ¬ (0 ≤ rg du.L k ∧ rg du.L k ≤ 1000000000) by omega), Bool.and_false]
      · rw [k1, Bool.false_and]
    · rw [show du.L.length - k = 0 by omega] at hh
      simp only [allFrom, Bool.and_true] at hh
      exact rd_out hh
  · cases hh
theorem law14 {a b c d e f g h i : D} : (fnT C tab14 14 s14 [a, b, c, d, e, f, g, h, i]).run = some [D.b true] := by
  have hbig := big_eq
  refine (congrArg T.run (t14 a b c d e f g h i)).trans ?_
  refine go_not (fun _ => rfl) fun h1 => go_not (fun _ => rfl) fun h2 => ?_
  unfold briefT at h2
  have h2 := of_decide_eq_true h2
  refine go_yes ⟨by omega, by omega, by omega, by omega⟩ (go_yes (by omega) (go_ite (fun hd => ?_) fun hd => ?_))
  · have hd' := hd
    unfold dueB at hd'
    rw [Bool.and_eq_true, Bool.and_eq_true, decide_eq_true_eq] at hd'
    obtain ⟨hp, ht, hc, hr⟩ := hd'
    have hpl := plan_of hp
    have hw1 : IntKind.i64.wrap ((c.L.length : Int) + 1) = ((c.L.length + 1 : Nat) : Int) := wrap_succ (by omega)
    obtain ⟨t1, t2⟩ := timed_of ht
    have d0 : 0 ≤ ix (d.L.getD i.I.toNat []) 0 ∧ ix (d.L.getD i.I.toNat []) 0 ≤ 1000000000 := t2 _ (by omega)
    have w0 := wayC_of (way_of hp (k := i.I.toNat) (by omega)).1
    have hm : 0 ≤ h.I * ix (c.L.getD i.I.toNat []) 3 ∧ h.I * ix (c.L.getD i.I.toNat []) 3 ≤ 12000 := by
      constructor
      · exact Int.mul_nonneg (by omega) (by omega)
      · have := Int.mul_le_mul (show h.I ≤ 200 by omega) (show ix (c.L.getD i.I.toNat []) 3 ≤ 60 by omega) (by omega) (by omega)
        omega
    simp only [Nat.reduceAdd, ix_def]
    have e1 : dueF c.L d.L h.I i.I.toNat = ix (d.L.getD i.I.toNat []) 0 + h.I * ix (c.L.getD i.I.toNat []) 3 := rfl
    rw [wrap_id (x := h.I * ix (c.L.getD i.I.toNat []) 3) (by omega) (by omega), wrap_id (x := ix (d.L.getD i.I.toNat []) 0 + h.I * ix (c.L.getD i.I.toNat []) 3) (by omega) (by omega), ← e1, wrap_id (x := dueF c.L d.L h.I i.I.toNat + ix (c.L.getD i.I.toNat []) 0) (by omega) (by omega), hw1]
    refine go_notT hp (go_yes ⟨by omega, by first | trivial | omega, by omega⟩ (go_yes ⟨hp, by omega, by omega, by omega, by omega⟩ (go_false (by rw [fits_same hp]; simp) ?_)))
    have ht3 : (((d.L.length : Int) == ((c.L.length + 1 : Nat) : Int)) && allFrom (timeL d.L) (Int.toNat 0) (d.L.length - Int.toNat 0)) = true := by
      rw [Bool.and_eq_true, beq_iff_eq, allFrom_iff]
      exact ⟨by omega, fun j _ hj => by unfold timeL; exact decide_eq_true (t2 j (by have : Int.toNat 0 = 0 := rfl; omega))⟩
    exact go_notT ht3 (go_neg (by omega) (go_neg (by omega) (go_neg (by omega) (go_neg (by omega) (go_dec (by omega) (go_true rfl (go_dec (by omega) (go_true (beq_self_eq_true _) (go_true (beq_self_eq_true _) rfl)))))))))
  · cases hp : planB a.I b.I c.L with
    | false =>
      have hf : fitsP a.I b.I c.L d.L e.L f.L g.L = false := by unfold fitsP; rw [hp]; rfl
      exact go_notF rfl (go_notF hf (go_true rfl (go_true rfl (go_true rfl rfl))))
    | true =>
      have hpl := plan_of hp
      have hw1 : IntKind.i64.wrap ((c.L.length : Int) + 1) = ((c.L.length + 1 : Nat) : Int) := wrap_succ (by omega)
      rw [hw1]
      refine go_notT rfl (go_yes ⟨by omega, by first | trivial | omega, by omega⟩ (go_yes ⟨rfl, by omega, by omega, by omega, by omega⟩ (go_false (by rw [fits_same hp]; simp) ?_)))
      refine go_not (fun _ => go_true rfl (go_true rfl (go_true rfl rfl))) fun k1 => go_if (fun _ => go_true rfl (go_true rfl (go_true rfl rfl))) fun k2 => go_if (fun _ => go_true rfl (go_true rfl (go_true rfl rfl))) fun k3 =>
        go_if (fun _ => go_true rfl (go_true rfl (go_true rfl rfl))) fun k4 => go_if (fun _ => go_true rfl (go_true rfl (go_true rfl rfl))) fun k5 => ?_
      rw [Bool.and_eq_true, beq_iff_eq] at k1
      have : dueB a.I b.I c.L d.L h.I i.I = true := by
        unfold dueB timedB
        rw [hp, Bool.true_and, Bool.and_eq_true, Bool.and_eq_true, decide_eq_true_eq, decide_eq_true_eq]
        exact ⟨⟨by omega, k1.2⟩, by omega⟩
      rw [this] at hd
      cases hd
theorem timetableFits_law : timetableFitsLaw := fun xs hx =>
  law_cases (f := 14) (ks := s14.args) (by kernel_rfl) (ts := [38, 45, 3, 3]) (by kernel_rfl) (of_decide_eq_true (by kernel_rfl)) (m := 9) (by kernel_rfl) (fun ds hl _ => by
      match ds, hl with
      | [a, b, c, d, e, f, g, h, i], _ =>
        exact case_of (sp := sp14) (lp := lp14) (sw := sw14) 12 ⟨ok25 11, ok37 11, ok16, ok44 4, ok38 4, ok26 10, ok27 9, trivial⟩ trivial [9] (by kernel_rfl) (by kernel_rfl) (fun k hk L hL => by simp at hk; subst hk; cases hL; exact ok14_9) law14) 12 xs hx
/-- The statement of TimetableFits holds, for all inputs. -/
theorem timetable_fits : Rows.TimetableFitsSaid := timetableFits_over timetableFits_law
end Go.Proofs.Ytipbcpobnciccaa
