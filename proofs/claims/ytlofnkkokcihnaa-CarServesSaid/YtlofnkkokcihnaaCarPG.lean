/-
  The program's least fuel and the document's search compute what their words say.
-/
import Derived.Test.YtlofnkkokcihnaaCarPF
namespace Go.Proofs.Ytlofnkkokcihnaa
open Go.Lite

theorem take_tabI {n : Nat} {f : Nat → Int} : (tabI n f).take n = tabI n f := List.take_of_length_le (by rw [len_tabI]; omega)
theorem out_nonneg {t r s : Int} {l : List (List D)} (h : tankP t r s l) {j : Nat} (hj : j < l.length) : 0 ≤ outAt l r s j := by
  cases j with
  | zero => exact (sum_rng h hj).2.1
  | succ j =>
    have := sum_mono h hj
    simp only [outAt]; omega
theorem upTo_zero {l : List (List D)} {r s : Int} : upTo l r s 0 = tabI l.length fun _ => 0 := tabI_congr fun j _ => by rw [if_neg (Nat.not_lt_zero j)]
theorem outTo_zero {l : List (List D)} {r s : Int} : outTo l r s 0 = tabI l.length fun _ => 0 := tabI_congr fun j _ => by rw [if_neg (Nat.not_lt_zero j)]
set_option maxRecDepth 100000 in
theorem ok25 (n : Nat) : FnOK C (n + 6) 25 (mkF s25 G25) := by
  refine fn_of hC (sp := sp25) (lp := lp25) ⟨ok58 n, ok59 (n + 4), trivial⟩ (by kernel_rfl) [8, 15, 21] (by kernel_rfl) (by kernel_rfl) (fun k hk L hL => by
    simp only [List.mem_cons, List.not_mem_nil, or_false] at hk
    rcases hk with rfl | rfl | rfl <;> cases hL
    · exact ok25_8 n
    · exact ok25_15 n
    · exact ok25_21 n) fun ds rr h => ?_
  unfold G25 at h
  split at h
  · rename_i t r s l
    obtain ⟨hp, h⟩ := need_some h
    rw [yes_iff] at hp
    refine (congrArg T.run (t25 t r s l)).trans ?_
    simp only [Int.toNat_natCast, Int.toNat_zero, tabI_zero, len_tabI, Nat.sub_zero]
    refine go_yes hp (go_not (fun hc => ?_) (fun hc => ?_))
    · rw [run_ite, hc] at h
      exact h
    · rw [run_ite, hc] at h
      have h : (T.ite (fuelOk t.I r.I s.I l.L) (T.leaf [D.i 1, D.i ↑l.L.length, D.i 0, D.l (outs l.L r.I s.I)]) (T.leaf [D.i 0, D.i 5])).run = some rr := h
      have ht : tankP t.I r.I s.I l.L := hc
      obtain ⟨h1, h2, h3, h4, h5⟩ := tank_of ht
      have w0 : IntKind.i64.wrap (r.I - s.I) = r.I - s.I := wrap_id (by omega) (by omega)
      have w1 : IntKind.i64.wrap ((l.L.length : Int) - 2) = (l.L.length : Int) - 2 := wrap_id (by omega) (by omega)
      rw [w0, w1]
      have e1 : upTo l.L r.I s.I l.L.length = downTo l.L r.I s.I ((l.L.length : Int) - 2) := by
        unfold upTo downTo
        refine tabI_congr fun j hj => ?_
        rw [if_pos hj]
        by_cases hj2 : (l.L.length : Int) - 2 < (j : Int)
        · rw [if_pos hj2]
          unfold sumAt
          rw [show l.L.length - 1 - j = 0 by omega]
          rfl
        · rw [if_neg hj2]
      have e2 : (outs l.L r.I s.I).length = l.L.length := len_tabI _ _
      have e3 : (outs l.L r.I s.I).take l.L.length = outs l.L r.I s.I := take_tabI
      rw [e3]
      refine go_dec ⟨by omega, by trivial, by omega, by rw [bytes3]; omega⟩ (go_yes ⟨ht, by trivial, by trivial, by trivial, by trivial, by omega, by omega, by trivial, by trivial, upTo_zero.symm⟩ (go_yes ⟨ht, by trivial, by trivial, by omega, by omega, e1⟩ (go_dec ⟨by omega, by trivial, by omega, by rw [bytes3]; omega⟩ (go_yes ⟨ht, by trivial, by trivial, by trivial, by omega, by omega, by trivial, outTo_zero.symm, by trivial⟩ ?_))))
      refine go_ite (fun ha => ?_) (fun ha => ?_)
      · have hpre : tankPre t.I r.I l.L (outs l.L r.I s.I) := by
          simp only [tankP, tankOk, Bool.and_eq_true, decide_eq_true_eq] at ht
          exact ⟨by omega, by omega, e2, h4, ht.2⟩
        have ham : allFrom (amOk l.L (outs l.L r.I s.I)) 0 l.L.length = true := by
          rw [allFrom_iff] at ha ⊢
          intro j hj hj2
          have hjl : j < l.L.length := by omega
          have := ha j hj hj2
          simp only [outOk, decide_eq_true_eq] at this
          have g := tabI_get (f := outAt l.L r.I s.I) hjl
          unfold amOk outs
          rw [g, Lite.within_iff]
          exact ⟨out_nonneg hc hjl, this⟩
        refine go_dec (by omega) (go_yes ⟨hpre, ham, by unfold bounds; omega⟩ ?_)
        have hf : fuelOk t.I r.I s.I l.L = safeFrom t.I r.I l.L (outs l.L r.I s.I) 0 l.L.length s.I s.I := by
          unfold fuelOk; rw [ha, Bool.true_and]
        rw [hf] at h
        refine go_not (fun hs => ?_) (fun hs => ?_)
        · rw [run_ite, hs] at h
          exact h
        · rw [run_ite, hs] at h
          exact h
      · have hf : fuelOk t.I r.I s.I l.L = false := by unfold fuelOk; rw [ha, Bool.false_and]
        rw [run_ite, hf] at h
        exact h
  · cases h

/-! ### The document's search -/
theorem ints_mkI (A : List Int) : ints (mkI A) = A := by
  unfold ints mkI
  rw [List.map_map]
  exact (List.map_congr_left fun a _ => rfl).trans (List.map_id _)
theorem len_ints (l : List (List D)) : (ints l).length = l.length := by simp [ints]
theorem len_mkI (A : List Int) : (mkI A).length = A.length := by simp [mkI]
theorem ix_mkI (A : List Int) (j : Nat) : ix ((mkI A).getD j []) 0 = A.getD j 0 := by
  unfold mkI
  simp only [List.getD_eq_getElem?_getD, List.getElem?_map]
  cases A[j]? <;> rfl
theorem set_mkI (A : List Int) (k : Nat) (v : Int) : (mkI A).set k [.i v] = mkI (A.set k v) := by
  unfold mkI; rw [List.map_set]
theorem amts_set {l : List (List D)} {A : List Int} (h : amts l A) {k : Nat} {v : Int} (hv : 0 ≤ v ∧ v ≤ fillOf l k) : amts l (A.set k v) := by
  refine ⟨by rw [List.length_set]; exact h.1, fun j hj => ?_⟩
  simp only [List.getD_eq_getElem?_getD, List.getElem?_set]
  by_cases hkj : k = j
  · subst hkj
    rw [if_pos rfl, if_pos (by rw [h.1]; exact hj)]
    exact hv
  · rw [if_neg hkj]
    have := h.2 j hj
    simpa only [List.getD_eq_getElem?_getD] using this

theorem ok27_7 (n : Nat) : LoopSim C (n + 2) 27 (loopOf C.P 27 7) (mkL l27_7 G27_7) := by
  refine loop_of hC (sp := sp27) (lp := lp27) ⟨ok33 n, trivial⟩ [] (by kernel_rfl) rfl (fun k hk => by cases hk) (by kernel_rfl) (fun ds => ((ds.getD 5 default).I + 1 - (ds.getD 7 default).I).toNat) fun ds rr h => ?_
  unfold G27_7 at h
  split at h
  · rename_i t r s l m i w k row
    obtain ⟨hp, h⟩ := need_some h
    rw [yes_iff] at hp
    obtain ⟨h1, h2, h3, h4, h5, h6, h7, h8, h9, h10⟩ := hp
    obtain ⟨t1, t2, t3, t4, t5⟩ := tank_of h1
    refine ⟨by rw [fuelC]; simp; omega, ?_⟩
    rw [show roundT C (mkTab sp27 lp27) 27 (loopOf C.P 27 7) l27_7 [t, r, s, l, m, i, w, k, row] = _ from t27_7 t r s l m i w k row]
    obtain ⟨x, hx⟩ : ∃ x : Nat, k.I = x := ⟨k.I.toNat, by omega⟩
    obtain ⟨y, hy⟩ : ∃ y : Nat, i.I = y := ⟨i.I.toNat, by omega⟩
    generalize hA : ints row.L = A at *
    rw [h9] at h ⊢
    have hlen : (mkI A).length = l.L.length := by rw [len_mkI, h10.1]
    simp only [hx, hy, h2, Int.toNat_natCast, ix_def, Nat.zero_add, ix_mkI] at h ⊢
    refine rd_if (fun hle => ?_) fun hle => ?_
    · have hxl : x < l.L.length := by omega
      have b1 := h10.2 x hxl
      have b2 := t5 x hxl
      have e1 : mostOf l.L x = ix (l.L.getD x []) 1 := rfl
      have w1 : IntKind.i64.wrap (w.I + A.getD x 0) = w.I + A.getD x 0 := wrap_id (by omega) (by omega)
      have w2 : IntKind.i64.wrap (w.I + A.getD x 0 - ix (l.L.getD x []) 1) = w.I + A.getD x 0 - mostOf l.L x := wrap_id (by omega) (by omega)
      rw [w1, w2, wrap_succ (by omega)]
      refine rd_dec ⟨by omega, by omega⟩ (rd_dec (by omega) (rd_dec ⟨by omega, by omega⟩ (rd_again ?_ ?_)))
      · refine (need_yes ⟨h1, rfl, by simp only [I_i]; omega, by simp only [I_i, L_l]; omega, by simp only [I_i]; omega, by simp only [I_i]; omega, by simp only [I_i]; omega, by simp only [I_i]; omega, by simp only [L_l, ints_mkI], by simp only [L_l, ints_mkI]; exact h10⟩).trans ?_
        simp only [I_i, L_l, ints_mkI, Int.toNat_natCast]
        rw [show y + 1 - x = (y + 1 - (x + 1)) + 1 by omega] at h
        exact h
      · show (((y : Int)) + 1 - ((x + 1 : Nat) : Int)).toNat < (i.I + 1 - k.I).toNat
        omega
    · rw [show y + 1 - x = 0 by omega] at h
      exact rd_out h
  · cases h
theorem ok27_16 (n : Nat) : LoopSim C (n + 2) 27 (loopOf C.P 27 16) (mkL l27_16 G27_16) := by
  refine loop_of hC (sp := sp27) (lp := lp27) ⟨ok33 n, trivial⟩ [] (by kernel_rfl) rfl (fun k hk => by cases hk) (by kernel_rfl) (fun ds => (((ds.getD 3 default).L.length : Int) - (ds.getD 10 default).I).toNat) fun ds rr h => ?_
  unfold G27_16 at h
  split at h
  · rename_i t r s l m i w k room high j row
    obtain ⟨hp, h⟩ := need_some h
    rw [yes_iff] at hp
    obtain ⟨h1, h2, h3, h4, h5, h6, h7, h8, h9, h10, h11, h12⟩ := hp
    obtain ⟨t1, t2, t3, t4, t5⟩ := tank_of h1
    refine ⟨by rw [fuelC]; simp; omega, ?_⟩
    rw [show roundT C (mkTab sp27 lp27) 27 (loopOf C.P 27 16) l27_16 [t, r, s, l, m, i, w, k, room, high, j, row] = _ from t27_16 t r s l m i w k room high j row]
    obtain ⟨x, hx⟩ : ∃ x : Nat, k.I = x := ⟨k.I.toNat, by omega⟩
    obtain ⟨y, hy⟩ : ∃ y : Nat, i.I = y := ⟨i.I.toNat, by omega⟩
    obtain ⟨z, hz⟩ : ∃ z : Nat, j.I = z := ⟨j.I.toNat, by omega⟩
    generalize hA : ints row.L = A at *
    rw [h11] at h ⊢
    have hlen : (mkI A).length = l.L.length := by rw [len_mkI, h12.1]
    simp only [hx, hy, hz, h2, Int.toNat_natCast, ix_def, ix_mkI] at h ⊢
    have fin : ∀ (room' : Int) (v : Int), v = (if x ≤ z ∧ z ≤ y then min room.I (t.I - (high.I + A.getD z 0)) else room.I) → room' = v → z < l.L.length →
        (G27_16 [.i t.I, .i r.I, .i s.I, .l l.L, .i l.L.length, .i y, .i w.I, .i x, .i room', .i (high.I + A.getD z 0 - leastOf l.L z), .i (z + 1 : Nat), .l (mkI A)]).run = some rr := by
      intro room' v hv hr hzl
      have b1 := h12.2 z hzl
      have b2 := t5 z hzl
      refine (need_yes ⟨h1, rfl, by simp only [I_i]; omega, by simp only [I_i, L_l]; omega, by simp only [I_i]; omega, by simp only [I_i]; omega, by simp only [I_i]; omega, by simp only [I_i, L_l]; omega, by simp only [I_i]; omega, by simp only [I_i]; omega, by simp only [L_l, ints_mkI], by simp only [L_l, ints_mkI]; exact h12⟩).trans ?_
      simp only [I_i, L_l, ints_mkI, Int.toNat_natCast]
      rw [show l.L.length - z = (l.L.length - (z + 1)) + 1 by omega] at h
      simp only [roomFrom] at h
      rw [hr, hv]
      exact h
    refine rd_if (fun hle => ?_) fun hle => ?_
    · have hzl : z < l.L.length := by omega
      have b1 := h12.2 z hzl
      have b2 := t5 z hzl
      have e1 : leastOf l.L z = ix (l.L.getD z []) 0 := rfl
      have w1 : IntKind.i64.wrap (high.I + A.getD z 0) = high.I + A.getD z 0 := wrap_id (by omega) (by omega)
      have w2 : IntKind.i64.wrap (high.I + A.getD z 0 - ix (l.L.getD z []) 0) = high.I + A.getD z 0 - leastOf l.L z := wrap_id (by omega) (by omega)
      have w3 : IntKind.i64.wrap (t.I - (high.I + A.getD z 0)) = t.I - (high.I + A.getD z 0) := wrap_id (by omega) (by omega)
      rw [w1, w2, w3, wrap_succ (by omega)]
      have hμ : (((l.L.length : Int)) - ((z + 1 : Nat) : Int)).toNat < (((l.L.length : Int)) - j.I).toNat := by omega
      refine rd_dec ⟨by omega, by omega⟩ (rd_dec (by omega) (rd_if (fun c1 => rd_if (fun c2 => rd_dec ⟨by omega, by omega⟩ (rd_again (fin _ _ rfl ?_ hzl) hμ)) (fun c2 => rd_dec ⟨by omega, by omega⟩ (rd_again (fin _ _ rfl ?_ hzl) hμ))) (fun c1 => rd_dec ⟨by omega, by omega⟩ (rd_again (fin _ _ rfl ?_ hzl) hμ))))
      · rw [if_pos (show x ≤ z ∧ z ≤ y from ⟨by omega, by omega⟩)]
        omega
      · rw [if_neg (show ¬ (x ≤ z ∧ z ≤ y) by omega)]
      · rw [if_neg (show ¬ (x ≤ z ∧ z ≤ y) by omega)]
    · rw [show l.L.length - z = 0 by omega] at h
      exact rd_out h
  · cases h
end Go.Proofs.Ytlofnkkokcihnaa
