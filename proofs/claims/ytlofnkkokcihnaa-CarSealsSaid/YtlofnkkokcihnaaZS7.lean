/-
  The statement of CarSeals holds for every input; what it rests on stands in the parts before.
-/
import Derived.Test.YtlofnkkokcihnaaZS6
import Derived.Test.YtlofnkkokcihnaaRows
namespace Go.Proofs.Ytlofnkkokcihnaa
open Go.Lite Go.ChangeShapes Go.WideShapes Go.ChangeAt Go.RowKit
theorem kids : Kids Try.prog (· < Try.prog.types.size) := kids_rows (by kernel_rfl) (by kernel_rfl)
theorem full : ∀ t e, t < Try.prog.types.size → Try.prog.underlying t = some (.slice e) → 0 < Try.prog.cellsOf e := slices_full_of Try.prog (by kernel_rfl)
end Go.Proofs.Ytlofnkkokcihnaa
namespace Go.Proofs.Ytlofnkkokcihnaa
open Go.Lite Go.ChangeShapes Go.WideShapes Go.ChangeAt Go.RowKit
def carSealsLaw : Prop := ∀ xs : List AV, ArgsShape Try.prog 12 [74] xs → ∃ n h', callA C n Unit none 13 xs [] () = some (.bool true, h', ())
theorem carSeals_plain : ∀ t ∈ [74], plainTy Try.prog 12 t = true := by
  intro t ht
  have h : [74].all (plainTy Try.prog 12) = true := by kernel_rfl
  exact List.all_eq_true.1 h t ht
set_option maxRecDepth 100000 in
theorem carSeals_lifted (law : carSealsLaw) (os : Os) (started : os.Started) (H : Type) (enc : TypeId × Value → H) :
    ReturnsInHanded {} Try.checked os 13 .any (Rows.carSealsSpec.pre6 enc Try.prog Try.f13 Rows.carSealsRow.domain false) (Rows.carSealsSpec.post enc Try.prog Try.f13 false true false false) := by
  refine returnsInHanded_of_change (C := Try.checked) own started (by kernel_rfl) Try.func13
    (ChangeSpec.witness6 (enc := enc) (C := Try.checked) false ⟨#[], #[.slice none 0 0], []⟩ 8 (by kernel_rfl) (by kernel_rfl) (by kernel_rfl) (by kernel_rfl)) ?_
  intro W base args ds gs before hval0 hW hcnd _
  have hval : ∀ (j : Nat) t v, Try.f13.params[j]? = some t → args[j]? = some v → Value.okWide Try.prog W .any base t v := hval0
  have hW' := hW
  obtain ⟨p, q, hA0, hV, rfl, hfz, hnd⟩ := hW
  have hA : DataW.TrodAll enc Try.prog W 0 (fun _ => true) true Try.f13.params.toList args.toList ds p := hA0
  have hAk := hA
  rw [Try.params13] at hA hval
  obtain ⟨xs, hs, hr⟩ := args_shape (J := fun _ => False) (d := 12) (fun t ht => carSeals_plain t (by simpa using ht)) (fun j t v h1 h2 => hval j t v (by simpa using h1) (by simpa using h2)) hA
  obtain ⟨n, h', hc⟩ := law xs hs
  obtain ⟨v0, vs0, d0, ds0, p0, q0, hargs, rfl, rfl, h0, r0⟩ := trodAll_cons hA
  obtain ⟨rfl, rfl, rfl⟩ := trodAll_nil r0
  obtain rfl : args = #[v0] := by cases args; simp_all
  obtain ⟨rfl, rfl⟩ := trodVars_none hV
  clear hA0 hval0
  simp only [List.append_nil] at hW'
  refine (law_calls (callsOk n) hc hr).mono fun e W' ⟨he, h1, h2, hk⟩ => ?_
  subst he
  have hlt : ∀ x ∈ p0, x.block < W.heap.size := fun x hx => hW'.lt x (by simpa [List.append_assoc] using hx)
  exact ⟨_, rfl, post_of_kept (pa := p0) (pv := []) hW' (fun _ _ _ => trodAll_mk1 (shut_bool Try.underlying4 _))
    (fun sp hsp => trodAll_carry (DataW.TrodAll.respare kids full (by rw [Try.params13]; decide) (by simpa [List.append_assoc, Rows.carSealsSpec] using hAk) (fun x hx => hsp x (by simpa [List.append_assoc] using hx))) (fun x hx => sameAt_of (hk _ (hlt x hx))))
    (fun _ _ => rfl) (by simp) h1 h2 hk (ok_one (by kernel_rfl) rfl (okWide_bool_mk Try.underlying4 _))⟩
theorem carSeals_over (law : carSealsLaw) : Rows.CarSealsSaid :=
  OpenClaim.holds_of_wide 13 Try.f13 rfl rfl rfl rfl rfl rfl rfl ⟨rfl, rfl, rfl, rfl, rfl⟩ rfl rfl rfl rfl rfl (by kernel_rfl) Try.func13 (by kernel_rfl)
    (of_decide_eq_true (by kernel_rfl)) (by unfold Func.isWrapper; first | (rw [if_pos (by decide +kernel)]; kernel_rfl) | (rw [if_neg (by decide +kernel)]; exact ⟨rfl, rfl⟩))
    (fun os started H enc _ => carSeals_lifted law os started H enc)
set_option maxRecDepth 100000
theorem len_faults {l : List (List D)} : ∀ (k i : Nat) (s t : List (List D)), (runD l i k s t).1.length ≤ k
  | 0, _, _, _ => Nat.le_refl _
  | k + 1, i, s, t => by
    simp only [runD]
    split
    · have := len_faults (l := l) k (i + 1) (docS l i s) (docT l i t)
      omega
    · have := len_faults (l := l) k (i + 1) s t
      simp only [List.length_cons]
      omega
theorem len_seals {l : List (List D)} : ∀ (k i : Nat) (s t : List (List D)), (runD l i k s t).2.length = s.length
  | 0, _, _, _ => rfl
  | k + 1, i, s, t => by
    simp only [runD]
    split
    · exact (len_seals k (i + 1) _ _).trans (len_docS l s i)
    · exact len_seals k (i + 1) s t
theorem sameL_self (a : List (List D)) : sameL a a = true := by
  unfold sameL
  rw [Bool.and_eq_true]
  refine ⟨decide_eq_true rfl, allB.2 fun j _ _ => ?_⟩
  unfold sameAt
  simp
theorem ok13_10 : LoopSim C 12 13 (loopOf C.P 13 10) (mkL l13_10 G13_10) := by
  refine loop_ofK hC (sp := sp13) (lp := lp13) (sw := sw13) ⟨ok16, ok42 10, ok43 10, ok44 10, ok24 11, trivial⟩ trivial 0 [] (by kernel_rfl) rfl (fun k hk => by cases hk) (by kernel_rfl) (fun ds => (ds.getD 5 default).L.length - (ds.getD 3 default).I.toNat) fun ds rr h => ?_
  unfold G13_10 at h
  split at h
  · rename_i j i
    obtain ⟨hp, h⟩ := need_some h
    rw [yes_iff] at hp
    obtain ⟨hj, hi⟩ := hp
    refine ⟨by rw [fuelC]; show 0 - _ < _; omega, ?_⟩
    rw [roundTK_head (j := j) (n := 0) hj (by decide), show (roundTK C (mkTab sp13 lp13 sw13) 13 (loopOf C.P 13 10) 0 l13_10 [.i 0, i]).run = _ from t13_10_0 i]
    exact rd_neg (by rw [hi]; decide) (rd_out h)
  · rename_i j z w i f x
    obtain ⟨hp, h⟩ := need_some h
    rw [yes_iff] at hp
    obtain ⟨hj, hf, hz, hw, hi, hl⟩ := hp
    refine ⟨by rw [fuelC]; simp only [List.getD_cons_zero, List.getD_cons_succ]; omega, ?_⟩
    rw [roundTK_head (j := j) (n := 3) hj (by decide), show (roundTK C (mkTab sp13 lp13 sw13) 13 (loopOf C.P 13 10) 0 l13_10 [.i 3, z, w, i, f, x]).run = _ from t13_10_3 z w i f x]
    obtain ⟨q, hq⟩ : ∃ q : Nat, i.I = q := ⟨i.I.toNat, by omega⟩
    simp only [hq, hz, hw, hf, Int.toNat_natCast, beq_self_eq_true, Bool.and_self, Bool.not_true]
    refine rd_if (fun hlt => ?_) fun hge => rd_out h
    refine rd_dec ⟨by omega, by omega⟩ (rd_dec (by omega) (rd_dec ⟨by omega, by omega⟩ (rd_dec (by omega) (rd_false rfl ?_))))
    rw [wrap_succ (by omega)]
    exact rd_again ((need_yes ⟨rfl, rfl, rfl, rfl, by simp only [I_i, L_l]; omega, hl⟩).trans h) (show x.L.length - ((q + 1 : Nat) : Int).toNat < x.L.length - i.I.toNat by omega)
  · cases h
theorem law13 (a : D) : (fnT C tab13 13 s13 [a]).run = some [D.b true] := by
  refine (t13 a).trans ?_
  have h60 : (minus 60).length = 60 := by unfold minus; rw [List.length_replicate]
  have lS : (sealsD a.L).length = 60 := (len_seals _ _ _ _).trans h60
  have w60 : (60 : Int).toNat = 60 := rfl
  have hbig : big = 4611686018427387904 := rfl
  cases hl : logOk a.L with
  | true =>
    obtain ⟨e1, e2⟩ := seals_eq hl
    have lF : (faultsD a.L).length ≤ a.L.length := len_faults _ _ _ _
    have hlen := log_len hl
    have tS : List.take 60 (sealsD a.L) = sealsD a.L := List.take_of_length_le (by omega)
    simp only [e1, e2, w60, tS, Int.toNat_natCast, bne_self_eq_false]
    refine go_if (fun c1 => go_pos (by omega) rfl) fun c1 => go_neg (by omega) (go_true rfl (go_ite (fun c2 => ?_) fun c2 => ?_))
    · exact go_false rfl (go_yes (by trivial) (go_true c2 (go_dec (by omega) (go_yes (by omega) (go_notT (sameL_self _) (go_yes ⟨by trivial, by trivial⟩ rfl))))))
    · exact go_false rfl (go_yes (by trivial) (go_false c2 (go_false rfl (go_dec (by omega) (go_yes (by omega) (go_notT (sameL_self _) (go_yes ⟨by trivial, by trivial, by trivial, by trivial, by omega, by omega⟩ rfl)))))))
  | false =>
    exact go_if (fun c1 => go_if (fun _ => rfl) fun _ => go_if (fun _ => rfl) fun _ => go_false rfl (go_true rfl rfl)) fun c1 => go_neg (by omega) (go_false rfl (go_true rfl rfl))
theorem carSeals_law : carSealsLaw := fun xs hx =>
  law_true_wf hC (sp := sp13) (lp := lp13) (n := 12) ⟨ok16, ok42 10, ok43 10, ok44 10, ok24 11, trivial⟩ (by kernel_rfl) [10] (by kernel_rfl) (by kernel_rfl) (fun k hk L hL => by simp at hk; subst hk; cases hL; exact ok13_10)
    (ts := [74]) (ks := s13.args) (by kernel_rfl) (of_decide_eq_true (by kernel_rfl)) (m := 1) (by kernel_rfl) (fun ds hl _ => by
      match ds, hl with
      | [a], _ => exact law13 a) 12 xs hx
theorem car_seals : Rows.CarSealsSaid := carSeals_over carSeals_law
end Go.Proofs.Ytlofnkkokcihnaa
