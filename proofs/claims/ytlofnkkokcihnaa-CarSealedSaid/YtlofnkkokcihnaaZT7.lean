/-
  The statement of CarSealed holds for every input; what it rests on stands in the parts before.
-/
import Derived.Test.YtlofnkkokcihnaaZT6
import Derived.Test.YtlofnkkokcihnaaRows
namespace Go.Proofs.Ytlofnkkokcihnaa
open Go.Lite Go.ChangeShapes Go.WideShapes Go.ChangeAt Go.RowKit
theorem kids : Kids Try.prog (· < Try.prog.types.size) := kids_rows (by kernel_rfl) (by kernel_rfl)
theorem full : ∀ t e, t < Try.prog.types.size → Try.prog.underlying t = some (.slice e) → 0 < Try.prog.cellsOf e := slices_full_of Try.prog (by kernel_rfl)
set_option maxRecDepth 100000
theorem len_faults {l : List (List D)} : ∀ (k i : Nat) (s t : List (List D)), (runD l i k s t).1.length ≤ k
  | 0, _, _, _ => Nat.le_refl _
  | k + 1, i, s, t => by
    simp only [runD]
    split
    · have := len_faults (l := l) k (i + 1) (docS l i s) (docT l i t)
      omega
    · have := len_faults (l := l) k (i + 1) s t
      simp only [List.length_cons]
      omega
theorem len_seals {l : List (List D)} : ∀ (k i : Nat) (s t : List (List D)), (runD l i k s t).2.length = s.length
  | 0, _, _, _ => rfl
  | k + 1, i, s, t => by
    simp only [runD]
    split
    · exact (len_seals k (i + 1) _ _).trans (len_docS l s i)
    · exact len_seals k (i + 1) s t
set_option maxRecDepth 100000
theorem cl_st {s : List (List D)} {j a v : Int} (hj : 0 ≤ j ∧ j < s.length) (ha : 0 ≤ a) : cl (stS s j v) a = if a = j then v else cl s a := by
  unfold cl stS
  by_cases e : a = j
  · subst e
    rw [if_pos rfl, List.getD_eq_getElem?_getD, List.getElem?_set_self (by omega)]
    rfl
  · rw [if_neg e, List.getD_eq_getElem?_getD, List.getElem?_set_ne (by omega), ← List.getD_eq_getElem?_getD]
theorem cl_minus {n : Nat} {a : Int} (h : 0 ≤ a ∧ a < n) : cl (minus n) a = -1 := by
  unfold cl minus
  rw [List.getD_eq_getElem?_getD, List.getElem?_replicate, if_pos (by omega)]
  rfl
theorem anyFit_mono {l : List (List D)} {n : Int} {i : Nat} (h : anyFit l n 0 i = true) : anyFit l n 0 (i + 1) = true := by rw [anyFit_succ, h, Bool.true_or]
structure InvS (l : List (List D)) (i : Nat) (S T : List (List D)) : Prop where
  lS : S.length = 60
  lT : T.length = 60
  inj : ∀ a b : Int, 0 ≤ a ∧ a < 60 → 0 ≤ b ∧ b < 60 → 0 ≤ cl S a → cl S a = cl S b → a = b
  old : ∀ a : Int, 0 ≤ a ∧ a < 60 → 0 ≤ cl S a → anyFit l (cl S a) 0 i = true
  per : ∀ a : Int, 0 ≤ a ∧ a < 60 → 0 ≤ cl T a → ∃ k, k < i ∧ eK l k = 4 ∧ eP l k = a ∧ eN l k = cl T a
section
variable {l S T : List (List D)} {i : Nat}
theorem InvS.stay (I : InvS l i S T) : InvS l (i + 1) S T where
  lS := I.lS
  lT := I.lT
  inj := I.inj
  old := fun a ha h => anyFit_mono (I.old a ha h)
  per := fun a ha h => by
    obtain ⟨k, k1, k2⟩ := I.per a ha h
    exact ⟨k, by omega, k2⟩
theorem InvS.next (I : InvS l i S T) (hl : logOk l = true) (hi : i < l.length) (hr : ruleD l i S T = 0) : InvS l (i + 1) (docS l i S) (docT l i T) := by
  obtain ⟨g1, g2, g3, g4, -⟩ := log_at hl hi
  have lS := I.lS
  have lT := I.lT
  by_cases c1 : eK l i = 1
  · have hS : docS l i S = stS S (eP l i) (eN l i) := by unfold docS; rw [if_pos c1]
    have hT : docT l i T = T := by unfold docT; rw [if_neg (by omega), if_neg (by omega)]
    have hf : anyFit l (eN l i) 0 i = false := by
      unfold ruleD at hr
      rw [if_pos c1] at hr
      split at hr
      · cases hr
      · split at hr
        · cases hr
        · rename_i h; simpa using h
    have st : ∀ a, 0 ≤ a → cl (docS l i S) a = if a = eP l i then eN l i else cl S a := fun a ha => by rw [hS, cl_st (by omega) ha]
    rw [hT]
    refine ⟨by rw [len_docS]; exact lS, lT, fun a b ha hb h0 h => ?_, fun a ha h0 => ?_, I.stay.per⟩
    · rw [st a ha.1] at h0 h
      rw [st b hb.1] at h
      by_cases ea : a = eP l i
      · by_cases eb : b = eP l i
        · omega
        · rw [if_pos ea, if_neg eb] at h
          rw [if_pos ea] at h0
          have := I.old b hb (by omega)
          rw [← h, hf] at this
          cases this
      · rw [if_neg ea] at h h0
        by_cases eb : b = eP l i
        · rw [if_pos eb] at h
          have := I.old a ha h0
          rw [h, hf] at this
          cases this
        · rw [if_neg eb] at h
          exact I.inj a b ha hb h0 h
    · rw [st a ha.1] at h0 ⊢
      split
      · rw [anyFit_succ, Bool.or_eq_true]
        right
        unfold fitB
        rw [c1]
        simp
      · rename_i e
        rw [if_neg e] at h0
        exact anyFit_mono (I.old a ha h0)
  by_cases c2 : eK l i = 2
  · have hS : docS l i S = S := by unfold docS; rw [if_neg c1, if_pos c2]
    have hT : docT l i T = T := by unfold docT; rw [if_neg (by omega), if_neg (by omega)]
    rw [hS, hT]
    exact I.stay
  by_cases c4 : eK l i = 4
  · have hS : docS l i S = S := by unfold docS; rw [if_neg c1, if_neg c2, if_pos c4]
    have hT : docT l i T = stS T (eP l i) (eN l i) := by unfold docT; rw [if_pos c4]
    rw [hS, hT]
    refine ⟨lS, by rw [len_stS]; exact lT, I.inj, I.stay.old, fun a ha h0 => ?_⟩
    rw [cl_st (by omega) ha.1] at h0 ⊢
    split
    · rename_i e
      exact ⟨i, by omega, c4, e.symm, rfl⟩
    · rename_i e
      rw [if_neg e] at h0
      exact I.stay.per a ha h0
  by_cases c3 : eK l i = 3
  · have hS : docS l i S = stS S (eP l i) (-1) := by unfold docS; rw [if_neg c1, if_neg c2, if_neg c4, if_pos c3]
    have hT : docT l i T = stS T (eP l i) (-1) := by unfold docT; rw [if_neg c4, if_pos c3]
    have st : ∀ a, 0 ≤ a → cl (docS l i S) a = if a = eP l i then -1 else cl S a := fun a ha => by rw [hS, cl_st (by omega) ha]
    refine ⟨by rw [len_docS]; exact lS, by rw [len_docT]; exact lT, fun a b ha hb h0 h => ?_, fun a ha h0 => ?_, fun a ha h0 => ?_⟩
    · rw [st a ha.1] at h0 h
      rw [st b hb.1] at h
      by_cases ea : a = eP l i
      · rw [if_pos ea] at h0
        omega
      · rw [if_neg ea] at h h0
        by_cases eb : b = eP l i
        · rw [if_pos eb] at h
          omega
        · rw [if_neg eb] at h
          exact I.inj a b ha hb h0 h
    · rw [st a ha.1] at h0 ⊢
      by_cases ea : a = eP l i
      · rw [if_pos ea] at h0
        omega
      · rw [if_neg ea] at h0 ⊢
        exact anyFit_mono (I.old a ha h0)
    · rw [hT, cl_st (by omega) ha.1] at h0 ⊢
      by_cases ea : a = eP l i
      · rw [if_pos ea] at h0
        omega
      · rw [if_neg ea] at h0 ⊢
        exact I.stay.per a ha h0
  · have h60 := swap_lt hr c1 c2 c4 c3
    have hS : docS l i S = stS (stS S (eP l i) (cl S (eN l i))) (eN l i) (cl S (eP l i)) := by unfold docS; rw [if_neg c1, if_neg c2, if_neg c4, if_neg c3]
    have hT : docT l i T = T := by unfold docT; rw [if_neg c4, if_neg c3]
    have st : ∀ a, 0 ≤ a → cl (docS l i S) a = cl S (if a = eN l i then eP l i else if a = eP l i then eN l i else a) := fun a ha => by
      rw [hS, cl_st (by rw [len_stS]; omega) ha, cl_st (by omega) ha]
      split
      · rfl
      · split <;> rfl
    have bd : ∀ a, 0 ≤ a ∧ a < 60 → 0 ≤ (if a = eN l i then eP l i else if a = eP l i then eN l i else a) ∧ (if a = eN l i then eP l i else if a = eP l i then eN l i else a) < 60 := fun a ha => by
      split
      · omega
      · split <;> omega
    rw [hT]
    refine ⟨by rw [len_docS]; exact lS, lT, fun a b ha hb h0 h => ?_, fun a ha h0 => ?_, I.stay.per⟩
    · rw [st a ha.1] at h0 h
      rw [st b hb.1] at h
      have := I.inj _ _ (bd a ha) (bd b hb) h0 h
      split at this <;> split at this <;> (try split at this) <;> (try split at this) <;> omega
    · rw [st a ha.1] at h0 ⊢
      exact anyFit_mono (I.old _ (bd a ha) h0)
end
theorem inv_run {l : List (List D)} (hl : logOk l = true) : ∀ (k i : Nat) {S T : List (List D)}, i + k = l.length → InvS l i S T → ∃ T', InvS l l.length (runD l i k S T).2 T'
  | 0, i, S, T, hk, I => by
    obtain rfl : i = l.length := by omega
    exact ⟨T, I⟩
  | k + 1, i, S, T, hk, I => by
    simp only [runD]
    split
    · rename_i c
      exact inv_run hl k (i + 1) (by omega) (I.next hl (by omega) c)
    · exact inv_run hl k (i + 1) (by omega) I.stay
theorem inv_0 (l : List (List D)) : InvS l 0 (minus 60) (minus 60) where
  lS := by unfold minus; rw [List.length_replicate]
  lT := by unfold minus; rw [List.length_replicate]
  inj := fun a b ha _ h _ => by
    rw [cl_minus (n := 60) ha] at h
    omega
  old := fun a ha h => by
    rw [cl_minus (n := 60) ha] at h
    omega
  per := fun a ha h => by
    rw [cl_minus (n := 60) ha] at h
    omega
theorem seals_inj {l : List (List D)} (hl : logOk l = true) {i k : Int} (hk : 0 ≤ k ∧ k < i) (hi : i < 60) (h0 : 0 ≤ cl (sealsD l) i) : cl (sealsD l) i ≠ cl (sealsD l) k := fun e => by
  obtain ⟨T', I⟩ := inv_run hl l.length 0 (by omega) (inv_0 l)
  have := I.inj i k (by omega) (by omega) h0 e
  omega
theorem permits_run {l : List (List D)} (hl : logOk l = true) : ∀ (k i : Nat) {S T : List (List D)}, i + k = l.length → InvS l i S T → (runD l i k S T).1 = [] → ∀ j, i ≤ j → j < l.length → eK l j = 3 → ∃ q, q < j ∧ eK l q = 4 ∧ eP l q = eP l j ∧ eM l j ≤ eN l q
  | 0, i, S, T, hk, I, h, j, h1, h2, h3 => by omega
  | k + 1, i, S, T, hk, I, h, j, h1, h2, h3 => by
    simp only [runD] at h
    split at h
    · rename_i c
      by_cases e : j = i
      · subst e
        obtain ⟨g1, g2, g3, g4, -⟩ := log_at hl h2
        have hT : eM l j ≤ cl T (eP l j) := by
          unfold ruleD at c
          rw [if_neg (by omega), if_neg (by omega), if_neg (by omega), if_pos h3] at c
          split at c
          · split at c
            · cases c
            · omega
          · cases c
        obtain ⟨q, q1, q2, q3, q4⟩ := I.per (eP l j) (by omega) (by omega)
        exact ⟨q, q1, q2, q3, by omega⟩
      · exact permits_run hl k (i + 1) (by omega) (I.next hl (by omega) c) h j (by omega) h2 h3
    · cases h
theorem permits {l : List (List D)} (hl : logOk l = true) (h : faultsD l = []) {j : Nat} (hj : j < l.length) (h3 : eK l j = 3) : ∃ q, q < j ∧ eK l q = 4 ∧ eP l q = eP l j ∧ eM l j ≤ eN l q :=
  permits_run hl l.length 0 (by omega) (inv_0 l) h j (Nat.zero_le _) hj h3
section
variable {l : List (List D)} {c : Nat}
theorem getD_take {i : Nat} (h : i < c) : (l.take c).getD i [] = l.getD i [] := by
  rw [List.getD_eq_getElem?_getD, List.getElem?_take_of_lt h, ← List.getD_eq_getElem?_getD]
theorem eK_take {i : Nat} (h : i < c) : eK (l.take c) i = eK l i := by unfold eK; rw [getD_take h]
theorem eP_take {i : Nat} (h : i < c) : eP (l.take c) i = eP l i := by unfold eP; rw [getD_take h]
theorem eN_take {i : Nat} (h : i < c) : eN (l.take c) i = eN l i := by unfold eN; rw [getD_take h]
theorem eM_take {i : Nat} (h : i < c) : eM (l.take c) i = eM l i := by unfold eM; rw [getD_take h]
theorem anyFit_take {n : Int} {i : Nat} (h : i ≤ c) : anyFit (l.take c) n 0 i = anyFit l n 0 i := by
  rw [Bool.eq_iff_iff, anyFit_iff, anyFit_iff]
  constructor
  · rintro ⟨j, h1, h2, h3⟩
    refine ⟨j, h1, h2, ?_⟩
    unfold fitB at h3 ⊢
    rw [eK_take (by omega), eN_take (by omega)] at h3
    exact h3
  · rintro ⟨j, h1, h2, h3⟩
    refine ⟨j, h1, h2, ?_⟩
    unfold fitB at h3 ⊢
    rw [eK_take (by omega), eN_take (by omega)]
    exact h3
theorem rule_take {i : Nat} (h : i < c) (S T : List (List D)) : ruleD (l.take c) i S T = ruleD l i S T := by
  unfold ruleD
  rw [eK_take h, eP_take h, eN_take h, eM_take h, anyFit_take (by omega)]
theorem docS_take {i : Nat} (h : i < c) (S : List (List D)) : docS (l.take c) i S = docS l i S := by
  unfold docS
  rw [eK_take h, eP_take h, eN_take h]
theorem docT_take {i : Nat} (h : i < c) (T : List (List D)) : docT (l.take c) i T = docT l i T := by
  unfold docT
  rw [eK_take h, eP_take h, eN_take h]
theorem log_take (hl : logOk l = true) (hc : c ≤ l.length) : logOk (l.take c) = true := by
  have hlen := log_len hl
  have hlc : (l.take c).length = c := by rw [List.length_take]; omega
  unfold logOk
  rw [Bool.and_eq_true]
  refine ⟨decide_eq_true (by omega), allB.2 fun j _ hj => ?_⟩
  obtain ⟨g1, g2, g3, g4, g5⟩ := log_at hl (i := j) (by omega)
  have e : (decide (j = 0) || decide (eM (l.take c) (j - 1) ≤ eM (l.take c) j)) = true := by
    rw [eM_take (by omega), eM_take (by omega), Bool.or_eq_true, decide_eq_true_eq, decide_eq_true_eq]
    exact g5
  unfold logAt
  rw [e, eK_take (by omega), eP_take (by omega), eN_take (by omega), eM_take (by omega)]
  simp only [Bool.and_eq_true, Lite.within_iff, Bool.and_true]
  exact ⟨g1, g2, g3, g4⟩
theorem later_run : ∀ (k i : Nat) {S T : List (List D)}, ∀ x ∈ (runD l i k S T).1, (i : Int) ≤ ix x 0
  | 0, _, _, _, x, hx => by cases hx
  | k + 1, i, S, T, x, hx => by
    simp only [runD] at hx
    split at hx
    · have := later_run k (i + 1) x hx
      omega
    · rcases List.mem_cons.1 hx with rfl | hx
      · exact Int.le_refl _
      · have := later_run k (i + 1) x hx
        omega
theorem take_run : ∀ (k i : Nat) {S T : List (List D)}, i ≤ c → c ≤ i + k → ∃ r, (runD l i k S T).1 = (runD (l.take c) i (c - i) S T).1 ++ r ∧ ∀ x ∈ r, (c : Int) ≤ ix x 0
  | 0, i, S, T, h1, h2 => by
    rw [show c - i = 0 by omega]
    exact ⟨[], rfl, fun x hx => by cases hx⟩
  | k + 1, i, S, T, h1, h2 => by
    by_cases e : i = c
    · subst e
      rw [Nat.sub_self]
      exact ⟨_, rfl, fun x hx => later_run (k + 1) i x hx⟩
    · rw [show c - i = (c - (i + 1)) + 1 by omega]
      simp only [runD]
      rw [rule_take (by omega), docS_take (by omega), docT_take (by omega)]
      split
      · exact take_run k (i + 1) (by omega) (by omega)
      · obtain ⟨r, h3, h4⟩ := take_run (S := S) (T := T) k (i + 1) (by omega) (by omega)
        exact ⟨r, by rw [h3]; rfl, h4⟩
theorem faults_take (hc : c ≤ l.length) : ∃ r, faultsD l = faultsD (l.take c) ++ r ∧ ∀ x ∈ r, (c : Int) ≤ ix x 0 := by
  obtain ⟨r, h1, h2⟩ := take_run (l := l) (c := c) l.length 0 (S := minus 60) (T := minus 60) (Nat.zero_le _) (by omega)
  refine ⟨r, ?_, h2⟩
  unfold faultsD
  rw [show (l.take c).length = c - 0 by rw [List.length_take]; omega]
  exact h1
end
end Go.Proofs.Ytlofnkkokcihnaa
namespace Go.Proofs.Ytlofnkkokcihnaa
open Go.Lite Go.ChangeShapes Go.WideShapes Go.ChangeAt Go.RowKit
def carSealedLaw : Prop := ∀ xs : List AV, ArgsShape Try.prog 12 [74, 3] xs → ∃ n h', callA C n Unit none 14 xs [] () = some (.bool true, h', ())
theorem carSealed_plain : ∀ t ∈ [74, 3], plainTy Try.prog 12 t = true := by
  intro t ht
  have h : [74, 3].all (plainTy Try.prog 12) = true := by kernel_rfl
  exact List.all_eq_true.1 h t ht
set_option maxRecDepth 100000 in
theorem carSealed_lifted (law : carSealedLaw) (os : Os) (started : os.Started) (H : Type) (enc : TypeId × Value → H) :
    ReturnsInHanded {} Try.checked os 14 .any (Rows.carSealedSpec.pre6 enc Try.prog Try.f14 Rows.carSealedRow.domain false) (Rows.carSealedSpec.post enc Try.prog Try.f14 false true false false) := by
  refine returnsInHanded_of_change (C := Try.checked) own started (by kernel_rfl) Try.func14
    (ChangeSpec.witness6 (enc := enc) (C := Try.checked) false ⟨#[], #[.slice none 0 0, .int .i64 0], []⟩ 8 (by kernel_rfl) (by kernel_rfl) (by kernel_rfl) (by kernel_rfl)) ?_
  intro W base args ds gs before hval0 hW hcnd _
  have hval : ∀ (j : Nat) t v, Try.f14.params[j]? = some t → args[j]? = some v → Value.okWide Try.prog W .any base t v := hval0
  have hW' := hW
  obtain ⟨p, q, hA0, hV, rfl, hfz, hnd⟩ := hW
  have hA : DataW.TrodAll enc Try.prog W 0 (fun _ => true) true Try.f14.params.toList args.toList ds p := hA0
  have hAk := hA
  rw [Try.params14] at hA hval
  obtain ⟨xs, hs, hr⟩ := args_shape (J := fun _ => False) (d := 12) (fun t ht => carSealed_plain t (by simpa using ht)) (fun j t v h1 h2 => hval j t v (by simpa using h1) (by simpa using h2)) hA
  obtain ⟨n, h', hc⟩ := law xs hs
  obtain ⟨v0, vs0, d0, ds0, p0, q0, hargs, rfl, rfl, h0, r0⟩ := trodAll_cons hA
  obtain ⟨v1, vs1, d1, ds1, p1, q1, rfl, rfl, rfl, h1, r1⟩ := trodAll_cons r0
  obtain ⟨rfl, rfl, rfl⟩ := trodAll_nil r1
  obtain rfl : args = #[v0, v1] := by cases args; simp_all
  obtain ⟨rfl, rfl⟩ := trodVars_none hV
  clear hA0 hval0
  simp only [List.append_nil] at hW'
  refine (law_calls (callsOk n) hc hr).mono fun e W' ⟨he, h1, h2, hk⟩ => ?_
  subst he
  have hlt : ∀ x ∈ p0 ++ p1, x.block < W.heap.size := fun x hx => hW'.lt x (by simpa [List.append_assoc] using hx)
  exact ⟨_, rfl, post_of_kept (pa := p0 ++ p1) (pv := []) hW' (fun _ _ _ => trodAll_mk1 (shut_bool Try.underlying4 _))
    (fun sp hsp => trodAll_carry (DataW.TrodAll.respare kids full (by rw [Try.params14]; decide) (by simpa [List.append_assoc, Rows.carSealedSpec] using hAk) (fun x hx => hsp x (by simpa [List.append_assoc] using hx))) (fun x hx => sameAt_of (hk _ (hlt x hx))))
    (fun _ _ => rfl) (by simp) h1 h2 hk (ok_one (by kernel_rfl) rfl (okWide_bool_mk Try.underlying4 _))⟩
theorem carSealed_over (law : carSealedLaw) : Rows.CarSealedSaid :=
  OpenClaim.holds_of_wide 14 Try.f14 rfl rfl rfl rfl rfl rfl rfl ⟨rfl, rfl, rfl, rfl, rfl⟩ rfl rfl rfl rfl rfl (by kernel_rfl) Try.func14 (by kernel_rfl)
    (of_decide_eq_true (by kernel_rfl)) (by unfold Func.isWrapper; first | (rw [if_pos (by decide +kernel)]; kernel_rfl) | (rw [if_neg (by decide +kernel)]; exact ⟨rfl, rfl⟩))
    (fun os started H enc _ => carSealed_lifted law os started H enc)
set_option maxRecDepth 100000
theorem all14 : AllOK C 12 sp14 := ⟨ok43 10, ok16, ok42 10, trivial⟩
def mu11 (ds : List D) : Nat := if (ds.getD 0 default).I = 0 then ((ds.getD 4 default).I - (ds.getD 5 default).I).toNat else if (ds.getD 0 default).I = 2 then ((ds.getD 5 default).I - (ds.getD 6 default).I).toNat else ((ds.getD 6 default).I - (ds.getD 7 default).I).toNat
theorem ok14_11 : LoopSim C 12 14 (loopOf C.P 14 11) (mkL l14_11 G14_11) := by
  refine loop_ofK hC (sp := sp14) (lp := lp14) (sw := sw14) all14 trivial 0 [] (by kernel_rfl) rfl (fun k hk => by cases hk) (by kernel_rfl) mu11 fun ds rr h => ?_
  unfold G14_11 at h
  split at h
  · rename_i j l c w i k s
    obtain ⟨hp, h⟩ := need_some h
    rw [yes_iff] at hp
    obtain ⟨hj, ⟨hs, hin⟩, ⟨hw, hi1, hi2⟩, hi3, hk⟩ := hp
    have m0 : mu11 [j, l, c, w, i, k, s] = (i.I - k.I).toNat := if_pos hj
    refine ⟨by rw [fuelC, m0]; omega, ?_⟩
    rw [roundTK_head (j := j) (n := 0) hj (by decide), show (roundTK C (mkTab sp14 lp14 sw14) 14 (loopOf C.P 14 11) 0 l14_11 [.i 0, l, c, w, i, k, s]).run = _ from t14_11_0 l c w i k s]
    obtain ⟨q, hq⟩ : ∃ q : Nat, i.I = q := ⟨i.I.toNat, by omega⟩
    obtain ⟨u, hu⟩ : ∃ u : Nat, k.I = u := ⟨k.I.toNat, by omega⟩
    have x0 : ∀ q : Nat, (List.getD (List.getD s.L q []) 0 default).I = cl s.L (q : Int) := fun _ => rfl
    have w60 : ((60 : Int).toNat : Int) = 60 := rfl
    simp only [hq, hu, hw, w60, Int.toNat_natCast, x0] at h ⊢
    refine rd_if (fun hlt => ?_) fun hge => rd_out h
    have again : RdOK G14_11 mu11 [j, l, c, w, i, k, s] rr (T.leaf (Rd.again [.i 0, .l l.L, .i c.I, .i 60, .i (q : Int), .i (IntKind.wrap .i64 ((u : Int) + 1)), .l s.L])).run := by
      rw [wrap_succ (by omega)]
      refine rd_again ((need_yes ⟨rfl, ⟨hs, hin⟩, ⟨rfl, by simp only [I_i]; omega, by simp only [I_i]; omega⟩, by simp only [I_i]; omega, by simp only [I_i]; omega⟩).trans ?_) ?_
      · rw [← h]
        simp only [L_l, I_i]
      · rw [m0]
        show ((q : Int) - ((u + 1 : Nat) : Int)).toNat < (i.I - k.I).toNat
        omega
    refine rd_dec ⟨by omega, by omega⟩ (rd_dec (by omega) (rd_if (fun c1 => rd_dec ⟨by omega, by omega⟩ (rd_dec (by omega) (rd_dec ⟨by omega, by omega⟩ (rd_dec (by omega) (rd_ite (fun e => ?_) fun _ => again))))) fun _ => again))
    exact absurd (beq_iff_eq.1 e) (hin q u (by omega) (by omega) (by omega))
  · rename_i j l c z w i k f s
    obtain ⟨hp, h⟩ := need_some h
    rw [yes_iff] at hp
    obtain ⟨hj, ⟨hs, hin⟩, ⟨hw, hi1, hi2⟩, hi3, hk⟩ := hp
    have m0 : mu11 [j, l, c, z, w, i, k, f, s] = (i.I - k.I).toNat := (if_neg (show ¬ j.I = 0 by omega)).trans (if_pos hj)
    refine ⟨by rw [fuelC, m0]; omega, ?_⟩
    rw [roundTK_head (j := j) (n := 2) hj (by decide), show (roundTK C (mkTab sp14 lp14 sw14) 14 (loopOf C.P 14 11) 0 l14_11 [.i 2, l, c, z, w, i, k, f, s]).run = _ from t14_11_2 l c z w i k f s]
    obtain ⟨q, hq⟩ : ∃ q : Nat, i.I = q := ⟨i.I.toNat, by omega⟩
    obtain ⟨u, hu⟩ : ∃ u : Nat, k.I = u := ⟨k.I.toNat, by omega⟩
    have x0 : ∀ q : Nat, (List.getD (List.getD s.L q []) 0 default).I = cl s.L (q : Int) := fun _ => rfl
    have w60 : ((60 : Int).toNat : Int) = 60 := rfl
    simp only [hq, hu, hw, w60, Int.toNat_natCast, x0] at h ⊢
    refine rd_if (fun hlt => ?_) fun hge => rd_out h
    have again : RdOK G14_11 mu11 [j, l, c, z, w, i, k, f, s] rr (T.leaf (Rd.again [.i 2, .l l.L, .i c.I, .i ((z.I.toNat : Nat) : Int), .i 60, .i (q : Int), .i (IntKind.wrap .i64 ((u : Int) + 1)), .l f.L, .l s.L])).run := by
      rw [wrap_succ (by omega)]
      refine rd_again ((need_yes ⟨rfl, ⟨hs, hin⟩, ⟨rfl, by simp only [I_i]; omega, by simp only [I_i]; omega⟩, by simp only [I_i]; omega, by simp only [I_i]; omega⟩).trans ?_) ?_
      · rw [← h]
        simp only [L_l, I_i, Int.toNat_natCast]
      · rw [m0]
        show ((q : Int) - ((u + 1 : Nat) : Int)).toNat < (i.I - k.I).toNat
        omega
    refine rd_dec ⟨by omega, by omega⟩ (rd_dec (by omega) (rd_if (fun c1 => rd_dec ⟨by omega, by omega⟩ (rd_dec (by omega) (rd_dec ⟨by omega, by omega⟩ (rd_dec (by omega) (rd_ite (fun e => ?_) fun _ => again))))) fun _ => again))
    exact absurd (beq_iff_eq.1 e) (hin q u (by omega) (by omega) (by omega))
  · rename_i j l c z y w i k f g s
    obtain ⟨hp, h⟩ := need_some h
    rw [yes_iff] at hp
    obtain ⟨hj, ⟨hs, hin⟩, ⟨hw, hi1, hi2⟩, hi3, hk⟩ := hp
    have m0 : mu11 [j, l, c, z, y, w, i, k, f, g, s] = (i.I - k.I).toNat := (if_neg (show ¬ j.I = 0 by omega)).trans (if_neg (show ¬ j.I = 2 by omega))
    refine ⟨by rw [fuelC, m0]; omega, ?_⟩
    rw [roundTK_head (j := j) (n := 3) hj (by decide), show (roundTK C (mkTab sp14 lp14 sw14) 14 (loopOf C.P 14 11) 0 l14_11 [.i 3, l, c, z, y, w, i, k, f, g, s]).run = _ from t14_11_3 l c z y w i k f g s]
    obtain ⟨q, hq⟩ : ∃ q : Nat, i.I = q := ⟨i.I.toNat, by omega⟩
    obtain ⟨u, hu⟩ : ∃ u : Nat, k.I = u := ⟨k.I.toNat, by omega⟩
    have x0 : ∀ q : Nat, (List.getD (List.getD s.L q []) 0 default).I = cl s.L (q : Int) := fun _ => rfl
    have w60 : ((60 : Int).toNat : Int) = 60 := rfl
    simp only [hq, hu, hw, w60, Int.toNat_natCast, x0] at h ⊢
    refine rd_if (fun hlt => ?_) fun hge => rd_out h
    have again : RdOK G14_11 mu11 [j, l, c, z, y, w, i, k, f, g, s] rr (T.leaf (Rd.again [.i 3, .l l.L, .i c.I, .i ((z.I.toNat : Nat) : Int), .i ((y.I.toNat : Nat) : Int), .i 60, .i (q : Int), .i (IntKind.wrap .i64 ((u : Int) + 1)), .l f.L, .l g.L, .l s.L])).run := by
      rw [wrap_succ (by omega)]
      refine rd_again ((need_yes ⟨rfl, ⟨hs, hin⟩, ⟨rfl, by simp only [I_i]; omega, by simp only [I_i]; omega⟩, by simp only [I_i]; omega, by simp only [I_i]; omega⟩).trans ?_) ?_
      · rw [← h]
        simp only [L_l, I_i, Int.toNat_natCast]
      · rw [m0]
        show ((q : Int) - ((u + 1 : Nat) : Int)).toNat < (i.I - k.I).toNat
        omega
    refine rd_dec ⟨by omega, by omega⟩ (rd_dec (by omega) (rd_if (fun c1 => rd_dec ⟨by omega, by omega⟩ (rd_dec (by omega) (rd_dec ⟨by omega, by omega⟩ (rd_dec (by omega) (rd_ite (fun e => ?_) fun _ => again))))) fun _ => again))
    exact absurd (beq_iff_eq.1 e) (hin q u (by omega) (by omega) (by omega))
  · cases h
def mu8 (ds : List D) : Nat := if (ds.getD 0 default).I = 0 then (60 - (ds.getD 4 default).I).toNat else if (ds.getD 0 default).I = 2 then (60 - (ds.getD 5 default).I).toNat else (60 - (ds.getD 6 default).I).toNat
theorem ok14_8 : LoopSim C 12 14 (loopOf C.P 14 8) (mkL l14_8 G14_8) := by
  refine loop_ofK hC (sp := sp14) (lp := lp14) (sw := sw14) all14 trivial 0 [11] (by kernel_rfl) (by kernel_rfl) (fun k hk L hL => by simp at hk; subst hk; cases hL; exact ok14_11) (by kernel_rfl) mu8 fun ds rr h => ?_
  unfold G14_8 at h
  split at h
  · rename_i j l c w i s
    obtain ⟨hp, h⟩ := need_some h
    rw [yes_iff] at hp
    obtain ⟨hj, hs, hw, hi1, hi2⟩ := hp
    have m0 : mu8 [j, l, c, w, i, s] = (60 - i.I).toNat := if_pos hj
    refine ⟨by rw [fuelC, m0]; omega, ?_⟩
    rw [roundTK_head (j := j) (n := 0) hj (by decide), show (roundTK C (mkTab sp14 lp14 sw14) 14 (loopOf C.P 14 8) 0 l14_8 [.i 0, l, c, w, i, s]).run = _ from t14_8_0 l c w i s]
    obtain ⟨q, hq⟩ : ∃ q : Nat, i.I = q := ⟨i.I.toNat, by omega⟩
    have w60 : ((60 : Int).toNat : Int) = 60 := rfl
    simp only [hq, hw, w60] at h ⊢
    refine rd_if (fun hlt => rd_yes ⟨by trivial, hs, ⟨by trivial, by omega, by omega⟩, by omega, by omega, by omega⟩ ?_) fun hge => rd_out h
    rw [wrap_succ (by omega)]
    refine rd_again ((need_yes ⟨rfl, hs, rfl, by simp only [I_i]; omega, by simp only [I_i]; omega⟩).trans ?_) ?_
    · rw [← h]
      simp only [L_l, I_i]
    · rw [m0]
      show (60 - ((q + 1 : Nat) : Int)).toNat < (60 - i.I).toNat
      omega
  · rename_i j l c z w i f s
    obtain ⟨hp, h⟩ := need_some h
    rw [yes_iff] at hp
    obtain ⟨hj, hs, hw, hi1, hi2⟩ := hp
    have m0 : mu8 [j, l, c, z, w, i, f, s] = (60 - i.I).toNat := (if_neg (show ¬ j.I = 0 by omega)).trans (if_pos hj)
    refine ⟨by rw [fuelC, m0]; omega, ?_⟩
    rw [roundTK_head (j := j) (n := 2) hj (by decide), show (roundTK C (mkTab sp14 lp14 sw14) 14 (loopOf C.P 14 8) 0 l14_8 [.i 2, l, c, z, w, i, f, s]).run = _ from t14_8_2 l c z w i f s]
    obtain ⟨q, hq⟩ : ∃ q : Nat, i.I = q := ⟨i.I.toNat, by omega⟩
    have w60 : ((60 : Int).toNat : Int) = 60 := rfl
    simp only [hq, hw, w60, Int.toNat_natCast] at h ⊢
    refine rd_if (fun hlt => rd_yes ⟨by trivial, hs, ⟨by trivial, by omega, by omega⟩, by omega, by omega, by omega⟩ ?_) fun hge => rd_out h
    rw [wrap_succ (by omega)]
    refine rd_again ((need_yes ⟨rfl, hs, rfl, by simp only [I_i]; omega, by simp only [I_i]; omega⟩).trans ?_) ?_
    · rw [← h]
      simp only [L_l, I_i, Int.toNat_natCast]
    · rw [m0]
      show (60 - ((q + 1 : Nat) : Int)).toNat < (60 - i.I).toNat
      omega
  · rename_i j l c z y w i f g s
    obtain ⟨hp, h⟩ := need_some h
    rw [yes_iff] at hp
    obtain ⟨hj, hs, hw, hi1, hi2⟩ := hp
    have m0 : mu8 [j, l, c, z, y, w, i, f, g, s] = (60 - i.I).toNat := (if_neg (show ¬ j.I = 0 by omega)).trans (if_neg (show ¬ j.I = 2 by omega))
    refine ⟨by rw [fuelC, m0]; omega, ?_⟩
    rw [roundTK_head (j := j) (n := 3) hj (by decide), show (roundTK C (mkTab sp14 lp14 sw14) 14 (loopOf C.P 14 8) 0 l14_8 [.i 3, l, c, z, y, w, i, f, g, s]).run = _ from t14_8_3 l c z y w i f g s]
    obtain ⟨q, hq⟩ : ∃ q : Nat, i.I = q := ⟨i.I.toNat, by omega⟩
    have w60 : ((60 : Int).toNat : Int) = 60 := rfl
    simp only [hq, hw, w60, Int.toNat_natCast] at h ⊢
    refine rd_if (fun hlt => rd_yes ⟨by trivial, hs, ⟨by trivial, by omega, by omega⟩, by omega, by omega, by omega⟩ ?_) fun hge => rd_out h
    rw [wrap_succ (by omega)]
    refine rd_again ((need_yes ⟨rfl, hs, rfl, by simp only [I_i]; omega, by simp only [I_i]; omega⟩).trans ?_) ?_
    · rw [← h]
      simp only [L_l, I_i, Int.toNat_natCast]
    · rw [m0]
      show (60 - ((q + 1 : Nat) : Int)).toNat < (60 - i.I).toNat
      omega
  · cases h
theorem begins_in {g f : List (List D)} {c : Int} {i : Nat} (h : begins g f c) (h1 : g.length ≤ i) (h2 : i < f.length) : c ≤ ix (f.getD i []) 0 := by
  obtain ⟨-, r, rfl, hr⟩ := h
  rw [List.getD_eq_getElem?_getD, List.getElem?_append_right h1]
  have hl : i - g.length < r.length := by rw [List.length_append] at h2; omega
  rw [List.getElem?_eq_getElem hl]
  exact hr _ (List.getElem_mem hl)
theorem begins_at {g f : List (List D)} {c : Int} {i : Nat} (h : begins g f c) (h1 : i < g.length) : f.getD i [] = g.getD i [] := by
  obtain ⟨-, r, rfl, -⟩ := h
  rw [List.getD_eq_getElem?_getD, List.getElem?_append_left h1, ← List.getD_eq_getElem?_getD]
theorem begins_le {g f : List (List D)} {c : Int} (h : begins g f c) : g.length ≤ f.length := by
  obtain ⟨-, r, rfl, -⟩ := h
  rw [List.length_append]
  omega
def mu16 (ds : List D) : Nat := if (ds.getD 0 default).I = 2 then ((ds.getD 3 default).I - (ds.getD 4 default).I).toNat else ((ds.getD 3 default).I - (ds.getD 5 default).I).toNat
theorem ok14_16 : LoopSim C 12 14 (loopOf C.P 14 16) (mkL l14_16 G14_16) := by
  refine loop_ofK hC (sp := sp14) (lp := lp14) (sw := sw14) all14 trivial 0 [] (by kernel_rfl) rfl (fun k hk => by cases hk) (by kernel_rfl) mu16 fun ds rr h => ?_
  unfold G14_16 at h
  split at h
  · rename_i j l c i
    obtain ⟨hp, h⟩ := need_some h
    rw [yes_iff] at hp
    obtain ⟨hj, hi⟩ := hp
    have m0 : mu16 [j, l, c, i] = 0 := (if_neg (show ¬ j.I = 2 by omega)).trans (by show (i.I - 0).toNat = 0; omega)
    refine ⟨by rw [fuelC, m0]; omega, ?_⟩
    rw [roundTK_head (j := j) (n := 0) hj (by decide), show (roundTK C (mkTab sp14 lp14 sw14) 14 (loopOf C.P 14 16) 0 l14_16 [.i 0, l, c, i]).run = _ from t14_16_0 l c i]
    exact rd_neg (by rw [hi]; decide) (rd_out h)
  · rename_i j l c z i f
    obtain ⟨hp, h⟩ := need_some h
    rw [yes_iff] at hp
    obtain ⟨hj, hb, hz, hi⟩ := hp
    have m0 : mu16 [j, l, c, z, i, f] = (z.I - i.I).toNat := if_pos hj
    have hl := hb.1
    refine ⟨by rw [fuelC, m0]; omega, ?_⟩
    rw [roundTK_head (j := j) (n := 2) hj (by decide), show (roundTK C (mkTab sp14 lp14 sw14) 14 (loopOf C.P 14 16) 0 l14_16 [.i 2, l, c, z, i, f]).run = _ from t14_16_2 l c z i f]
    obtain ⟨q, hq⟩ : ∃ q : Nat, i.I = q := ⟨i.I.toNat, by omega⟩
    have x0 : ∀ q : Nat, (List.getD (List.getD f.L q []) 0 default).I = ix (f.L.getD q []) 0 := fun _ => rfl
    simp only [hq, hz, Int.toNat_natCast, x0] at h ⊢
    refine rd_if (fun hlt => rd_neg (by omega) (rd_pos (by omega) (rd_dec ⟨by omega, by omega⟩ (rd_dec (by omega) (rd_neg ?_ ?_))))) fun hge => rd_out h
    · have := begins_in hb (i := q) (Nat.zero_le _) (by omega)
      omega
    · rw [wrap_succ (by omega)]
      refine rd_again ((need_yes ⟨rfl, hb, rfl, by simp only [I_i, L_l]; omega⟩).trans ?_) ?_
      · rw [← h]
        simp only [L_l]
      · rw [m0]
        show ((f.L.length : Int) - ((q + 1 : Nat) : Int)).toNat < (z.I - i.I).toNat
        omega
  · rename_i j l c z y i f g
    obtain ⟨hp, h⟩ := need_some h
    rw [yes_iff] at hp
    obtain ⟨hj, hb, hz, hy, hi⟩ := hp
    have m0 : mu16 [j, l, c, z, y, i, f, g] = (z.I - i.I).toNat := if_neg (show ¬ j.I = 2 by omega)
    have hl := hb.1
    have hgf := begins_le hb
    refine ⟨by rw [fuelC, m0]; omega, ?_⟩
    rw [roundTK_head (j := j) (n := 3) hj (by decide), show (roundTK C (mkTab sp14 lp14 sw14) 14 (loopOf C.P 14 16) 0 l14_16 [.i 3, l, c, z, y, i, f, g]).run = _ from t14_16_3 l c z y i f g]
    obtain ⟨q, hq⟩ : ∃ q : Nat, i.I = q := ⟨i.I.toNat, by omega⟩
    have x0 : ∀ q : Nat, (List.getD (List.getD f.L q []) 0 default).I = ix (f.L.getD q []) 0 := fun _ => rfl
    have x1 : ∀ q : Nat, (List.getD (List.getD f.L q []) (0 + 1) default).I = ix (f.L.getD q []) 1 := fun _ => rfl
    have y0 : ∀ q : Nat, (List.getD (List.getD g.L q []) 0 default).I = ix (g.L.getD q []) 0 := fun _ => rfl
    have y1 : ∀ q : Nat, (List.getD (List.getD g.L q []) (0 + 1) default).I = ix (g.L.getD q []) 1 := fun _ => rfl
    simp only [hq, hz, hy, Int.toNat_natCast, x0, x1, y0, y1] at h ⊢
    have again : q < f.L.length → RdOK G14_16 mu16 [j, l, c, z, y, i, f, g] rr (T.leaf (Rd.again [.i 3, .l l.L, .i c.I, .i (f.L.length : Int), .i (g.L.length : Int), .i (IntKind.wrap .i64 ((q : Int) + 1)), .l f.L, .l g.L])).run := fun hlt => by
      rw [wrap_succ (by omega)]
      refine rd_again ((need_yes ⟨rfl, hb, rfl, rfl, by simp only [I_i, L_l]; omega⟩).trans ?_) ?_
      · rw [← h]
        simp only [L_l]
      · rw [m0]
        show ((f.L.length : Int) - ((q + 1 : Nat) : Int)).toNat < (z.I - i.I).toNat
        omega
    refine rd_if (fun hlt => rd_if (fun c1 => rd_dec ⟨by omega, by omega⟩ (rd_dec (by omega) (rd_dec ⟨by omega, by omega⟩ (rd_dec (by omega) (rd_false ?_ (rd_neg (by omega) (again (by omega)))))))) fun c1 => rd_pos (by omega) (rd_dec ⟨by omega, by omega⟩ (rd_dec (by omega) (rd_neg ?_ (again (by omega)))))) fun hge => rd_out h
    · rw [begins_at hb (by omega)]
      simp
    · have := begins_in hb (i := q) (by omega) (by omega)
      omega
  · cases h
theorem ok14_28 : LoopSim C 12 14 (loopOf C.P 14 28) (mkL l14_28 G14_28) := by
  refine loop_ofK hC (sp := sp14) (lp := lp14) (sw := sw14) all14 trivial 0 [] (by kernel_rfl) rfl (fun k hk => by cases hk) (by kernel_rfl) (fun ds => ((ds.getD 1 default).I - (ds.getD 3 default).I).toNat) fun ds rr h => ?_
  unfold G14_28 at h
  split at h
  · rename_i l i b k
    obtain ⟨hp, h⟩ := need_some h
    rw [yes_iff] at hp
    obtain ⟨hl, hi, hk⟩ := hp
    refine ⟨by rw [fuelC]; simp only [List.getD_cons_zero, List.getD_cons_succ]; omega, ?_⟩
    rw [show (roundTK C (mkTab sp14 lp14 sw14) 14 (loopOf C.P 14 28) 0 l14_28 [l, i, b, k]).run = _ from t14_28 l i b k]
    obtain ⟨q, hq⟩ : ∃ q : Nat, i.I = q := ⟨i.I.toNat, by omega⟩
    obtain ⟨u, hu⟩ : ∃ u : Nat, k.I = u := ⟨k.I.toNat, by omega⟩
    have x0 : ∀ j : Nat, (List.getD (List.getD l.L j []) 0 default).I = eK l.L j := fun _ => rfl
    have x1 : ∀ j : Nat, (List.getD (List.getD l.L j []) (0 + 1) default).I = eP l.L j := fun _ => rfl
    have x2 : ∀ j : Nat, (List.getD (List.getD l.L j []) (0 + 1 + 1) default).I = eN l.L j := fun _ => rfl
    have x3 : ∀ j : Nat, (List.getD (List.getD l.L j []) (0 + 1 + 1 + 1) default).I = eM l.L j := fun _ => rfl
    simp only [hq, hu, Int.toNat_natCast, x0, x1, x2, x3] at h ⊢
    have stp : ∀ b' : Bool, b' = (b.B || permB l.L q u) → u < q → RdOK G14_28 (fun ds => ((ds.getD 1 default).I - (ds.getD 3 default).I).toNat) [l, i, b, k] rr (T.leaf (Rd.again [.l l.L, .i (q : Int), .b b', .i (IntKind.wrap .i64 ((u : Int) + 1))])).run := fun b' hb' hlt => by
      rw [wrap_succ (by omega)]
      refine rd_again ((need_yes ⟨hl, by simp only [I_i, L_l]; omega, by simp only [I_i]; omega⟩).trans ?_) (show ((q : Int) - ((u + 1 : Nat) : Int)).toNat < (i.I - k.I).toNat by omega)
      rw [← h, show q - u = (q - (u + 1)) + 1 by omega]
      simp only [L_l, I_i, Int.toNat_natCast, allFrom, D.B, hb', Bool.not_and, Bool.not_not, Bool.or_assoc]
    refine rd_if (fun hlt => rd_ite (fun c1 => stp _ (by rw [c1]; rfl) (by omega)) fun c1 => rd_dec ⟨by omega, by omega⟩ (rd_ite (fun c2 => rd_dec ⟨by omega, by omega⟩ (rd_dec ⟨by omega, by omega⟩ (rd_ite (fun c3 => rd_dec ⟨by omega, by omega⟩ (rd_dec ⟨by omega, by omega⟩ (stp _ ?_ (by omega)))) fun c3 => stp _ ?_ (by omega)))) fun c2 => stp _ ?_ (by omega))) fun hge => rd_out ?_
    · unfold permB
      rw [c1, c2, c3]
      rfl
    · unfold permB
      rw [c1, c3, Bool.false_and, Bool.and_false]
      rfl
    · unfold permB
      rw [c1, c2, Bool.false_and]
      rfl
    · rw [← h, show q - u = 0 by omega]
      simp only [allFrom, Bool.not_true, Bool.or_false, run_leaf]
  · cases h
theorem ok14_23 : LoopSim C 12 14 (loopOf C.P 14 23) (mkL l14_23 G14_23) := by
  refine loop_ofK hC (sp := sp14) (lp := lp14) (sw := sw14) all14 trivial 0 [28] (by kernel_rfl) (by kernel_rfl) (fun k hk L hL => by simp at hk; subst hk; cases hL; exact ok14_28) (by kernel_rfl) (fun ds => (((ds.getD 0 default).L.length : Int) - (ds.getD 1 default).I).toNat) fun ds rr h => ?_
  unfold G14_23 at h
  split at h
  · rename_i l i
    obtain ⟨hp, h⟩ := need_some h
    rw [yes_iff] at hp
    obtain ⟨⟨hl, hper⟩, hi⟩ := hp
    refine ⟨by rw [fuelC]; simp only [List.getD_cons_zero, List.getD_cons_succ]; omega, ?_⟩
    rw [show (roundTK C (mkTab sp14 lp14 sw14) 14 (loopOf C.P 14 23) 0 l14_23 [l, i]).run = _ from t14_23 l i]
    obtain ⟨q, hq⟩ : ∃ q : Nat, i.I = q := ⟨i.I.toNat, by omega⟩
    have x0 : ∀ j : Nat, (List.getD (List.getD l.L j []) 0 default).I = eK l.L j := fun _ => rfl
    simp only [hq, Int.toNat_natCast, Int.toNat_zero, Nat.sub_zero, x0] at h ⊢
    refine rd_if (fun hlt => ?_) fun hge => rd_out h
    have again : RdOK G14_23 (fun ds => (((ds.getD 0 default).L.length : Int) - (ds.getD 1 default).I).toNat) [l, i] rr (T.leaf (Rd.again [.l l.L, .i (IntKind.wrap .i64 ((q : Int) + 1))])).run := by
      rw [wrap_succ (by omega)]
      exact rd_again ((need_yes ⟨⟨hl, hper⟩, by simp only [I_i, L_l]; omega⟩).trans h) (show ((l.L.length : Int) - ((q + 1 : Nat) : Int)).toNat < ((l.L.length : Int) - i.I).toNat by omega)
    refine rd_dec ⟨by omega, by omega⟩ (rd_ite (fun _ => again) fun c => rd_yes ⟨hl, ⟨by omega, by omega⟩, by omega, by omega⟩ (rd_false ?_ again))
    obtain ⟨u, u1, u2⟩ := hper q (by omega) (by simpa using c)
    rw [Bool.not_eq_false', Bool.false_or, Bool.not_eq_true', ← Bool.not_eq_true, allB]
    intro hall
    have := hall u (Nat.zero_le _) (by omega)
    rw [u2] at this
    cases this
  · cases h
theorem law14 (a b : D) : (fnT C tab14 14 s14 [a, b]).run = some [D.b true] := by
  refine (t14 a b).trans ?_
  refine go_if (fun _ => rfl) fun c1 => go_not (fun _ => rfl) fun hl => go_if (fun _ => rfl) fun c2 => go_if (fun _ => rfl) fun c3 => go_true hl ?_
  have hc : b.I.toNat ≤ a.L.length := by omega
  have hlen := log_len hl
  have ht := log_take hl hc
  obtain ⟨e1, -⟩ := seals_eq hl
  obtain ⟨e2, e3⟩ := seals_eq ht
  obtain ⟨r, r1, r2⟩ := faults_take (l := a.L) hc
  have lF : (faultsD a.L).length ≤ a.L.length := len_faults _ _ _ _
  have h60 : (minus 60).length = 60 := by unfold minus; rw [List.length_replicate]
  have lS : (sealsD (a.L.take b.I.toNat)).length = 60 := (len_seals _ _ _ _).trans h60
  have hin : injS (sealsD (a.L.take b.I.toNat)) := ⟨lS, fun i k hk hi h0 => seals_inj ht (by omega) (by omega) h0⟩
  have hbg : begins (faultsD (a.L.take b.I.toNat)) (faultsD a.L) b.I := ⟨by omega, r, r1, fun x hx => by have := r2 x hx; omega⟩
  have hgf := begins_le hbg
  have hper : faultsD a.L = [] → permitted a.L := fun e => ⟨hlen, fun i hi h3 => by
    obtain ⟨q, q1, q2, q3, q4⟩ := permits hl e hi h3
    refine ⟨q, q1, ?_⟩
    unfold permB
    rw [q2, q3, decide_eq_true q4]
    simp⟩
  have i60 : in60 60 0 := ⟨rfl, by decide, by decide⟩
  have w60 : ((60 : Int).toNat : Int) = 60 := rfl
  simp only [Nat.sub_zero, List.drop_zero, e1, e2, e3, Int.toNat_natCast, w60]
  refine go_ite (fun c4 => ?_) fun c4 => go_dec (by omega) (go_true ht (go_ite (fun c5 => ?_) fun c5 => ?_))
  · have e0 : faultsD a.L = [] := by simpa using c4
    have g0 : faultsD (a.L.take b.I.toNat) = [] := by
      rw [e0] at hgf
      exact List.length_eq_zero_iff.1 (by simpa using hgf)
    exact go_dec (by omega) (go_true ht (go_true (by rw [g0]; rfl) (go_yes ⟨by trivial, hin, i60⟩ (go_yes ⟨by trivial, by trivial⟩ (go_yes ⟨hper e0, by omega, by omega⟩ rfl)))))
  · have g0 : faultsD (a.L.take b.I.toNat) = [] := by simpa using c5
    rw [g0] at hbg
    refine go_yes ⟨by trivial, hin, i60⟩ (go_yes ⟨by trivial, hbg, by trivial, by omega, by omega⟩ (go_if (fun _ => rfl) fun c6 => go_yes ⟨hper (List.length_eq_zero_iff.1 (by omega)), by omega, by omega⟩ rfl))
  · refine go_neg (by omega) (go_yes ⟨by trivial, hin, i60⟩ (go_yes ⟨by trivial, hbg, by trivial, by trivial, by omega, by omega⟩ (go_if (fun _ => rfl) fun c6 => go_yes ⟨hper (List.length_eq_zero_iff.1 (by omega)), by omega, by omega⟩ rfl)))
theorem carSealed_law : carSealedLaw := fun xs hx =>
  law_true_wf hC (sp := sp14) (lp := lp14) (n := 12) all14 (by kernel_rfl) [8, 16, 23] (by kernel_rfl) (by kernel_rfl) (fun k hk L hL => by
      simp at hk
      rcases hk with rfl | rfl | rfl <;> cases hL
      · exact ok14_8
      · exact ok14_16
      · exact ok14_23)
    (ts := [74, 3]) (ks := s14.args) (by kernel_rfl) (of_decide_eq_true (by kernel_rfl)) (m := 2) (by kernel_rfl) (fun ds hl _ => by
      match ds, hl with
      | [a, b], _ => exact law14 a b) 12 xs hx
theorem car_sealed : Rows.CarSealedSaid := carSealed_over carSealed_law
end Go.Proofs.Ytlofnkkokcihnaa
