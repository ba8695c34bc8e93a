import Derived.Test.YtlofnkkokcihnaaLiteNorm
namespace Go.Lite
section
variable {w w' : World} {G G' J U U' N N' : Nat → Prop} {ν ν' : Names} {h nh : Heap} {P : Program}

theorem wanted_spec {ops : Array Oper} {ts : List AV} {a : Act} (hts : RelL w G ts ν J a.tmps.toList) {o : Oper} {b : Bool} (hb : wantedA ops ts o = some b) : Region.wanted o (yielded ops a.tmps) = b := by
  unfold wantedA at hb
  unfold Region.wanted
  cases hg : o.guard with
  | none => rw [hg] at hb; simpa using hb
  | some p =>
    obtain ⟨j, want⟩ := p
    rw [hg] at hb
    simp only at hb ⊢
    unfold yielded
    cases hd : (ops[j]?).bind (·.dst) with
    | none => rw [hd] at hb; simp at hb
    | some d =>
      rw [hd] at hb
      simp only [Option.bind_some] at hb ⊢
      cases ht : ts[d]? with
      | none => rw [ht] at hb; simp at hb
      | some c =>
        rw [ht] at hb
        obtain ⟨v, hv, hr⟩ := RelL_get hts ht
        have hv' : a.tmps[d]? = some v := by simpa using hv
        rw [hv']
        cases c <;> simp only [reduceCtorEq, Option.some.injEq] at hb
        case bool x =>
          simp only [Rel] at hr; subst hr; subst hb
          simp only [Bool.beq_eq_decide_eq]
          cases x <;> cases want <;> decide
        case und =>
          simp only [Rel] at hr; subst hr; subst hb
          simp [undef]

/-- The operations of one region: what is asked at each. -/
theorem step_inv {C : Cfg} (hC : ∀ t T, C.ty t = some T → tyOf C.P t = some T) {call : CallT} (hCall : CallOK C.P call) (hExt : ExtOK C) {F : Fence} (hF : Wide F) {S : Type} {RS : StRel S} (hRM : RMono RS) {H : Option (Hd S)}
    {B : Base} {sd : List (Nat × Obj)} (hH : HSO C.P RS H B.y) {σ : St} {s : S} {a : Act} (I : Inv RS B J sd σ s a w) {ops : Array Oper} {o : Oper} {σ' : St} {s' : S} (hs : stepA C call H ops o σ s = some (σ', s'))
    {K : Act → World → Prop} (hK : ∀ a' w', Inv RS B J sd σ' s' a' w' → K a' w') {Q : Exit → Act → World → Prop} :
    if Region.wanted o (yielded ops a.tmps) = true then o.wpIn F 0 C.P a w K Q else (∀ f, o.about C.P w a.eval = some f → F.fn f) ∧ K (a.put o.dst undef) w := by
  obtain ⟨ν, G, U, N, I⟩ := I
  have hdf : ∀ u, (a.put o.dst u).defers = a.defers := fun u => by cases o.dst <;> rfl
  unfold stepA at hs
  split at hs
  · cases hs
  · rename_i hw
    cases hs
    rw [wanted_spec I.ts hw]
    simp only [Bool.false_eq_true, if_false]
    refine ⟨fun f _ => hF.fn f, hK _ _ ⟨ν, G, U, N, I.sr, put_rel I.ts o.dst (by simp only [Rel]), I.rs, I.ext, I.first, I.y, I.len, I.side, ?_, ?_⟩⟩
    · rw [hdf]; exact I.marks
    · rw [hdf]; exact I.nd
  · rename_i hw
    rw [wanted_spec I.ts hw]
    simp only [if_true]
    split at hs
    · cases hs
    rename_i ma hp
    split at hs
    · cases hs
    rename_i r ha
    cases hs
    refine Oper.wpIn_mono (K := fun a' w' => ∃ u, a' = a.put o.dst u ∧ After RS w G J U N ν σ.h σ.h.length r u w') ?_ (op_wp hC hCall hExt hF hRM (by rw [I.y]; exact hH) I.sr I.ts I.rs (fun _ _ h => h) hp (fun j h1 h2 => I.sr.fresh h1) ha)
    rintro a' w' ⟨u, rfl, ν', G', U', N', h1, h2, h3, h4, h5, h6, h7⟩
    refine hK _ _ ⟨ν', G', U', N', h1, put_rel (I.sr.relL h5 h2 I.ts) o.dst h4, h6, I.ext.trans h5, fun i hi => ?_, h3.trans I.y, ?_, fun p hp => (I.side p hp).ext h5, ?_, ?_⟩
    · rw [← I.first i hi]
      apply Classical.byContradiction
      intro hne
      have := (h7 i hne).1
      have := I.len
      omega
    · exact Nat.le_trans I.len (Nat.le_trans (length_hups _ _) (length_hputs _ _ _))
    · rw [hdf]
      exact fun d hd => let ⟨r, e, h⟩ := I.marks d hd; ⟨r, e, h.ext h5⟩
    · rw [hdf]; exact I.nd

theorem wpOpsIn_run {C : Cfg} (hC : ∀ t T, C.ty t = some T → tyOf C.P t = some T) {call : CallT} (hCall : CallOK C.P call) (hExt : ExtOK C) {F : Fence} (hF : Wide F) {S : Type} {RS : StRel S} (hRM : RMono RS) {H : Option (Hd S)}
    {B : Base} {sd : List (Nat × Obj)} (hH : HSO C.P RS H B.y) {ops : Array Oper} {σ' : St} {s' : S} {Q : Exit → Act → World → Prop} (hQ : ∀ a' w', Inv RS B J sd σ' s' a' w' → Q .normal a' w') :
    ∀ (rest : List Oper) (k : Nat), ops.toList.drop k = rest → ∀ (σ : St) (s : S) (a : Act) (w : World), Inv RS B J sd σ s a w → runA C call H ops rest σ s = some (σ', s') →
      wpOpsIn F 0 C.P ops Q ((List.range ops.size).drop k) a w
  | [], k, hd, σ, s, a, w, I, hr => by
    have hk : ops.size ≤ k := by simpa using hd
    rw [List.drop_eq_nil_of_le (by rw [List.length_range]; exact hk)]
    simp only [runA, Option.some.injEq, Prod.mk.injEq] at hr
    obtain ⟨rfl, rfl⟩ := hr
    exact hQ a w I
  | o :: rest, k, hd, σ, s, a, w, I, hr => by
    have hk : k < ops.size := by
      apply Classical.byContradiction
      intro hk
      rw [List.drop_eq_nil_of_le (by simpa using hk)] at hd
      cases hd
    have ho : ops[k]? = some o := by
      have := congrArg (·[0]?) hd
      simpa using this
    have hd' : ops.toList.drop (k + 1) = rest := by
      have := congrArg List.tail hd
      simpa using this
    have hrange : (List.range ops.size).drop k = k :: (List.range ops.size).drop (k + 1) := by
      rw [List.drop_eq_getElem_cons (by rw [List.length_range]; exact hk), List.getElem_range]
    rw [hrange]
    simp only [wpOpsIn, ho]
    simp only [runA] at hr
    split at hr
    · cases hr
    rename_i σ1 s1 hs
    have := step_inv hC hCall hExt hF hRM hH I hs (K := wpOpsIn F 0 C.P ops Q ((List.range ops.size).drop (k + 1))) (fun a' w' I' => wpOpsIn_run hC hCall hExt hF hRM hH hQ rest (k + 1) hd' σ1 s1 a' w' I' hr) (Q := Q)
    exact this

theorem stepR_scope {b : Frame} {a : Act} {k : List Item} {cs : List Frame} {c : Code} : step P (lone (b.atR a (.code (.scope c) :: k)) cs w) = .next (lone (b.atR a (.code c :: .inScope c :: k)) cs w) :=
  step_lone_go (by simp [stepG, stepG.exec, Frame.atR])
theorem stepR_inScope {b : Frame} {a : Act} {k : List Item} {cs : List Frame} {c : Code} : step P (lone (b.atR a (.inScope c :: k)) cs w) = .next (lone (b.atR a k) cs w) :=
  step_lone_go (by simp [stepG, stepG.exec, Frame.atR])
/-- A scope whose labels are not jumped to. -/
theorem wpIn_scope {F : Fence} {n : Nat} {Q : Exit → Act → World → Prop} {c : Code} {a : Act} (h : c.wpIn F n P (fun x a w => (∀ l, x ≠ .goto l) ∧ Q x a w) a w) : (Code.scope c).wpIn F n P Q a w := by
  intro b k cs hro hb hr
  obtain ⟨e, a₁, w₁, ⟨hg, hq⟩, harr⟩ := h b (.inScope c :: k) cs hro hb hr
  have first := fun {e : Exit} {a₁ w₁} (h : ArrivesIn (Machine.fenced P F) P (lone (b.atR a (.code c :: .inScope c :: k)) cs w) b k cs e a₁ w₁) => ArrivesIn.of_steps (.one (fenced_calm (fr := b.atR a (.code (.scope c) :: k)) hb hr rfl) stepR_scope) h
  cases e with
  | normal => exact ⟨_, a₁, w₁, hq, first (StepsIn.trans harr (.one (fenced_calm hb hr rfl) stepR_inScope))⟩
  | exit id => exact ⟨_, a₁, w₁, hq, first ⟨fun k' hk => harr.1 k' (by simpa [exitTo] using hk), fun hr' hk => harr.2 hr' (by simpa [exitTo] using hk)⟩⟩
  | goto l => exact absurd rfl (hg l)
  | ret => exact ⟨_, a₁, w₁, hq, first harr⟩
  | panic ch => exact ⟨_, a₁, w₁, hq, first harr⟩
  | outgrown => exact ⟨_, a₁, w₁, hq, first harr⟩

/-- A loop, by the number of its rounds. -/
theorem wpIn_loop_n {F : Fence} {n : Nat} {Q : Exit → Act → World → Prop} {c : Code} (I : Nat → Act → World → Prop) (round : ∀ j a w, I j a w → c.wpIn F n P (Exit.then (fun a' w' => ∃ j', j' < j ∧ I j' a' w') Q) a w) {j : Nat} {a : Act} {w : World} (h₀ : I j a w) :
    (Code.loop c).wpIn F n P Q a w := by
  intro b k cs hro hb hr
  have key : ∀ j a w, I j a w → ∃ e a' w', Q e a' w' ∧ ArrivesIn (Machine.fenced P F) P (lone (b.atR a (.code c :: .inLoop c :: k)) cs w) b k cs e a' w' := by
    intro j
    induction j using Nat.strongRecOn with
    | _ j ih =>
      intro a w hI
      obtain ⟨e, a₁, w₁, hq, harr⟩ := round j a w hI b (.inLoop c :: k) cs hro hb hr
      cases e with
      | normal =>
        obtain ⟨j', hlt, hI₁⟩ := hq
        obtain ⟨e₂, a₂, w₂, hq₂, harr₂⟩ := ih j' hlt a₁ w₁ hI₁
        exact ⟨e₂, a₂, w₂, hq₂, .of_steps (StepsIn.trans harr (.one (fenced_calm hb hr rfl) stepR_inLoop)) harr₂⟩
      | exit id => exact ⟨_, a₁, w₁, hq, .pass (x := .inLoop c) rfl (fun _ _ => .inl (by simp)) harr⟩
      | goto l => exact ⟨_, a₁, w₁, hq, .pass (x := .inLoop c) rfl (fun _ _ => .inl (by simp)) harr⟩
      | ret => exact ⟨_, a₁, w₁, hq, .pass (x := .inLoop c) rfl (fun _ _ => .inl (by simp)) harr⟩
      | panic ch => exact ⟨_, a₁, w₁, hq, .pass (x := .inLoop c) rfl (fun _ _ => .inl (by simp)) harr⟩
      | outgrown => exact ⟨_, a₁, w₁, hq, .pass (x := .inLoop c) rfl (fun _ _ => .inl (by simp)) harr⟩
  obtain ⟨e, a', w', hq, harr⟩ := key _ a w h₀
  exact ⟨e, a', w', hq, .of_steps (.one (fenced_calm hb hr rfl) stepR_loop) harr⟩
end
end Go.Lite
