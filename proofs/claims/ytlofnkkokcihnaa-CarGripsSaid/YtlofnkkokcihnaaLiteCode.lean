import Derived.Test.YtlofnkkokcihnaaLiteHandler
namespace Go.Lite

/-- What is asked of the operations of a region: edges point back, and whoever is not related is apart. -/
def regOk (ops : Array Oper) : Bool :=
  let b := Region.before ops
  let L := ops.toList.zipIdx
  L.all fun p =>
    (p.1.after.toList.all fun e => !(Region.binds .any e) || decide (e.on < p.2)) &&
    (decide (b.getD p.2 0 = p.1.after.toList.foldl (fun s e => if Region.binds .any e then s ||| 2 ^ e.on ||| b.getD e.on 0 else s) 0) &&
    (L.all fun q => !(decide (q.2 < p.2)) || ((b.getD p.2 0).testBit q.2 || p.1.apart ops q.1)))
def regsOk : Code → Bool
  | .region _ ops draw => !draw || regOk ops
  | .seq a b => regsOk a && regsOk b
  | .cond _ a b => regsOk a && regsOk b
  | .block _ b => regsOk b
  | .loop b => regsOk b
  | .rangeFunc _ _ a b => regsOk a && regsOk b
  | .scope b => regsOk b
  | _ => true
/-- Regions that draw their order do what was reckoned. -/
def DrawOK (C : Cfg) (call : CallT) : Prop := ∀ (S : Type) (RS : StRel S) (H : Option (Hd S)) (F : Fence) (B : Base) (J : Nat → Prop) (sd : List (Nat × Obj)) (σ : St) (s : S) (a : Act) (w : World) (σ' : St) (s' : S) (id : Nat) (ops : Array Oper),
  RMono RS → Wide F → HSO C.P RS H B.y → regOk ops = true → Inv RS B J sd σ s a w → runD C call H ops (Region.before ops) σ.h.length (ops.toList.zip (List.range ops.size)) [] σ s = some (σ', s') →
    (Code.region id ops true).wpIn F 0 C.P (fun x a' w' => x = .normal ∧ Inv RS B J sd σ' s' a' w') a w

section
variable {C : Cfg} {call : CallT} {f : FuncId} {S : Type} {RS : StRel S} {H : Option (Hd S)}

theorem loop_ok {nrm : St → St} {F : Fence} {B : Base} {J : Nat → Prop} {sd : List (Nat × Obj)} {c : Code} {body : St → S → Option (Ex × St × S)} (hn : ∀ {σ s a w}, Inv RS B J sd σ s a w → Inv RS B J sd (nrm σ) s a w)
    (hb : ∀ σ s a w e σ' s', Inv RS B J sd σ s a w → body σ s = some (e, σ', s') → c.wpIn F 0 C.P (fun x a' w' => x = exOf e ∧ Inv RS B J sd σ' s' a' w') a w)
    {n : Nat} {σ : St} {s : S} {a : Act} {w : World} {e : Ex} {σ' : St} {s' : S} (I : Inv RS B J sd σ s a w) (hl : loopA nrm body n σ s = some (e, σ', s')) :
    (Code.loop c).wpIn F 0 C.P (fun x a' w' => x = exOf e ∧ Inv RS B J sd σ' s' a' w') a w := by
  refine wpIn_loop_n (fun j a w => ∃ σ s, Inv RS B J sd σ s a w ∧ loopA nrm body j σ s = some (e, σ', s')) ?_ ⟨σ, s, I, hl⟩
  rintro j a w ⟨σ, s, I, hl⟩
  cases j with
  | zero => cases hl
  | succ j =>
    unfold loopA at hl
    split at hl
    · rename_i σ1 s1 h1
      refine wpIn_mono (hb _ _ _ _ _ _ _ (hn I) h1) ?_
      rintro x a' w' ⟨rfl, I'⟩
      exact ⟨j, Nat.lt_succ_self j, σ1, s1, I', hl⟩
    · rename_i hne
      refine wpIn_mono (hb _ _ _ _ _ _ _ (hn I) hl) ?_
      rintro x a' w' ⟨rfl, I'⟩
      cases e with
      | normal => exact (hne _ _ hl).elim
      | exit id => exact ⟨rfl, I'⟩
      | ret => exact ⟨rfl, I'⟩

theorem gc_inv {B : Base} {J : Nat → Prop} {sd : List (Nat × Obj)} {body : Code} {σ : St} {s : S} {a : Act} {w : World} {ν : Names} {G U N : Nat → Prop} (I : Inv1 RS B J sd σ s a w ν G U N) :
    ∃ ν', Inv1 RS B J sd (gcOf C B.k f body σ) s a w ν' G U N ∧ ∀ b, Own ν' (gcOf C B.k f body σ).h b → Own ν σ.h b := by
  unfold gcOf
  cases C.ann f (keyOf body) with
  | none => exact ⟨ν, I, fun _ h => h⟩
  | some live => exact ⟨_, norm_inv I, fun b hb => own_gc' (kb := true) (ky := true) (y := ν.y) hb⟩

theorem gcX_inv {B : Base} {J : Nat → Prop} {sd : List (Nat × Obj)} {body : Code} {e : Ex} {σ : St} {s : S} {a : Act} {w : World} (I : Inv RS B J sd σ s a w) : Inv RS B J sd (gcX C B.k f body e σ) s a w := by
  obtain ⟨ν, G, U, N, I⟩ := I
  unfold gcX
  cases e with
  | normal => exact ⟨ν, G, U, N, I⟩
  | exit id =>
    simp only
    cases C.annX f (keyOf body) (some id) with
    | none => exact ⟨ν, G, U, N, I⟩
    | some live => exact ⟨_, G, U, N, norm_inv I⟩
  | ret =>
    simp only
    cases C.annX f (keyOf body) none with
    | none => exact ⟨ν, G, U, N, I⟩
    | some live => exact ⟨_, G, U, N, norm_inv I⟩
theorem hget_kills {h : Heap} {ms : List Nat} {i : Nat} {B : Blk} (e : hget (hups h (ms.map fun i => (i, none))) i = some B) : hget h i = some B ∧ i ∉ ms := by
  induction ms generalizing h with
  | nil => exact ⟨e, fun h => by cases h⟩
  | cons m ms ih =>
    simp only [List.map_cons, hups] at e
    obtain ⟨h1, h2⟩ := ih e
    rw [hget_hset] at h1
    split at h1
    · cases h1
    · rename_i hne
      exact ⟨h1, fun hm => (List.mem_cons.1 hm).elim (fun e => hne e.symm) h2⟩
theorem SR.other {w : World} {G J U U' N N' : Nat → Prop} {ν : Names} {h : Heap} (S : SR w G J U N ν h) (hlt : ∀ b, N' b → b < w.heap.size) (hn : ∀ b, N' b → ¬ Own ν h b) (hg : ∀ b, G b → ¬ U' b) (hj : ∀ b, J b → ¬ U' b) (hu : ∀ b, U' b → N' b) : SR w G J U' N' ν h :=
  ⟨S.blk, S.inj, S.dom, S.glt, S.jlt, hlt, S.gown, S.jown, hn, hg, hj, hu⟩

/-- A range over a function begins. -/
theorem enter_loop {P : Program} {w : World} (fn : FuncId) (tmps : Array Value) (ps : Array Tmp) (assign body : Code) {ro : Option Nat} (hro : ∀ l, ro = some l → ∃ rec, w.heap[l]? = some (.loop rec)) :
    ∃ l mark w1 d, (Instr.enterLoop fn tmps ps assign body ro).run P w = .ok (l, mark) w1 ∧ w.heap.size ≤ l ∧ w1.heap[l]? = some (.loop (recOf fn tmps ps assign body d none)) ∧ (∀ b, b < w.heap.size → w1.heap[b]? = w.heap[b]?) ∧ w.heap.size ≤ w1.heap.size ∧ (w1.os = w.os ∧ w1.output = w.output) ∧
      (mark = [] ∨ ∃ r, mark = [markOf r] ∧ w.heap.size ≤ r ∧ r ≠ l ∧ w1.heap[r]? = some (.deferred (some []))) := by
  cases ro with
  | none =>
    refine ⟨_, _, _, w.heap.size, run_enterLoop_outer fn tmps ps assign body, by omega, ?_, fun b hb => ?_, ?_, ⟨rfl, rfl⟩, .inr ⟨w.heap.size, rfl, Nat.le_refl _, by omega, ?_⟩⟩
    · have := alloc_heap_new (w.alloc (.deferred (some []))) (.loop { state := .ready, pending := none, fn, tmps, params := ps, assign, body, defers := w.heap.size })
      rw [alloc_size] at this
      exact this
    · rw [alloc_heap_old _ _ (by rw [alloc_size]; omega), alloc_heap_old _ _ hb]
    · rw [alloc_size, alloc_size]; omega
    · rw [alloc_heap_old _ _ (by rw [alloc_size]; omega), alloc_heap_new]
  | some l0 =>
    obtain ⟨rec, hrec⟩ := hro l0 rfl
    exact ⟨_, _, _, rec.defers, run_enterLoop_inner hrec fn tmps ps assign body, Nat.le_refl _, alloc_heap_new _ _, fun b hb => alloc_heap_old _ _ hb, by rw [alloc_size]; omega, ⟨rfl, rfl⟩, .inl rfl⟩

/-- A range over a function. -/
theorem range_ok (hCall : CallOK C.P call) (hRM : RMono RS) {g : Operand} {ps : Array Tmp} {assign body : Code} (iha : ExecOK C call f RS H assign) (ihb : ExecOK C call f RS H body) : ExecOK C call f RS H (.rangeFunc g ps assign body) := by
  intro F B J sd σ0 s a w e σ' s' hF hro hH hn0 I h
  simp only [execA] at h
  obtain ⟨ν0, G, U, N, I0⟩ := I
  have hgc : ∀ {σ s a w ν G U N}, Inv1 RS B J sd σ s a w ν G U N → ∃ ν', Inv1 RS B J sd (gcOf C B.k f body σ) s a w ν' G U N ∧ ∀ b, Own ν' (gcOf C B.k f body σ).h b → Own ν σ.h b := fun I => gc_inv I
  generalize gcOf C B.k f body = gc at h hgc
  obtain ⟨ν, I1, _⟩ := hgc I0
  generalize gc σ0 = σ at h I1
  split at h
  case h_2 => cases h
  rename_i gf fa cp hg
  generalize hms : reach (hget σ.h) wide ((fa ++ cp).flatMap (ids deep)) [] = ms at h
  have hnd : ms.Nodup := by rw [← hms]; exact reach_nodup _ _ _ _ List.nodup_nil
  split at h
  case h_2 => cases h
  rename_i rv rh τ pend s1 hcl
  simp only [Option.some.injEq, Prod.mk.injEq] at h
  obtain ⟨he, rfl, rfl⟩ := h
  have hgv := ev_rel I1.ts g
  rw [hg] at hgv
  simp only [Rel] at hgv
  obtain ⟨as, cs, hgv, has, hcs⟩ := hgv
  have hgood := hCall _ _ _ _ _ _ _ _ _ hcl
  refine wpIn_rangeFunc fun fn _ => ?_
  obtain ⟨l, mark, w1, dblk, hent, hl, hrec, hold, hsz1, henv1, hmark⟩ := enter_loop (P := C.P) (w := w) fn a.tmps ps assign body (ro := F.round) (fun l e => let ⟨rec, hr⟩ := hro l e; ⟨rec, (I1.side _ hr).at_⟩)
  have hszs : ∀ b, szOf w b ≤ szOf w1 b := fun b => by
    by_cases hb : b < w.heap.size
    · rw [szOf, szOf, hold b hb]; exact Nat.le_refl _
    · rw [szOf, Array.getElem?_eq_none (by omega)]; exact Nat.zero_le _
  have I2 := I1.on (w' := w1) (G' := G) hRM henv1 hsz1 hszs (fun _ h => h) (fun b hb => hold b (I1.sr.glt b hb)) (fun b hb => Nat.lt_of_lt_of_le (I1.sr.glt b hb) hsz1) (fun b _ hb => hold b hb) (fun b hb => .inl hb)
  have fresh : ∀ {r}, w.heap.size ≤ r → ¬ G r ∧ ¬ J r ∧ ¬ U r ∧ ¬ N r ∧ ¬ Own ν σ.h r := fun {r} hr => by
    refine ⟨fun h => ?_, fun h => ?_, fun h => ?_, fun h => ?_, fun h => ?_⟩
    · have := I1.sr.glt r h; omega
    · have := I1.sr.jlt r h; omega
    · have := I1.sr.nlt r (I1.sr.un r h); omega
    · have := I1.sr.nlt r h; omega
    · have := I1.sr.own_lt h; omega
  have hbn : B.n0 ≤ w.heap.size := Nat.le_trans hn0 I1.ext.size
  have hmlt : ∀ {r}, markOf r ∈ a.defers → r < w.heap.size := fun {r} hr => by
    obtain ⟨r', e, hs⟩ := I1.marks _ hr
    cases e
    exact (Array.getElem?_eq_some_iff.1 hs.at_).1
  let a' : Act := { a with defers := mark ++ a.defers }
  let τ0 : St := { tmps := σ.tmps, h := hups σ.h (ms.map fun i => (i, none)) }
  have hless : ∀ b, Own ν τ0.h b → Own ν σ.h b := fun b ⟨i, B, h1, h2⟩ => ⟨i, B, (hget_kills h1).1, h2⟩
  have I3 : Inv1 RS B J sd τ0 s a' w1 ν G U N := by
    refine ⟨I2.sr.less (fun i B h => (hget_kills h).1) (length_hups _ _), I2.ts, I2.rs, I2.ext.less hless, I2.first, I2.y, Nat.le_trans I2.len (length_hups _ _), fun p hp => (I2.side p hp).less hless, fun d hd => ?_, ?_⟩
    · rcases List.mem_append.1 hd with hd | hd
      · rcases hmark with hm | ⟨r, hm, hr, hrl, hr1⟩
        · rw [hm] at hd; cases hd
        · rw [hm] at hd
          simp only [List.mem_singleton] at hd
          obtain ⟨f1, f2, f3, f4, f5⟩ := fresh hr
          exact ⟨r, hd, by omega, hr1, f1, f2, f3, f4, fun h => f5 (hless r h)⟩
      · obtain ⟨r, e, hs⟩ := I2.marks d hd
        exact ⟨r, e, hs.less hless⟩
    · show (mark ++ a.defers).Pairwise _
      rcases hmark with hm | ⟨r, hm, hr, hrl, hr1⟩
      · rw [hm]; exact I2.nd
      · rw [hm]
        refine List.pairwise_append.2 ⟨by simp, I2.nd, fun x hx y hy e => ?_⟩
        simp only [List.mem_singleton] at hx
        subst hx; subst e
        have := hmlt hy; omega
  obtain ⟨fl1, fl2, fl3, fl4, fl5⟩ := fresh hl
  have hB1 : B.w.heap.size ≤ l := Nat.le_trans I1.ext.size hl
  have hside : Side w1 G J U N (Own ν τ0.h) B.w.heap.size l (.loop (recOf fn a'.tmps ps assign body dblk none)) := ⟨hB1, hrec, fl1, fl2, fl3, fl4, fun h => fl5 (hless l h)⟩
  have hsdl : ∀ p ∈ sd, p.1 ≠ l := fun p hp e => by
    have := (Array.getElem?_eq_some_iff.1 (I1.side p hp).at_).1
    omega
  have hdl : ∀ d ∈ a'.defers, d ≠ markOf l := fun d hd e => by
    subst e
    rcases List.mem_append.1 hd with hd | hd
    · rcases hmark with hm | ⟨r, hm, hr, hrl, hr1⟩
      · rw [hm] at hd; cases hd
      · rw [hm] at hd
        simp only [List.mem_singleton] at hd
        cases hd
        exact hrl rfl
    · have := hmlt hd; omega
  let Uc : Nat → Prop := fun b => U b ∨ Own ν τ0.h b ∨ b = l
  let Nc : Nat → Prop := fun b => Uc b ∨ Need B J U N (Own ν τ0.h) sd a'.defers b
  have hrs : RSr RS B J sd a' l (recOf fn a'.tmps ps assign body dblk) (τ0, none, s) w1 G Uc Nc := ⟨ν, U, N, I3, hside, hsdl, hdl, fun _ => Iff.rfl, fun _ => Iff.rfl⟩
  have hll : l < w1.heap.size := (Array.getElem?_eq_some_iff.1 hrec).1
  have hUlt : ∀ b, Uc b → b < w1.heap.size := by
    rintro b (h | h | h)
    · exact I3.sr.nlt b (I3.sr.un b h)
    · exact I3.sr.own_lt h
    · subst h; exact hll
  have hNlt : ∀ b, Nc b → b < w1.heap.size := by
    rintro b (h | h | h | h | h | h | h | h)
    · exact hUlt b h
    · exact hUlt b (.inl h)
    · exact hUlt b (.inr (.inl h))
    · exact I3.sr.nlt b h
    · exact I3.sr.jlt b h
    · exact Nat.lt_of_lt_of_le h.1 I3.ext.size
    · obtain ⟨p, hp, rfl⟩ := h
      exact (Array.getElem?_eq_some_iff.1 (I3.side p hp).at_).1
    · obtain ⟨d, hd, rfl⟩ := h
      obtain ⟨r, e, hs⟩ := I3.marks _ hd
      cases e
      exact (Array.getElem?_eq_some_iff.1 hs.at_).1
  have hsr : SR w1 G J Uc Nc ⟨(ν.over ms).φ, some l⟩ (ms.map fun i => (hget σ.h i).map (mvB true false (pos ms))) := by
    refine (gc_sr I2.sr hnd (kb := true) (ky := false) (J' := J) (y := some l) (fun _ b hb => .inl hb) (fun _ h => h) (fun h => by cases h)).other hNlt ?_ ?_ ?_ (fun b hb => .inl hb)
    · intro b hb ho
      obtain ⟨m, Bm, hm, h1, h2⟩ := own_gc ho
      have hob : Own ν σ.h b := ⟨m, Bm, h1, h2⟩
      have hnt : ¬ Own ν τ0.h b := fun ⟨i, Bi, h3, h4⟩ => (hget_kills h3).2 (by rw [I2.sr.inj i m _ _ b (hget_kills h3).1 h1 h4 h2]; exact hm)
      have hU0 : ∀ b, Uc b → Own ν σ.h b → ¬ Own ν τ0.h b → False := fun b hu ho' hn => hu.elim (fun h => I2.sr.nown b (I2.sr.un b h) ho') (fun h => h.elim hn (fun e => fl5 (e ▸ ho')))
      rcases hb with h | h | h | h | h | h | h | h
      · exact hU0 b h hob hnt
      · exact hU0 b (.inl h) hob hnt
      · exact hnt h
      · exact I2.sr.nown b h hob
      · exact I2.sr.jown b h hob
      · exact (I2.ext.own b hob).elim h.2 (by omega)
      · obtain ⟨p, hp, rfl⟩ := h
        exact (I2.side p hp).o hob
      · obtain ⟨d, hd, rfl⟩ := h
        rcases List.mem_append.1 hd with hd | hd
        · rcases hmark with hm | ⟨r, hm, hr, hrl, hr1⟩
          · rw [hm] at hd; cases hd
          · rw [hm] at hd
            simp only [List.mem_singleton] at hd
            cases hd
            have := I1.sr.own_lt hob; omega
        · obtain ⟨r, e, hs⟩ := I2.marks _ hd
          cases e
          exact hs.o hob
    · rintro b hb (h | h | h)
      · exact I2.sr.gu b hb h
      · exact I2.sr.gown b hb (hless b h)
      · subst h; exact fl1 hb
    · rintro b hb (h | h | h)
      · exact I2.sr.ju b hb h
      · exact I2.sr.jown b hb (hless b h)
      · subst h; exact fl2 hb
  have has1 : RelL w1 G fa ν J as := RelL_mono (fun _ h => h) (fun b hb => hold b (I1.sr.glt b hb)) hszs _ (Names.le_refl _) (fun _ h => .inl h) (fun b hb => hold b (I1.sr.jlt b hb)) has
  have hcs1 : RelL w1 G cp ν J cs := RelL_mono (fun _ h => h) (fun b hb => hold b (I1.sr.glt b hb)) hszs _ (Names.le_refl _) (fun _ h => .inl h) (fun b hb => hold b (I1.sr.jlt b hb)) hcs
  have hmv : ∀ c v, Rel w1 G c ν J v → Rel w1 G (mv true false (pos ms) deep c) ⟨(ν.over ms).φ, some l⟩ J v := Rel_mv (ν' := ⟨(ν.over ms).φ, some l⟩) over_pos (fun h => by cases h) (fun _ b hb => .inl hb) deep
  have hrel : RelL w1 G (fa.map (mv true false (pos ms) deep) ++ [.yl] ++ cp.map (mv true false (pos ms) deep)) ⟨(ν.over ms).φ, some l⟩ J (as ++ [.func (.yield l) #[] #[]] ++ cs) := by
    refine RelL_append (RelL_append (map_mv_rel hmv has1) (RelL_cons ?_ RelL_nil)) (map_mv_rel hmv hcs1)
    simp only [Rel]
    exact ⟨l, rfl, rfl⟩
  have hc := hgood.2 (RSr RS B J sd a' l (recOf fn a'.tmps ps assign body dblk)) w1 G J Uc Nc ⟨(ν.over ms).φ, some l⟩ _ (rsr_mono hRM) (fun Hf l' e1 e2 => by
    cases e1; cases e2
    exact round_hs hRM iha ihb hgc hH) hsr hrel hrs
  refine ⟨l, mark, w1, { target := .fn (.func gf) cs.toArray, args := as.toArray ++ #[.func (.yield l) #[] #[]] }, w1, gf, (as ++ [Value.func (.yield l) #[] #[]] ++ cs).toArray, w1, hent, ?_, fun f' _ => hF.fn f', ?_, by rw [hF.depth]; simp, ?_⟩
  · have hca : a.eval (.const (.func (.yield l) #[] #[])) = .func (.yield l) #[] #[] := rfl
    simp [resolve, rangeCall, hgv, Deferred.ofValue, hca]
  · have := run_enter (w := w1) hgood.1 ((as.toArray ++ #[Value.func (.yield l) #[] #[]]) ++ cs.toArray)
    simp only [invoke]
    rw [this]
    simp
  · refine CallsIn.mono (hF.calls hc) fun en w3 hR => ?_
    cases en with
    | panicked _ => exact hR.elim
    | outgrown => exact hR.elim
    | returned u =>
      obtain ⟨_, G3, _, _, _, _, _, _, _, ν3, Uo, No, I5, hs5, hsd5, hd5, _, _⟩ := hR
      have hnb : (recOf fn a'.tmps ps assign body dblk pend).state ≠ .busy := by cases pend <;> simp [recOf]
      refine ⟨_, _, run_endLoop hs5.at_ hnb, ?_⟩
      have I6 := I5.on (w' := w3.putObj l (.loop { recOf fn a'.tmps ps assign body dblk pend with state := .exhausted })) (G' := G3) hRM ⟨rfl, rfl⟩ (by rw [World.putObj_size]; exact Nat.le_refl _) (putObj_sz hs5.at_) (fun _ h => h)
        (fun b hb => World.putObj_heap_other (fun e => hs5.g (e ▸ hb))) (fun b hb => by rw [World.putObj_size]; exact I5.sr.glt b hb) (fun b hb _ => World.putObj_heap_other (by
          rcases hb with h | h | h | h | h | h | h <;> rintro rfl
          · exact hs5.u h
          · exact hs5.o h
          · exact hs5.n h
          · exact hs5.j h
          · exact absurd h.1 (Nat.not_lt.2 hs5.new)
          · obtain ⟨p, hp, e⟩ := h; exact hsd5 p hp e
          · obtain ⟨d, hd, e⟩ := h; exact hd5 d hd e)) (fun b hb => .inl hb)
      have hI6 : Inv RS B J sd τ s1 a' (w3.putObj l (.loop { recOf fn a'.tmps ps assign body dblk pend with state := .exhausted })) := ⟨_, _, _, _, I6⟩
      cases pend with
      | none =>
        subst he
        exact ⟨rfl, hI6⟩
      | some e0 =>
        subst he
        cases e0 with
        | normal => exact ⟨rfl, hI6⟩
        | exit id => exact wpIn_exit ⟨rfl, hI6⟩
        | ret => exact wpIn_ret ⟨rfl, hI6⟩

theorem exec_ok (hC : ∀ t T, C.ty t = some T → tyOf C.P t = some T) (hCall : CallOK C.P call) (hExt : ExtOK C) (hDraw : DrawOK C call) (hRM : RMono RS) : ∀ (c : Code), regsOk c = true → ExecOK C call f RS H c := by
  intro c
  induction c with
  | skip =>
    intro hrg F B J sd σ s a w e σ' s' hF hro hH hn0 I h
    simp only [execA, Option.some.injEq, Prod.mk.injEq] at h
    obtain ⟨rfl, rfl, rfl⟩ := h
    exact wpIn_skip ⟨rfl, I⟩
  | label l =>
    intro hrg F B J sd σ s a w e σ' s' hF hro hH hn0 I h
    simp only [execA, Option.some.injEq, Prod.mk.injEq] at h
    obtain ⟨rfl, rfl, rfl⟩ := h
    exact wpIn_label ⟨rfl, I⟩
  | region id ops draw =>
    intro hrg F B J sd σ s a w e σ' s' hF hro hH hn0 I h
    simp only [execA] at h
    cases draw with
    | true =>
      simp only [if_true] at h
      split at h
      · rename_i σ1 s1 hr
        simp only [Option.some.injEq, Prod.mk.injEq] at h
        obtain ⟨rfl, rfl, rfl⟩ := h
        exact hDraw S RS H F B J sd σ s a w _ _ id ops hRM hF hH (by simpa [regsOk] using hrg) I hr
      · cases h
    | false =>
      simp only [Bool.false_eq_true, if_false] at h
      split at h
      · rename_i σ1 s1 hr
        simp only [Option.some.injEq, Prod.mk.injEq] at h
        obtain ⟨rfl, rfl, rfl⟩ := h
        refine wpIn_region ?_
        have := wpOpsIn_run hC hCall hExt hF hRM hH (ops := ops) (σ' := σ1) (s' := s1) (Q := fun x a' w' => x = exOf .normal ∧ Inv RS B J sd σ1 s1 a' w') (fun a' w' I' => ⟨rfl, I'⟩) ops.toList 0 (by simp) σ s a w I hr
        simpa using this
      · cases h
  | seq x y ihx ihy =>
    intro hrg F B J sd σ s a w e σ' s' hF hro hH hn0 I h
    simp only [regsOk, Bool.and_eq_true] at hrg
    simp only [execA] at h
    refine wpIn_seq ?_
    split at h
    · rename_i σ1 s1 h1
      refine wpIn_mono (ihx hrg.1 F B J sd σ s a w _ _ _ hF hro hH hn0 I h1) ?_
      rintro x a' w' ⟨rfl, I'⟩
      exact ihy hrg.2 F B J sd _ _ a' w' _ _ _ hF hro hH hn0 I' h
    · rename_i hne
      refine wpIn_mono (ihx hrg.1 F B J sd σ s a w _ _ _ hF hro hH hn0 I h) ?_
      rintro x a' w' ⟨rfl, I'⟩
      cases e with
      | normal => exact (hne _ _ h).elim
      | exit id => exact ⟨rfl, I'⟩
      | ret => exact ⟨rfl, I'⟩
  | cond c x y ihx ihy =>
    intro hrg F B J sd σ s a w e σ' s' hF hro hH hn0 I h
    simp only [regsOk, Bool.and_eq_true] at hrg
    simp only [execA] at h
    obtain ⟨ν, G, U, N, I1⟩ := I
    have hc := ev_rel I1.ts c
    split at h
    · rename_i t ht
      rw [ht] at hc
      simp only [Rel] at hc
      refine wpIn_cond hc ?_
      cases t with
      | true => exact ihx hrg.1 F B J sd σ s a w _ _ _ hF hro hH hn0 ⟨_, _, _, _, I1⟩ (by simpa using h)
      | false => exact ihy hrg.2 F B J sd σ s a w _ _ _ hF hro hH hn0 ⟨_, _, _, _, I1⟩ (by simpa using h)
    · cases h
  | block id b ih =>
    intro hrg F B J sd σ s a w e σ' s' hF hro hH hn0 I h
    simp only [regsOk] at hrg
    simp only [execA] at h
    refine wpIn_block ?_
    split at h
    · rename_i id' σ1 s1 h1
      refine wpIn_mono (ih hrg F B J sd σ s a w _ _ _ hF hro hH hn0 I h1) ?_
      rintro x a' w' ⟨rfl, I'⟩
      show if id' = id then _ else _
      split at h
      · rename_i e1
        simp only [Option.some.injEq, Prod.mk.injEq] at h
        obtain ⟨rfl, rfl, rfl⟩ := h
        rw [if_pos e1]; exact ⟨rfl, I'⟩
      · rename_i e1
        simp only [Option.some.injEq, Prod.mk.injEq] at h
        obtain ⟨rfl, rfl, rfl⟩ := h
        rw [if_neg e1]; exact ⟨rfl, I'⟩
    · rename_i hne
      refine wpIn_mono (ih hrg F B J sd σ s a w _ _ _ hF hro hH hn0 I h) ?_
      rintro x a' w' ⟨rfl, I'⟩
      cases e with
      | normal => exact ⟨rfl, I'⟩
      | exit id => exact (hne _ _ _ h).elim
      | ret => exact ⟨rfl, I'⟩
  | loop b ih =>
    intro hrg F B J sd σ s a w e σ' s' hF hro hH hn0 I h
    simp only [regsOk] at hrg
    simp only [execA, Option.map_eq_some_iff, Prod.mk.injEq] at h
    obtain ⟨⟨e1, σ1, s1⟩, h, rfl, rfl, rfl⟩ := h
    refine wpIn_mono (loop_ok (nrm := _) ?_ (fun σ s a w e σ' s' I h => ih hrg F B J sd σ s a w e σ' s' hF hro hH hn0 I h) I h) (fun x a' w' hh => ⟨hh.1, gcX_inv hh.2⟩)
    rintro σ s a w ⟨ν, G, U, N, I⟩
    obtain ⟨ν', I', _⟩ := gc_inv (C := C) (f := f) (body := b) I
    exact ⟨ν', G, U, N, I'⟩
  | rangeFunc g ps assign body iha ihb => intro hrg; simp only [regsOk, Bool.and_eq_true] at hrg; exact range_ok hCall hRM (iha hrg.1) (ihb hrg.2)
  | exit id =>
    intro hrg F B J sd σ s a w e σ' s' hF hro hH hn0 I h
    simp only [execA, Option.some.injEq, Prod.mk.injEq] at h
    obtain ⟨rfl, rfl, rfl⟩ := h
    exact wpIn_exit ⟨rfl, I⟩
  | ret =>
    intro hrg F B J sd σ s a w e σ' s' hF hro hH hn0 I h
    simp only [execA, Option.some.injEq, Prod.mk.injEq] at h
    obtain ⟨rfl, rfl, rfl⟩ := h
    exact wpIn_ret ⟨rfl, I⟩
  | goto l =>
    intro hrg F B J sd σ s a w e σ' s' hF hro hH hn0 I h
    simp only [execA, reduceCtorEq] at h
  | refuse =>
    intro hrg F B J sd σ s a w e σ' s' hF hro hH hn0 I h
    simp only [execA, reduceCtorEq] at h
  | scope b ih =>
    intro hrg F B J sd σ s a w e σ' s' hF hro hH hn0 I h
    simp only [execA] at h
    refine wpIn_scope (wpIn_mono (ih hrg F B J sd σ s a w _ _ _ hF hro hH hn0 I h) ?_)
    rintro x a' w' ⟨rfl, I'⟩
    exact ⟨fun l => by cases e <;> simp [exOf], rfl, I'⟩
end
end Go.Lite
