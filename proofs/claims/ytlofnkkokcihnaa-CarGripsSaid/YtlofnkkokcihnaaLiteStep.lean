import Derived.Test.YtlofnkkokcihnaaLiteCall
namespace Go.Lite

/-- The fences that are looked at: the wide one, within a round or not. -/
def Wide (F : Fence) : Prop := F.plain = Fence.wide
theorem Wide.wide : Wide Fence.wide := rfl
theorem Wide.round (l : Nat) : Wide (Fence.wide.inRound l) := rfl
section
variable {F : Fence} {P : Program} {n : Nat}
theorem Wide.fn (hF : Wide F) (f : FuncId) : F.fn f := by
  have := congrArg Fence.fn hF
  rw [show F.fn = F.plain.fn from rfl, this]; trivial
theorem Wide.depth (hF : Wide F) : F.depth = none := by
  have := congrArg Fence.depth hF
  exact this
theorem Wide.calls (hF : Wide F) {f : FuncId} {args : Array Value} {w : World} {R : Ending → World → Prop} (h : CallsIn Fence.wide n P f args w R) : CallsIn F n P f args w R := by
  have h' : CallsIn F.plain n P f args w R := by rw [hF]; exact h
  exact h'
theorem Wide.rounds (hF : Wide F) {l : Nat} {f : FuncId} {tmps : Array Value} {assign body : Code} {w : World} {R : Ending → World → Prop} (h : RoundIn Fence.wide n P l f tmps assign body w R) : RoundIn F n P l f tmps assign body w R := by
  have h' : RoundIn F.plain n P l f tmps assign body w R := by rw [hF]; exact h
  exact h'
end

section
variable {w w' : World} {G G' J U U' N N' : Nat → Prop} {ν ν' : Names} {h nh : Heap} {P : Program}

theorem run_call_value {o : Oper} {cl : Call} (hop : o.op = .call cl) {x : Operand} (hx : cl.callee = .value x) {a : Act} {fn : Fn} {as cs : Array Value} (hv : a.eval x = .func fn as cs) :
    (execOp a.eval o).run P w = (invoke (.fn fn cs) (as ++ cl.args.map a.eval)).run P w := by
  unfold execOp
  simp [hop, resolve, hx, hv, Deferred.ofValue]
theorem run_enter {g : FuncId} (hg : Ent P g) (args : Array Value) : (callFunc g args).run P w = .ok (.enter g args) w := by
  obtain ⟨fn, c, h1, h2, h3⟩ := hg
  simp [callFunc, h1, h2, h3]

theorem enter_wp {F : Fence} (hF : Wide F) {o : Oper} {cl : Call} (hop : o.op = .call cl) {a : Act} {g : FuncId} {args : Array Value} (he : (execOp a.eval o).run P w = .ok (.enter g args) w) {next : Act → World → Prop} {Q : Exit → Act → World → Prop} {R : Ending → World → Prop}
    (hc : CallsIn Fence.wide 0 P g args w R) (hR : ∀ e w', R e w' → ∃ u, e = .returned u ∧ next (a.put o.dst u) w') : o.wpIn F 0 P a w next Q := by
  refine ⟨fun f _ => hF.fn f, ?_⟩
  rw [Oper.semAt_eq _ _ _ (by intro c; rw [hop]; simp), he, Oper.uponIn_enter]
  refine ⟨by rw [hF.depth]; simp, CallsIn.mono (hF.calls hc) fun e w' hr => ?_⟩
  obtain ⟨u, rfl, hn⟩ := hR e w' hr
  exact hn
theorem round_wp {F : Fence} (hF : Wide F) {o : Oper} {cl : Call} (hop : o.op = .call cl) {a : Act} {l : Nat} {f : FuncId} {tmps : Array Value} {assign body : Code} (he : (execOp a.eval o).run P w = .ok (.round l f tmps assign body) w)
    {next : Act → World → Prop} {Q : Exit → Act → World → Prop} {R : Ending → World → Prop}
    (hc : RoundIn Fence.wide 0 P l f tmps assign body w R) (hR : ∀ e w', R e w' → ∃ u, e = .returned u ∧ next (a.put o.dst u) w') : o.wpIn F 0 P a w next Q := by
  refine ⟨fun f _ => hF.fn f, ?_⟩
  rw [Oper.semAt_eq _ _ _ (by intro c; rw [hop]; simp), he, Oper.uponIn_round]
  refine ⟨by rw [hF.depth]; simp, RoundIn.mono (hF.rounds hc) fun e w' hr => ?_⟩
  obtain ⟨u, rfl, hn⟩ := hR e w' hr
  exact hn

theorem sr_nil (S : SR w G J U N ν h) (J' : Nat → Prop) (hJ : ∀ b, J' b → b < w.heap.size) : SR w G J' (fun _ => False) N Names.none [] where
  blk i B e := by rw [hget_nil] at e; cases e
  inj i j B B' b e := by rw [hget_nil] at e; cases e
  dom i b e := by cases e
  glt := S.glt
  jlt := hJ
  nlt := S.nlt
  gown b _ := by rintro ⟨i, B, e, _⟩; rw [hget_nil] at e; cases e
  jown b _ := by rintro ⟨i, B, e, _⟩; rw [hget_nil] at e; cases e
  nown b _ := by rintro ⟨i, B, e, _⟩; rw [hget_nil] at e; cases e
  gu _ _ h := h
  ju _ _ h := h
  un _ h := h.elim

/-- A call whose arguments are lent. -/
theorem pure_wp {F : Fence} (hF : Wide F) {S : Type} {RS : StRel S} (hRM : RMono RS) (Sr : SR w G J U N ν h) {s : S} (hRS : RS s w G U N) {look : Nat → Option Blk} (hl : ∀ i B, look i = some B → hget h i = some B) {at_ : Nat} (hat : ∀ j, at_ ≤ j → j < at_ + nh.length → ν.φ j = none)
    {o : Oper} {cl : Call} (hop : o.op = .call cl) {x : Operand} (hx : cl.callee = .value x) {a : Act} {g : FuncId} {as cs : Array Value} (hv : a.eval x = .func (.func g) as cs) {args : List AV}
    (hr : RelL w G args ν J ((as ++ cl.args.map a.eval) ++ cs).toList) {v : AV} (hg : Good (S := Unit) P none g (args.map (fz look deep)) [] () v nh ()) {Q : Exit → Act → World → Prop} :
    o.wpIn F 0 P a w (fun a' w' => ∃ u, a' = a.put o.dst u ∧ After RS w G J U N ν h at_ ⟨mv true true (back [] at_) deep v, [], (handBack [] at_ nh).2, s⟩ u w') Q := by
  have hrel : RelL w G (args.map (fz look deep)) Names.none (fun b => J b ∨ Own ν h b) ((as ++ cl.args.map a.eval) ++ cs).toList :=
    map_mv_rel (Rel_fz (J' := fun b => J b ∨ Own ν h b) (fun i B e => by
      obtain ⟨b, hb, hB⟩ := Sr.blk i B (hl i B e)
      exact ⟨b, hb, .inr ⟨i, B, hl i B e, hb⟩, hB⟩) (fun b hb => .inl (.inl hb)) deep) hr
  have hc := hg.2 (fun _ _ _ _ _ => True) w G (fun b => J b ∨ Own ν h b) (fun _ => False) N Names.none _ (fun _ _ _ _ _ _ _ _ _ _ _ _ _ _ _ _ => trivial) (fun Hf l e => by cases e)
    (sr_nil Sr _ (fun b hb => hb.elim (Sr.jlt b) Sr.own_lt)) hrel trivial
  rw [Array.toArray_toList] at hc
  refine enter_wp hF hop (by rw [run_call_value hop hx hv]; exact run_enter hg.1 _) hc fun e w' hR => ?_
  cases e with
  | returned u => exact ⟨u, rfl, u, rfl, after_pure hRM Sr hat hRS (ν0 := Names.none) rfl hR⟩
  | panicked _ => exact hR.elim
  | outgrown => exact hR.elim

theorem zip_true {β : Type} (m : AV → β) (m' : AV → β) (r : List Bool) : ∀ (l : List AV), (l.zip (l.map (fun _ => true) ++ r)).map (fun p => if p.2 = true then m p.1 else m' p.1) = l.map m
  | [] => by simp
  | c :: cs => by
    simp only [List.map_cons, List.cons_append, List.zip_cons_cons]
    rw [zip_true m m' r cs]
    simp

/-- An operation that is planned does what was reckoned. -/
theorem op_wp {C : Cfg} (hC : ∀ t T, C.ty t = some T → tyOf C.P t = some T) {call : CallT} (hCall : CallOK C.P call) (hExt : ExtOK C) {F : Fence} (hF : Wide F) {S : Type} {RS : StRel S} (hRM : RMono RS) {H : Option (Hd S)} (hH : HSO C.P RS H ν.y)
    {ts : List AV} {a : Act} (Sr : SR w G J U N ν h) (hts : RelL w G ts ν J a.tmps.toList) {s : S} (hRS : RS s w G U N) {look : Nat → Option Blk} (hl : ∀ i B, look i = some B → hget h i = some B) {at_ : Nat} {o : Oper} {ma : MA}
    (hp : plan C (ev ts) o = some ma) {r : Res S} (hat : ∀ j, at_ ≤ j → j < at_ + r.news.length → ν.φ j = none) (ha : act C call H at_ look s ma = some r) {Q : Exit → Act → World → Prop} :
    o.wpIn F 0 C.P a w (fun a' w' => ∃ u, a' = a.put o.dst u ∧ After RS w G J U N ν h at_ r u w') Q := by
  by_cases hm : plainA ma = true
  · obtain ⟨v, w', ν', hrun, hleft⟩ := plain_left hC Sr.noU hts hl hp hm (fun hne => hat at_ (Nat.le_refl _) (by have := List.length_pos_iff.2 hne; omega)) ha
    exact hrun.wp hF.fn ⟨v, rfl, after_plain hRM Sr hRS hleft⟩
  have hk := (plan_kind hp).resolve_left (by rintro ⟨c, rfl⟩; exact hm rfl)
  have hE : ∀ x, Rel w G (ev ts x) ν J (a.eval x) := ev_rel hts
  have hp0 := hp
  unfold plan at hp
  cases hop : o.op <;> simp only [hop, acts, Bool.false_eq_true] at hk
  case alloc t =>
    simp only [hop] at hp
    split at hp
    · cases hp; exact absurd rfl hm
    · cases hp
  case box t x =>
    simp only [hop] at hp
    split at hp
    · cases hp
    · cases hp; exact absurd rfl hm
  case buildSlice t len ps =>
    simp only [hop] at hp
    repeat' (split at hp)
    all_goals first
      | (cases hp; done)
      | (simp only [Option.map_eq_some_iff] at hp; obtain ⟨c, _, rfl⟩ := hp; exact absurd rfl hm)
  case load t x =>
    simp only [hop] at hp
    repeat' (split at hp)
    all_goals first
      | (cases hp; done)
      | (simp only [Option.some.injEq] at hp; subst hp; exact absurd rfl hm)
      | (simp only [Option.map_eq_some_iff] at hp; obtain ⟨c, _, rfl⟩ := hp; exact absurd rfl hm)
  case store t x y =>
    simp only [hop] at hp
    repeat' (split at hp)
    all_goals first
      | (cases hp; done)
      | (simp only [Option.some.injEq] at hp; subst hp; exact absurd rfl hm)
  case makeSlice t l c =>
    simp only [hop] at hp
    repeat' (split at hp)
    all_goals first
      | (cases hp; done)
      | (simp only [Option.some.injEq] at hp; subst hp; exact absurd rfl hm)
  case call cl =>
    simp only [hop] at hp
    cases hcal : cl.callee with
    | invoke _ _ => simp [hcal] at hp
    | builtin b =>
      simp only [hcal] at hp
      exfalso
      unfold planB at hp
      repeat' (split at hp)
      all_goals first
        | (cases hp; done)
        | (simp only [Option.some.injEq] at hp; subst hp; exact absurd rfl hm)
        | (simp only [Option.map_eq_some_iff] at hp; obtain ⟨c, _, rfl⟩ := hp; exact absurd rfl hm)
        | (simp only [Option.some.injEq] at hp; subst hp; simp [act] at ha)
    | value x =>
      simp only [hcal] at hp
      have hxv := hE x
      cases hx : ev ts x <;> simp only [hx, reduceCtorEq] at hp
      case fn fn fs cp =>
        cases fn <;> simp only [reduceCtorEq, Option.some.injEq] at hp
        rename_i g
        subst hp
        rw [hx] at hxv
        simp only [Rel] at hxv
        obtain ⟨as, cs, hv, has, hcs⟩ := hxv
        have hrel : RelL w G (fs ++ cl.args.toList.map (ev ts) ++ cp) ν J ((as.toArray ++ cl.args.map a.eval) ++ cs.toArray).toList := by
          rw [Array.toList_append, Array.toList_append, Array.toList_map]
          exact RelL_append (RelL_append has (ev_relL hts _)) hcs
        simp only [act] at ha
        split at ha
        · rename_i E hE'
          rw [Option.map_eq_some_iff] at ha
          obtain ⟨v, hv', rfl⟩ := ha
          exact pure_wp (nh := []) hF hRM Sr hRS hl (fun j h1 h2 => by simp at h2; omega) hop hcal hv hrel (hExt g E hE' _ v hv')
        · split at ha
          · split at ha
            · rename_i v nh _ hcl
              cases ha
              exact pure_wp hF hRM Sr hRS hl (fun j h1 h2 => hat j h1 (by simpa [handBack] using h2)) hop hcal hv hrel (hCall Unit none g _ _ _ _ _ _ hcl)
            · cases ha
          · rename_i hfl
            generalize hhand : handIn look (C.wr g) (fs ++ cl.args.toList.map (ev ts) ++ cp) = q at ha
            obtain ⟨ms, cargs, ch⟩ := q
            dsimp only at ha
            split at ha
            case h_2 => cases ha
            rename_i v nh s' hcl
            cases ha
            have hgood := hCall _ _ _ _ _ _ _ _ _ hcl
            simp only [handIn, Prod.mk.injEq] at hhand
            obtain ⟨hms, hca, hch⟩ := hhand
            have hn : ms.Nodup := by rw [← hms]; exact reach_nodup _ _ _ _ List.nodup_nil
            rw [hms] at hca hch
            subst hca; subst hch
            have hargs := hand_args (ms := ms) Sr hl _ (C.wr g ++ List.replicate (fs ++ cl.args.toList.map (ev ts) ++ cp).length false) _ hrel (Nat.le_trans (Nat.le_of_eq (List.length_replicate (n := (fs ++ cl.args.toList.map (ev ts) ++ cp).length) (a := false)).symm) (by rw [List.length_append (as := C.wr g)]; exact Nat.le_add_left _ _))
            have hsr := hand_sr Sr hl hn (fun b => J b ∨ Kept ν h ms b) U N (fun b hb => .inl hb) (by
              rintro b (hb | ⟨i, B, h1, h2, h3⟩)
              · exact .inl hb
              · refine .inr ⟨⟨i, B, h1, h2⟩, fun j hj => ?_⟩
                cases hB : hget h j with
                | none => exact .inr rfl
                | some B' => exact .inl (by rw [Sr.inj j i _ _ b hB h1 hj h2]; exact h3)) Sr.un (fun _ h => h) Sr.un (fun _ h => h)
            have hc := hgood.2 RS w G (fun b => J b ∨ Kept ν h ms b) U N (ν.over ms) _ hRM hH hsr hargs hRS
            rw [Array.toArray_toList] at hc
            refine enter_wp hF hop (by rw [run_call_value hop hcal hv]; exact run_enter hgood.1 _) hc fun e w' hR => ?_
            cases e with
            | returned u => exact ⟨u, rfl, u, rfl, after_call Sr hl hn (fun j h1 h2 => hat j h1 (by simpa [handBack] using h2)) hR⟩
            | panicked _ => exact hR.elim
            | outgrown => exact hR.elim
      case yl =>
        simp only [Option.some.injEq] at hp
        subst hp
        rw [hx] at hxv
        simp only [Rel] at hxv
        obtain ⟨l, hy, hv⟩ := hxv
        simp only [act] at ha
        split at ha
        · cases ha
        rename_i Hf
        generalize hhand : handIn look ((cl.args.toList.map (ev ts)).map fun _ => true) (cl.args.toList.map (ev ts)) = q at ha
        obtain ⟨ms, cargs, ch⟩ := q
        dsimp only at ha
        split at ha
        case h_2 => cases ha
        rename_i b nh s' hcl
        cases ha
        simp only [handIn, Prod.mk.injEq] at hhand
        obtain ⟨hms, hca, hch⟩ := hhand
        have hn : ms.Nodup := by rw [← hms]; exact reach_nodup _ _ _ _ List.nodup_nil
        rw [hms] at hca hch
        rw [zip_true] at hca
        subst hca; subst hch
        have hrel : RelL w G ((cl.args.toList.map (ev ts)).map (mv true true (pos ms) deep)) (ν.over ms) J (cl.args.map a.eval).toList := by
          rw [Array.toList_map]
          exact map_mv_rel (Rel_mv over_pos (fun _ _ h => h) (fun _ b hb => .inl hb) deep) (ev_relL hts _)
        have hsr := hand_sr Sr hl hn J U N (fun b hb => hb) (fun b hb => .inl hb) Sr.un (fun _ h => h) Sr.un (fun _ h => h)
        obtain ⟨f, tmps, assign, body, hyr, hround⟩ := hH Hf l rfl hy _ _ _ _ _ _ hcl w G J U N (ν.over ms) _ hrel hsr hRS
        rw [Array.toArray_toList] at hyr
        refine round_wp hF hop (by
          rw [run_call_value hop hcal hv]
          simpa [invoke] using hyr) hround fun e w' hR => ?_
        obtain ⟨rfl, ν', G', U', N', h1, h2, h3, h4, h5, h6⟩ := hR
        rw [List.length_map] at h2 h3
        have hnh : nh.take ms.length = nh := by rw [← h2]; exact List.take_length
        have hnews : (handBack ms at_ nh).2 = [] := by
          simp only [handBack]; rw [List.drop_eq_nil_of_le (by omega)]; rfl
        obtain ⟨k1, k2, k3, k4⟩ := back_sr (U' := U') (N' := N') Sr hl hn (fun j h1 h2 => by omega) (fun _ h => .inl h) h1 h3 (by rw [h4]; exact fun _ h => h) h5 (fun _ h => h) h5.u h5.n h1.nlt h1.gu h1.un h1.nown
        refine ⟨.bool b, rfl, .bool b, rfl, ν.back ν' ms at_ (nh.length - ms.length), G', U', N', ?_⟩
        rw [hnh]
        unfold backHeap at k1 k3
        rw [hnews] at k1 k3
        refine ⟨k1, k2, rfl, (by simp only [Rel]), k3, h6, fun j hj => ?_⟩
        exfalso
        simp only [Names.back] at hj
        split at hj
        · omega
        · exact absurd rfl hj
end
end Go.Lite
