import Derived.Test.YtlofnkkokcihnaaLiteApp
import Derived.Laws.MakeOwn
import Derived.Great.BuildSlice
namespace Go.Lite
section
variable {w w' : World} {G J U N : Nat → Prop} {ν ν' : Names} {h : Heap} {P : Program}

theorem rep_range (l : List Value) : ∀ (n : Nat), (List.range (n * l.length)).map (fun i => l[i % l.length]!) = (List.replicate n l).flatten
  | 0 => by simp
  | n + 1 => by
    rw [Nat.succ_mul, List.range_add, List.map_append, rep_range l n, List.replicate_succ', List.flatten_append]
    congr 1
    rw [List.map_map]
    simp only [List.flatten_cons, List.flatten_nil, List.append_nil]
    apply List.ext_getElem
    · simp
    · intro i h1 h2
      simp only [List.length_map, List.length_range] at h1
      simp only [List.getElem_map, List.getElem_range, Function.comp_apply]
      rw [Nat.add_comm, Nat.add_mul_mod_self_right, Nat.mod_eq_of_lt h1]
      exact getElem!_pos l i h1
theorem rep_cells (z : Array Value) (n : Nat) : ((Array.range (n * z.size)).map (fun i => z[i % z.size]!)).toList = (List.replicate n z.toList).flatten := by
  rw [Array.toList_map, Array.toList_range, ← rep_range, Array.length_toList]
  apply List.map_congr_left
  intro i _
  simp [getElem!_def]
theorem RelL_rep {cs : List AV} {vs : List Value} (hr : RelL w G cs ν J vs) : ∀ (n : Nat), RelL w G (List.replicate n cs).flatten ν J (List.replicate n vs).flatten
  | 0 => by simpa using RelL_nil
  | n + 1 => by
    rw [List.replicate_succ, List.replicate_succ, List.flatten_cons, List.flatten_cons]
    exact RelL_append hr (RelL_rep hr n)
theorem chunks_flat (s : Nat) : ∀ (n : Nat) (cs : List AV), cs.length = n * s → (chunks s n cs).flatten = cs
  | 0, cs, h => by simp at h; simp [chunks, h]
  | n + 1, cs, h => by
    rw [chunks, List.flatten_cons, chunks_flat s n _ (by rw [List.length_drop, h, Nat.succ_mul]; omega), List.take_append_drop]
theorem fillA_length {E : Operand → AV} {places : Nat → Option (Nat × Nat)} : ∀ (ps : List (Nat × Operand)) (cells out : List AV), fillA places cells (ps.map fun p => (p.1, E p.2)) = some out → out.length = cells.length
  | [], cells, out, h => by simp only [List.map_nil, fillA, Option.some.injEq] at h; rw [h]
  | (i, x) :: ps, cells, out, h => by
    simp only [List.map_cons] at h
    have hne : E x ≠ .any := by intro e; rw [e] at h; simp [fillA] at h
    have h' : (match places i with
      | none => none
      | some (off, size) => if (E x).cells.length = size ∧ off + size ≤ cells.length then fillA places (cells.take off ++ (E x).cells ++ cells.drop (off + size)) (ps.map fun p => (p.1, E p.2)) else none) = some out := by
      revert h hne
      generalize E x = c
      intro h hne
      cases c <;> first | (exact absurd rfl hne) | exact h
    split at h'
    · cases h'
    · split at h'
      case isFalse => cases h'
      rename_i hs
      rw [fillA_length ps _ out h']
      simp; omega

theorem run_buildSlice' (w : World) (t e : TypeId) (len : Nat) (parts : Array (Nat × Value)) (cells : Array Value) (ie : TypeInfo) (z : Value)
    (hu : P.underlying t = some (.slice e)) (hie : P.info? e = some ie) (hz : ie.zero = some z) (hsmall : ¬ len * ie.size > 2 ^ 24)
    (h : Instr.fill (fun i => some (i * ie.size, ie.size)) ((Array.range (len * ie.size)).map (z.cells[· % z.cells.size]!)) parts.toList = some cells) :
    (Instr.buildSlice t len parts).run P w = .ok (.slice (some ⟨w.heap.size, 0, none⟩) len len) (w.alloc (.cells cells e)) := by
  by_cases hpos : len * ie.size = 0
  · have hr : (Array.range 0 : Array Nat) = #[] := rfl
    rw [hpos, hr] at h
    have h' : Instr.fill (fun i => some (i * ie.size, ie.size)) #[] parts.toList = some cells := by simpa using h
    simp [Instr.buildSlice, run_underlying hu, sizeOf, typeInfo, hie, hpos, hr, h', newRow]
  · exact run_buildSlice w t e len parts cells ie z hu hie hz hsmall hpos h

/-- Which operations do more than reckon a value. -/
def acts : Op → Bool
  | .alloc _ => true
  | .box _ _ => true
  | .buildSlice _ _ _ => true
  | .load _ _ => true
  | .store _ _ _ => true
  | .makeSlice _ _ _ => true
  | .call _ => true
  | _ => false
theorem plan_kind {C : Cfg} {E : Operand → AV} {o : Oper} {ma : MA} (h : plan C E o = some ma) : (∃ c, ma = .pure c) ∨ acts o.op = true := by
  unfold plan at h
  cases hop : o.op <;> simp only [hop, acts, Bool.false_eq_true, or_false, or_true, reduceCtorEq] at h ⊢
  all_goals
    repeat' (split at h)
    all_goals first
      | (cases h; done)
      | (simp only [Option.some.injEq] at h; exact ⟨_, h.symm⟩)
      | (simp only [Option.map_eq_some_iff] at h; obtain ⟨c, _, rfl⟩ := h; exact ⟨_, rfl⟩)

/-- Actions that neither call nor yield. -/
def plainA : MA → Bool
  | .call _ _ => false
  | .yld _ => false
  | .newm => false
  | .mlen _ => false
  | .mget _ _ _ _ => false
  | .mset _ _ _ => false
  | _ => true

theorem builtin_left {C : Cfg} (hC : ∀ t T, C.ty t = some T → tyOf C.P t = some T) {ts : List AV} {a : Act} (Sr : SR w G J U N ν h) (hts : RelL w G ts ν J a.tmps.toList) {S : Type} {s : S} {H : Option (Hd S)} {call : CallT}
    {look : Nat → Option Blk} (hl : ∀ i B, look i = some B → hget h i = some B) {at_ : Nat} {o : Oper} {b : Builtin} {args : List Operand} {ats : List TypeId} {ma : MA} (hp : planB C (ev ts) b args ats = some ma)
    (hm : plainA ma = true) (hnp : ∀ c, ma ≠ .pure c) {r : Res S} (hf : r.news ≠ [] → ν.φ at_ = none) (ha : act C call H at_ look s ma = some r) (consts : Array Bool) :
    ∃ v w' ν', (builtin b ats.toArray o.type consts (args.map a.eval).toArray).run C.P w = .ok (.value v) w' ∧ Left w G J U N ν h at_ s r v w' ν' := by
  have hE : ∀ x, Rel w G (ev ts x) ν J (a.eval x) := ev_rel hts
  unfold planB at hp
  split at hp
  · repeat' (split at hp)
    all_goals first
      | (cases hp; done)
      | (simp only [Option.some.injEq] at hp; exact absurd hp.symm (hnp _))
      | (simp only [Option.map_eq_some_iff] at hp; obtain ⟨c, _, rfl⟩ := hp; exact absurd rfl (hnp _))
      | (simp only [Option.some.injEq] at hp; subst hp; simp [plainA] at hm)
  · repeat' (split at hp)
    all_goals first
      | (cases hp; done)
      | (simp only [Option.map_eq_some_iff] at hp; obtain ⟨c, _, rfl⟩ := hp; exact absurd rfl (hnp _))
  · repeat' (split at hp)
    all_goals first
      | (cases hp; done)
      | (simp only [Option.map_eq_some_iff] at hp; obtain ⟨c, _, rfl⟩ := hp; exact absurd rfl (hnp _))
  · -- append
    rename_i x y t u
    cases hT : C.ty t with
    | none => simp [hT] at hp
    | some T =>
    cases hU : C.ty u with
    | none => simp [hT, hU] at hp
    | some U' =>
    obtain ⟨_, _, _, hTu, hTk, -⟩ := ty_info (hC _ _ hT)
    obtain ⟨_, _, _, hUu, hUk, -⟩ := ty_info (hC _ _ hU)
    obtain ⟨kT, _, _, _, _, _⟩ := T
    obtain ⟨kU, _, _, _, _, _⟩ := U'
    simp only [hT, hU] at hp
    cases kT <;> try (simp at hp; done)
    cases kU <;> try (simp at hp; done)
    rename_i e e'
    dsimp only at hp
    cases hE' : C.ty e with
    | none => simp [hE'] at hp
    | some E =>
    obtain ⟨ie, _, hie, _, _, _, hsz, hby, hz, _⟩ := ty_info (hC _ _ hE')
    obtain ⟨_, _, size, bytes, zero, _⟩ := E
    simp only [hE'] at hp
    cases zero with
    | none => simp at hp
    | some z =>
    simp only at hp
    split at hp
    case isFalse => cases hp
    rename_i hzl
    simp only [Option.some.injEq] at hp; subst hp
    simp only at hsz hby hz
    cases hz0 : ie.zero with
    | none => rw [hz0] at hz; cases hz
    | some z0 =>
    rw [hz0] at hz
    simp at hz
    subst hsz; subst hby
    obtain ⟨v, w', ν', hrun, hleft⟩ := append_left Sr hl (kind_slice hTk.symm) (kind_slice hUk.symm) hie hz0 (by rw [hz] at hzl; simpa using hzl) (hE x) (hE y) hf ha (ty := o.type) (P := C.P)
    exact ⟨v, w', ν', by simp [builtin, hrun], hleft⟩
  · -- copy
    rename_i x y t u
    cases hT : C.ty t with
    | none => simp [hT] at hp
    | some T =>
    cases hU : C.ty u with
    | none => simp [hT, hU] at hp
    | some U' =>
    obtain ⟨_, _, _, hTu, hTk, -⟩ := ty_info (hC _ _ hT)
    obtain ⟨_, _, _, hUu, hUk, -⟩ := ty_info (hC _ _ hU)
    obtain ⟨kT, _, _, _, _, _⟩ := T
    obtain ⟨kU, _, _, _, _, _⟩ := U'
    simp only [hT, hU] at hp
    cases kT <;> try (simp at hp; done)
    cases kU <;> try (simp at hp; done)
    rename_i e e'
    dsimp only at hp
    cases hE' : C.ty e with
    | none => simp [hE'] at hp
    | some E =>
    obtain ⟨ie, _, hie, _, _, _, hsz, hby, hz, _⟩ := ty_info (hC _ _ hE')
    simp only [hE', Option.some.injEq] at hp; subst hp
    rw [hsz] at ha
    obtain ⟨v, w', hrun, hleft⟩ := copy_left Sr hl (kind_slice hTk.symm) (kind_slice hUk.symm) hie (hE x) (hE y) ha (ty := o.type) (P := C.P)
    exact ⟨v, w', ν, by simp [builtin, hrun], hleft⟩
  · cases hp

/-- An operation that neither calls nor yields: what it does to the world is what was planned. -/
theorem plain_left {C : Cfg} (hC : ∀ t T, C.ty t = some T → tyOf C.P t = some T) {ts : List AV} {a : Act} (Sr : SR w G J U N ν h) (hts : RelL w G ts ν J a.tmps.toList) {S : Type} {s : S} {H : Option (Hd S)} {call : CallT}
    {look : Nat → Option Blk} (hl : ∀ i B, look i = some B → hget h i = some B) {at_ : Nat} {o : Oper} {ma : MA} (hp : plan C (ev ts) o = some ma) (hm : plainA ma = true)
    {r : Res S} (hf : r.news ≠ [] → ν.φ at_ = none) (ha : act C call H at_ look s ma = some r) : ∃ v w' ν', Runs C.P o a w v w' ∧ Left w G J U N ν h at_ s r v w' ν' := by
  have hE : ∀ x, Rel w G (ev ts x) ν J (a.eval x) := ev_rel hts
  by_cases hpure : ∃ c, ma = .pure c
  · obtain ⟨c, rfl⟩ := hpure
    obtain ⟨v, hv, hr⟩ := plan_pure hC hts hp
    simp only [act, Option.some.injEq] at ha; subst ha
    exact ⟨v, w, ν, hv, left_same Sr hr⟩
  have hnp : ∀ c, ma ≠ .pure c := fun c e => hpure ⟨c, e⟩
  have hk := (plan_kind hp).resolve_left hpure
  have fin : ∀ {s' : Sem Value} {v : Value} {w' : World}, (execOp a.eval o = do pure (.value (← s'))) → s'.run C.P w = .ok v w' → Runs C.P o a w v w' := by
    intro s' v w' e hs
    exact .inl (by rw [e]; simp [hs])
  unfold plan at hp
  cases hop : o.op <;> simp only [hop, acts, Bool.false_eq_true] at hk
  case alloc t =>
    simp only [hop] at hp
    cases hT : C.ty t with
    | none => simp [hT] at hp
    | some T =>
    obtain ⟨i, d, hi, hd, hk', hag, hsz, hby, hz, _⟩ := ty_info (hC _ _ hT)
    obtain ⟨_, _, _, _, zero, _⟩ := T
    simp only [hT] at hp
    cases zero with
    | none => simp at hp
    | some z =>
    simp only [Option.some.injEq] at hp; subst hp
    cases hz0 : i.zero with
    | none => rw [hz0] at hz; cases hz
    | some z0 =>
    rw [hz0] at hz
    simp at hz
    refine ⟨_, _, _, fin (s' := Instr.alloc t true (.tuple #[])) (by unfold execOp; simp only [hop]) ?_, newp_left Sr (v := z0) (by rw [hz]; exact avOf1_relL w G ν J _) hf ha t⟩
    simp [Instr.alloc, newVar, run_zeroValue hi hz0, run_newRow]
  case box t x =>
    simp only [hop] at hp
    have hne : ev ts x ≠ .any := by intro e; simp [e] at hp
    have hp' : some (MA.newp (ev ts x).cells.length (ev ts x).cells) = some ma := by
      revert hp hne
      generalize ev ts x = c
      intro hp hne
      cases c <;> first | exact absurd rfl hne | exact hp
    simp only [Option.some.injEq] at hp'; subst hp'
    refine ⟨_, _, _, fin (s' := Instr.box t (a.eval x)) (by unfold execOp; simp only [hop]) ?_, newp_left Sr (v := a.eval x) (cells_rel hne (hE x)) hf ha t⟩
    simp [Instr.box, newVar, run_newRow]
  case buildSlice t len ps =>
    simp only [hop] at hp
    cases hT : C.ty t with
    | none => simp [hT] at hp
    | some T =>
    obtain ⟨_, _, _, _, hTk, -⟩ := ty_info (hC _ _ hT)
    obtain ⟨kT, _, _, _, _, _⟩ := T
    simp only [hT] at hp
    cases kT <;> try (simp at hp; done)
    rename_i e
    dsimp only at hp
    cases hE' : C.ty e with
    | none => simp [hE'] at hp
    | some E =>
    obtain ⟨ie, _, hie, _, _, _, hsz, hby, hz, _⟩ := ty_info (hC _ _ hE')
    obtain ⟨_, _, size, bytes, zero, _⟩ := E
    simp only [hE'] at hp
    cases zero with
    | none => simp at hp
    | some z =>
    simp only at hp
    split at hp
    case isFalse => cases hp
    rename_i hb
    simp only [Option.map_eq_some_iff] at hp
    obtain ⟨cs, hfill, rfl⟩ := hp
    simp only at hsz hby hz
    cases hz0 : ie.zero with
    | none => rw [hz0] at hz; cases hz
    | some z0 =>
    rw [hz0] at hz
    simp at hz
    subst hsz
    have hzl : z0.cells.size = ie.size := by rw [← hb.2, hz]; simp
    have hzr : RelL w G z ν J z0.cells.toList := by rw [hz]; exact avOf1_relL w G ν J _
    have hcells : RelL w G (List.replicate len z).flatten ν J ((Array.range (len * ie.size)).map (z0.cells[· % z0.cells.size]!)).toList := by
      rw [← hzl, rep_cells]; exact RelL_rep hzr len
    obtain ⟨us, hus, hrel⟩ := fillA_run hE ps.toList _ _ cs hcells hfill
    have hcl := fillA_length _ _ _ hfill
    have hcl' : cs.length = len * ie.size := by rw [hcl, List.length_flatten, List.map_replicate, List.sum_replicate_nat, hb.2]
    have hul : us.size = len * ie.size := by rw [← hcl']; simpa using (RelL_length hrel).symm
    refine ⟨_, _, ν.with at_ w.heap.size, fin (s' := Instr.buildSlice t len (ps.map fun (i, x) => (i, a.eval x))) (by unfold execOp; simp only [hop])
      (run_buildSlice' w t e len _ us ie z0 (kind_slice hTk.symm) hie hz0 (by omega) (by simpa using hus)), ?_⟩
    exact news_left Sr (cells := us) (by rw [chunks_flat _ _ _ hcl']; exact hrel) (by omega) hf ha e
  case makeSlice t l c =>
    simp only [hop] at hp
    cases hT : C.ty t with
    | none => simp [hT] at hp
    | some T =>
    obtain ⟨_, _, _, _, hTk, -⟩ := ty_info (hC _ _ hT)
    obtain ⟨kT, _, _, _, _, _⟩ := T
    cases hxl : ev ts l <;> simp only [hT, hxl] at hp <;> (cases kT <;> try (simp at hp; done))
    rename_i kl n e
    cases hxc : ev ts c <;> simp only [hxc] at hp <;> (try (simp at hp; done)) <;> (cases kl <;> try (simp at hp; done))
    rename_i kc m
    cases kc <;> try (simp at hp; done)
    dsimp only at hp
    cases hE' : C.ty e with
    | none => simp [hE'] at hp
    | some E =>
    obtain ⟨ie, _, hie, _, _, _, hsz, hby, hz, _⟩ := ty_info (hC _ _ hE')
    obtain ⟨_, _, size, bytes, zero, _⟩ := E
    simp only [hE'] at hp
    cases zero with
    | none => simp at hp
    | some z =>
    simp only at hp
    split at hp
    case isFalse => cases hp
    rename_i hb
    obtain ⟨hb0, rfl, hb1, hb2, hb3, hb4⟩ := hb
    simp only [Option.some.injEq] at hp; subst hp
    simp only at hsz hby hz
    cases hz0 : ie.zero with
    | none => rw [hz0] at hz; cases hz
    | some z0 =>
    rw [hz0] at hz
    simp at hz
    subst hsz; subst hby
    have hzl : z0.cells.size = ie.size := by rw [← hb3, hz]; simp
    have hzr : RelL w G z ν J z0.cells.toList := by rw [hz]; exact avOf1_relL w G ν J _
    have hv1 := rel_int hxl (hE l)
    have hv2 := rel_int hxc (hE c)
    have hrun := run_make (P := C.P) w t e ie z0 (kind_slice hTk.symm) hie hz0 .i64 .i64 n n hb0 (Int.le_refl _) (by omega) (by omega)
    refine ⟨_, _, ν.with at_ w.heap.size, fin (s' := Instr.makeSlice t (a.eval l) (a.eval c)) (by unfold execOp; simp only [hop]) (by rw [hv1, hv2]; exact hrun), ?_⟩
    refine news_left Sr (cells := madeCells z0.cells (n.toNat * ie.size)) ?_ (by rw [size_madeCells]; exact Nat.le_refl _) hf ha e
    unfold madeCells
    rw [← hzl, rep_cells]
    exact RelL_rep hzr _
  case load t x =>
    simp only [hop] at hp
    cases hT : C.ty t with
    | none => simp [hT] at hp
    | some T =>
    simp only [hT] at hp
    cases hx : ev ts x <;> simp only [hx, reduceCtorEq] at hp
    case ptr i sz k j =>
      simp only [Option.some.injEq] at hp; subst hp
      have hv := hE x
      rw [hx] at hv
      obtain ⟨u, hrun, hleft⟩ := load_left Sr hl (hC _ _ hT) hv ha
      exact ⟨u, w, ν, fin (s' := Instr.loadAt t (a.eval x)) (by unfold execOp; simp only [hop]) hrun, hleft⟩
    case eptr kd cs =>
      exfalso
      split at hp
      · split at hp
        · simp only [Option.some.injEq] at hp; exact hnp _ hp.symm
        · cases hp
      · simp only [Option.map_eq_some_iff] at hp; obtain ⟨c, _, rfl⟩ := hp; exact hnp _ rfl
  case store t x y =>
    simp only [hop] at hp
    cases hT : C.ty t with
    | none => simp [hT] at hp
    | some T =>
    simp only [hT] at hp
    cases hx : ev ts x <;> simp only [hx, reduceCtorEq] at hp
    case ptr i sz k j =>
      have hne : ev ts y ≠ .any := by intro e; simp [e] at hp
      have hp' : (if (ev ts y).cells.length = T.size then some (MA.store i sz k j (ev ts y).cells) else none) = some ma := by
        revert hp hne
        generalize ev ts y = c
        intro hp hne
        cases c <;> first | exact absurd rfl hne | exact hp
      split at hp'
      case isFalse => cases hp'
      rename_i hlen
      simp only [Option.some.injEq] at hp'; subst hp'
      have hv := hE x
      rw [hx] at hv
      obtain ⟨w', hrun, hleft⟩ := store_left Sr hl (hC _ _ hT) hv (cells_rel hne (hE y)) hlen ha
      exact ⟨undef, w', ν, .inr ⟨by unfold execOp; simp only [hop]; simp [hrun], rfl⟩, hleft⟩
  case call cl =>
    simp only [hop] at hp
    cases hcal : cl.callee with
    | builtin b =>
      simp only [hcal] at hp
      obtain ⟨consts, hexec⟩ := run_builtin (P := C.P) (w := w) (a := a) hop hcal
      obtain ⟨v, w', ν', hrun, hleft⟩ := builtin_left hC Sr hts hl (o := o) hp hm hnp hf ha consts
      refine ⟨v, w', ν', .inl ?_, hleft⟩
      rw [hexec, show cl.args.map a.eval = (cl.args.toList.map a.eval).toArray from Array.ext' (by rw [Array.toList_map])]
      simpa using hrun
    | invoke _ _ => simp [hcal] at hp
    | value f =>
      simp only [hcal] at hp
      repeat' (split at hp)
      all_goals first
        | (cases hp; done)
        | (simp only [Option.some.injEq] at hp; subst hp; simp [plainA] at hm)
end
end Go.Lite
