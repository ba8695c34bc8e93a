import Derived.Test.YtlofnkkokcihnaaLiteRound
namespace Go.Lite
section
variable {w w' : World} {G G' J Jc U U' Uc N N' Nc : Nat → Prop} {ν ν' νc : Names} {h yh nh : Heap} {P : Program}
variable {S : Type} {RS : StRel S} {B : Base} {sd : List (Nat × Obj)} {σ : St} {s : S} {a : Act}

def exOf : Ex → Exit
  | .normal => .normal
  | .exit id => .exit id
  | .ret => .ret
def codeOf : Ex → Option Code
  | .normal => none
  | .exit id => some (.exit id)
  | .ret => some .ret

/-- Code does what was reckoned. -/
def ExecOK (C : Cfg) (call : CallT) (f : FuncId) {S : Type} (RS : StRel S) (H : Option (Hd S)) (c : Code) : Prop :=
  ∀ (F : Fence) (B : Base) (J : Nat → Prop) (sd : List (Nat × Obj)) (σ : St) (s : S) (a : Act) (w : World) (e : Ex) (σ' : St) (s' : S), Wide F → (∀ l, F.round = some l → ∃ rec, (l, Obj.loop rec) ∈ sd) → HSO C.P RS H B.y → B.n0 ≤ B.w.heap.size →
    Inv RS B J sd σ s a w → execA C call f B.k H c σ s = some (e, σ', s') → c.wpIn F 0 C.P (fun x a' w' => x = exOf e ∧ Inv RS B J sd σ' s' a' w') a w

/-- The record of a range over a function. -/
def recOf (fn : FuncId) (tmps : Array Value) (ps : Array Tmp) (assign body : Code) (d : Nat) (pend : Option Ex) : Loop :=
  { state := if pend.isNone then .ready else .done, pending := pend.bind codeOf, fn, tmps, params := ps, assign, body, defers := d }

/-- What holds of the state of a range over a function, between the rounds. -/
def RSr {S : Type} (RS : StRel S) (B : Base) (J : Nat → Prop) (sd : List (Nat × Obj)) (a : Act) (l : Nat) (rc : Option Ex → Loop) : StRel (St × Option Ex × S) := fun st w G U N =>
  ∃ ν Uo No, Inv1 RS B J sd st.1 st.2.2 a w ν G Uo No ∧ Side w G J Uo No (Own ν st.1.h) B.w.heap.size l (.loop (rc st.2.1)) ∧ (∀ p ∈ sd, p.1 ≠ l) ∧ (∀ d ∈ a.defers, d ≠ markOf l) ∧
    (∀ b, U b ↔ Uo b ∨ Own ν st.1.h b ∨ b = l) ∧ ∀ b, N b ↔ U b ∨ Need B J Uo No (Own ν st.1.h) sd a.defers b

theorem rsr_mono (hRM : RMono RS) {J : Nat → Prop} {l : Nat} {rc : Option Ex → Loop} : RMono (RSr RS B J sd a l rc) := by
  rintro st w w' G G' U N ⟨ν, Uo, No, I, hs, h1, h2, hU, hN⟩ henv hsize hk hsz hgg hG hg hlt
  refine ⟨ν, Uo, No, I.on hRM henv hsize hsz hgg hG hlt (fun b hb _ => hk b ((hN b).2 (.inr hb))) (fun b hb => (hg b hb).imp_right (fun h hn => h ((hN b).2 (.inr hn)))), ?_, h1, h2, hU, hN⟩
  have hl : N l := (hN l).2 (.inl ((hU l).2 (.inr (.inr rfl))))
  exact ⟨hs.new, (hk l hl).trans hs.at_, fun h => (hg l h).elim hs.g (fun h => h hl), hs.j, hs.u, hs.n, hs.o⟩

theorem round_post {l : Nat} {R : Ending → World → Prop} {e : Ex} {x : Exit} {a : Act} {w : World} (hx : x = exOf e) (h : ∃ v w', (Instr.endRound l (codeOf e)).run P w = .ok v w' ∧ R (.returned v) w') : roundPost P l R x a w := by
  subst hx
  cases e <;> exact h

theorem foldl_zip_arr (ps : Array Tmp) (us : List Value) (tmps : Array Value) : (ps.zip us.toArray).foldl (fun tmps (x : Tmp × Value) => match x with | (t, a) => tmps.setIfInBounds t a) tmps = (ps.toList.zip us).foldl (fun tmps p => tmps.setIfInBounds p.1 p.2) tmps := by
  rw [← Array.foldl_toList, Array.toList_zip]

/-- A round does what was reckoned. -/
theorem round_hs {C : Cfg} {call : CallT} {f : FuncId} (hRM : RMono RS) {H : Option (Hd S)} {ps : Array Tmp} {assign body : Code} (hA : ExecOK C call f RS H assign) (hB : ExecOK C call f RS H body) {J : Nat → Prop} {l : Nat} {fn : FuncId} {dblk : Nat} {gc : St → St}
    (hgc : ∀ {σ s a w ν G U N}, Inv1 RS B J sd σ s a w ν G U N → ∃ ν', Inv1 RS B J sd (gc σ) s a w ν' G U N ∧ ∀ b, Own ν' (gc σ).h b → Own ν σ.h b) (hH : HSO C.P RS H B.y) :
    HS C.P (RSr RS B J sd a l (recOf fn a.tmps ps assign body dblk)) l (roundH ps gc (fun kk => execA C call f kk H assign) (fun kk => execA C call f kk H body)) := by
  rintro ya yh ⟨τ, pend, s⟩ b rb st' hrun w G Jc U N νc vs hya hyh ⟨ν, Uo, No, I, hside, hsdl, hdl, hU, hN⟩
  unfold roundH at hrun
  cases pend with
  | some e => cases hrun
  | none =>
  simp only at hrun I hside hU hN
  split at hrun
  case isFalse => cases hrun
  rename_i hlen
  split at hrun
  case h_2 => cases hrun
  rename_i σa sa hra
  have hout : ∃ e σ2 s2, execA C call f (τ.h.length + yh.length) H body σa sa = some (e, σ2, s2) ∧ b = (codeOf e).isNone ∧ rb = List.replicate yh.length none ∧
      st' = (gc { tmps := τ.tmps, h := σ2.h }, (if (codeOf e).isNone then none else some e), s2) := by
    split at hrun
    · rename_i σ2 s2 hrb; cases hrun; exact ⟨.normal, σ2, s2, hrb, rfl, rfl, rfl⟩
    · rename_i e σ2 s2 hne hrb
      cases hrun
      cases e with
      | normal => exact (hne rfl).elim
      | exit id => exact ⟨.exit id, σ2, s2, hrb, rfl, rfl, rfl⟩
      | ret => exact ⟨.ret, σ2, s2, hrb, rfl, rfl, rfl⟩
    · cases hrun
  clear hrun
  obtain ⟨e, σ2, s2, hrb, rfl, rfl, rfl⟩ := hout
  have hneed : ∀ b, Need B J Uo No (Own ν τ.h) sd a.defers b → N b := fun b hb => (hN b).2 (.inr hb)
  have hUN : ∀ b, U b → N b := fun b hb => (hN b).2 (.inl hb)
  have hlU : U l := (hU l).2 (.inr (.inr rfl))
  have hcN : ∀ b, Own νc yh b → ¬ N b := fun b ho hn => hyh.nown b hn ho
  have hSR1 := sr_join I.sr hyh (fun b ho ht => hcN b ho (hneed b (.inr (.inl ht)))) (fun b hj ho => hcN b ho (hneed b (.inr (.inr (.inr (.inl hj)))))) (fun b hn ho => hcN b ho (hneed b (.inr (.inr (.inl hn)))))
  have hdm : ∀ d ∈ a.defers, ∃ r, d = markOf r := fun d hd => let ⟨r, e, _⟩ := I.marks d hd; ⟨r, e⟩
  have sideOf : ∀ {n0 r o}, N r → Side w G J Uo No (Own ν τ.h) n0 r o → Side w G J Uo No (Own (ν.join νc τ.h.length yh.length) (joinHeap τ.h yh)) 0 r o := fun {n0 r o} hr hs =>
    ⟨Nat.zero_le _, hs.at_, hs.g, hs.j, hs.u, hs.n, fun ho => (own_join I.sr ho).elim hs.o (fun h => hcN r h hr)⟩
  have hvl : vs.length = ps.size := by rw [← RelL_length hya, hlen]
  refine ⟨_, _, _, _, run_yield hside.at_ (by simpa [recOf] using hvl), roundIn_of_wpIn trivial ?_⟩
  -- the left sides
  let σ1 : St := { tmps := setParams ps.toList (ya.map (mv false false (roundIn yh.length τ.h.length) deep)) τ.tmps, h := joinHeap τ.h yh }
  let rdy : Obj := .loop (recOf fn a.tmps ps assign body dblk none)
  let B1 : Base := ⟨w, G, Uo, No, Own (ν.join νc τ.h.length yh.length) (joinHeap τ.h yh), (ν.join νc τ.h.length yh.length).φ, B.y, τ.h.length + yh.length, 0⟩
  have I1 : Inv1 RS B1 J ((l, rdy) :: (sd ++ pairsOf a.defers)) σ1 s { tmps := (ps.toList.zip vs).foldl (fun tmps p => tmps.setIfInBounds p.1 p.2) a.tmps, defers := [] } w (ν.join νc τ.h.length yh.length) G Uo No := by
    refine ⟨hSR1, ?_, I.rs, Ext.refl .., fun _ _ => rfl, I.y, ?_, ?_, (fun d hd => by cases hd), List.Pairwise.nil⟩
    · refine setParams_rel _ _ _ _ _ (map_mv_rel (Rel_mv join_pos (fun h => by cases h) (fun h => by cases h) deep) hya) ?_
      exact RelL_mono (fun _ h => h) (fun _ _ => rfl) (fun _ => Nat.le_refl _) _ (join_le I.sr) (fun _ h => .inl h) (fun _ _ => rfl) I.ts
    · show _ ≤ (joinHeap _ _).length
      simp [joinHeap]
      exact Nat.le_refl _
    · intro p hp
      rcases List.mem_cons.1 hp with rfl | hp
      · exact sideOf (hUN _ hlU) hside
      · rcases List.mem_append.1 hp with hp | hp
        · exact sideOf (hneed _ (.inr (.inr (.inr (.inr (.inr (.inl ⟨p, hp, rfl⟩))))))) (I.side p hp)
        · obtain ⟨h1, h2⟩ := pairsOf_to hdm hp
          obtain ⟨r, e, hs⟩ := I.marks _ h1
          cases e
          rw [h2]
          exact sideOf (hneed _ (.inr (.inr (.inr (.inr (.inr (.inr ⟨_, h1, rfl⟩))))))) hs
  have hro : ∀ (rc : Loop) l', (Fence.wide.inRound l).round = some l' → ∃ rec, (l', Obj.loop rec) ∈ (l, Obj.loop rc) :: (sd ++ pairsOf a.defers) := fun rc l' e => by
    simp only [Fence.inRound_round, Option.some.injEq] at e
    subst e
    exact ⟨rc, List.mem_cons_self⟩
  have hw1 := hA (Fence.wide.inRound l) B1 J _ σ1 s _ w .normal σa sa (Wide.round l) (hro _) hH (Nat.zero_le _) ⟨_, _, _, _, I1⟩ hra
  rw [show (((recOf fn a.tmps ps assign body dblk none).params.zip vs.toArray).foldl (fun tmps (x : Tmp × Value) => match x with | (t, a) => tmps.setIfInBounds t a) (recOf fn a.tmps ps assign body dblk none).tmps) =
    (ps.toList.zip vs).foldl (fun tmps p => tmps.setIfInBounds p.1 p.2) a.tmps from foldl_zip_arr ps vs a.tmps]
  refine wpIn_mono hw1 ?_
  rintro x a1 w1 ⟨rfl, νa, Ga, Ua, Na, I2⟩
  have hs2 := I2.side (l, rdy) List.mem_cons_self
  show ∃ w2, _
  refine ⟨_, run_beginRound hs2.at_ rfl, ?_⟩
  -- the body
  let bsy : Loop := { recOf fn a.tmps ps assign body dblk none with state := .busy }
  let B2 : Base := ⟨w1.putObj l (.loop bsy), Ga, Ua, Na, Own νa σa.h, νa.φ, νa.y, τ.h.length + yh.length, 0⟩
  have hrest : ∀ p ∈ sd ++ pairsOf a.defers, p.1 ≠ l := fun p hp => by
    rcases List.mem_append.1 hp with hp | hp
    · exact hsdl p hp
    · intro e
      obtain ⟨h1, _⟩ := pairsOf_to hdm hp
      exact hdl _ h1 (by rw [e])
  have hml : ∀ {a' : Act} {n0 : Nat} {w : World} {r : Loop} {G U N O : Nat → Prop}, w.heap[l]? = some (.loop r) → (∀ d ∈ a'.defers, ∃ r, d = markOf r ∧ Side w G J U N O n0 r (.deferred (some []))) → ∀ d ∈ a'.defers, d ∈ a'.defers ∧ d ≠ markOf l := fun hl hm d hd => by
    refine ⟨hd, fun e => ?_⟩
    obtain ⟨r, e', hs⟩ := hm d hd
    rw [e] at e'
    cases e'
    rw [hs.at_] at hl; cases hl
  have I3 := I2.change hRM hs2.at_ hs2.g hs2.j hs2.u hs2.n hs2.o (sd' := sd ++ pairsOf a.defers) (fun p hp => ⟨List.mem_cons_of_mem _ hp, hrest p hp⟩) (o := .loop bsy) (a' := a1) rfl (hml hs2.at_ I2.marks) I2.nd (B' := B2) rfl I2.len (fun _ => Nat.le_refl _)
  have hlw1 : l < w1.heap.size := (Array.getElem?_eq_some_iff.1 hs2.at_).1
  have I3' : Inv1 RS B2 J ((l, .loop bsy) :: (sd ++ pairsOf a.defers)) σa sa a1 (w1.putObj l (.loop bsy)) νa Ga Ua Na :=
    ⟨I3.sr, I3.ts, I3.rs, I3.ext, I3.first, I3.y, I3.len, fun p hp => by
      rcases List.mem_cons.1 hp with rfl | hp
      · exact ⟨Nat.zero_le _, World.putObj_heap_same hlw1, hs2.g, hs2.j, hs2.u, hs2.n, hs2.o⟩
      · exact I3.side p hp, I3.marks, I3.nd⟩
  have hy2 : HSO C.P RS H B2.y := by
    show HSO C.P RS H νa.y
    rw [I2.y]; exact hH
  refine wpIn_mono (hB (Fence.wide.inRound l) B2 J _ σa sa a1 _ e σ2 s2 (Wide.round l) (hro _) hy2 (Nat.zero_le _) ⟨_, _, _, _, I3'⟩ hrb) ?_
  rintro x a2 w3 ⟨hx, ν2, G2, U2, N2, I4⟩
  have hs4 := I4.side (l, .loop bsy) List.mem_cons_self
  refine round_post hx ⟨_, _, run_endRound (codeOf e) hs4.at_, rfl, ?_⟩
  have hrec : ({ bsy with state := if (codeOf e).isNone then .ready else .done, pending := codeOf e } : Loop) = recOf fn a.tmps ps assign body dblk (if (codeOf e).isNone then none else some e) := by
    cases e <;> rfl
  rw [hrec]
  generalize hpe : (if (codeOf e).isNone then none else some e) = pe
  have hlw3 : l < w3.heap.size := (Array.getElem?_eq_some_iff.1 hs4.at_).1
  have I5 := I4.change hRM hs4.at_ hs4.g hs4.j hs4.u hs4.n hs4.o (sd' := sd ++ pairsOf a.defers) (fun p hp => ⟨List.mem_cons_of_mem _ hp, hrest p hp⟩) (o := .loop (recOf fn a.tmps ps assign body dblk pe)) (a' := a2) rfl (hml hs4.at_ I4.marks) I4.nd
    (B' := ⟨w3.putObj l (.loop (recOf fn a.tmps ps assign body dblk pe)), G2, U2, N2, Own ν2 σ2.h, ν2.φ, ν2.y, 0, 0⟩) rfl (Nat.zero_le _) (fun _ => Nat.le_refl _)
  generalize hw4 : w3.putObj l (.loop (recOf fn a.tmps ps assign body dblk pe)) = w4 at *
  have E14 : Ext w w4 G G2 (fun b => Uo b ∨ b = l) (fun b => U2 b ∨ b = l) No N2 (Own (ν.join νc τ.h.length yh.length) (joinHeap τ.h yh)) (Own ν2 σ2.h) := by
    have e1 := (I2.ext.widen l).trans (Ext.put hs2.at_ (.loop bsy) Ga Ua Na (Own νa σa.h))
    have e2 := (e1.trans (I4.ext.widen l)).trans (Ext.put hs4.at_ (.loop (recOf fn a.tmps ps assign body dblk pe)) G2 U2 N2 (Own ν2 σ2.h))
    rw [hw4] at e2
    exact e2
  have hφ2 : ∀ i, i < τ.h.length + yh.length → ν2.φ i = (ν.join νc τ.h.length yh.length).φ i := fun i hi => (I4.first i hi).trans (I2.first i hi)
  have hk' : τ.h.length + yh.length ≤ σ2.h.length := I4.len
  have hkG : ∀ b, G b → w4.heap[b]? = w.heap[b]? := fun b hb => E14.keep b (I.sr.glt b hb) (hSR1.gown b hb) (fun h => h.elim (I.sr.gu b hb) (fun e => hside.g (e ▸ hb)))
  have hkJ : ∀ b, J b → w4.heap[b]? = w.heap[b]? := fun b hb => E14.keep b (I.sr.jlt b hb) (hSR1.jown b hb) (fun h => h.elim (I.sr.ju b hb) (fun e => hside.j (e ▸ hb)))
  have hy4 : ν2.y = ν.y := I4.y.trans I2.y |>.trans I.y.symm
  have hle : ν.le ν2 := ⟨fun i b hb => by
    have hi := I.sr.dom i b hb
    rw [hφ2 i (by omega), join_old hi]; exact hb, fun l h => by rw [hy4]; exact h⟩
  have hown1 : ∀ b, Own (ν.join νc τ.h.length yh.length) (joinHeap τ.h yh) b → Own ν τ.h b ∨ Own νc yh b := fun b hb => own_join I.sr hb
  have I6 : Inv1 RS B J sd { tmps := τ.tmps, h := σ2.h } s2 a w4 ν2 G2 U2 N2 := by
    refine ⟨I5.sr, RelL_mono E14.g hkG E14.sz _ hle (fun _ h => .inl h) hkJ I.ts, I5.rs, ?_, fun i hi => ?_, hy4.trans I.y, Nat.le_trans I.len (Nat.le_trans (Nat.le_add_right _ _) hk'), fun p hp => I5.side p (List.mem_append_left _ hp), fun d hd => ?_, I.nd⟩
    · have hO1 : ∀ b, Own (ν.join νc τ.h.length yh.length) (joinHeap τ.h yh) b → B.O b ∨ B.w.heap.size ≤ b := fun b hb => by
        rcases hown1 b hb with h | h
        · exact I.ext.own b h
        · by_cases h1 : b < B.w.heap.size
          · by_cases h2 : B.O b
            · exact .inl h2
            · exact absurd (hneed b (.inr (.inr (.inr (.inr (.inl ⟨h1, h2⟩)))))) (hcN b h)
          · exact .inr (by omega)
      have hnew : ∀ b, w.heap.size ≤ b → B.w.heap.size ≤ b := fun b hb => Nat.le_trans I.ext.size hb
      refine ⟨Nat.le_trans I.ext.size E14.size, fun b h1 h2 h3 => ?_, fun b hb => (E14.own b hb).elim (hO1 b) (fun h => .inr (hnew b h)), fun b hb => ?_, fun b hb => ?_, fun b hb => E14.g b (I.ext.g b hb), fun b hb => ?_, fun b => Nat.le_trans (I.ext.sz b) (E14.sz b), E14.env.1.trans I.ext.env.1, E14.env.2.trans I.ext.env.2⟩
      · refine (E14.keep b (Nat.lt_of_lt_of_le h1 I.ext.size) (fun h => (hO1 b h).elim h2 (by omega)) (fun h => ?_)).trans (I.ext.keep b h1 h2 h3)
        rcases h with h | h
        · exact (I.ext.u b h).elim h3 (fun h => h.elim h2 (by omega))
        · have := hside.new; omega
      · rcases E14.u b (.inl hb) with h | h | h
        · rcases h with h | h
          · exact I.ext.u b h
          · exact .inr (.inr (by rw [h]; exact hside.new))
        · exact .inr (hO1 b h)
        · exact .inr (.inr (hnew b h))
      · rcases E14.n b hb with h | h | h
        · exact I.ext.n b h
        · exact .inr (hO1 b h)
        · exact .inr (.inr (hnew b h))
      · rcases E14.g' b hb with h | h | h | h
        · exact I.ext.g' b h
        · exact (hO1 b h).elim (fun h => .inr (.inl h)) (fun h => .inr (.inr (.inr h)))
        · rcases h with h | h
          · exact (I.ext.u b h).elim (fun h => .inr (.inr (.inl h))) (fun h => h.elim (fun h => .inr (.inl h)) (fun h => .inr (.inr (.inr h))))
          · exact .inr (.inr (.inr (by rw [h]; exact hside.new)))
        · exact .inr (.inr (.inr (hnew b h)))
    · have := I.len
      rw [hφ2 i (by omega), join_old (by omega)]; exact I.first i hi
    · obtain ⟨r, rfl, hs⟩ := I.marks d hd
      have := I5.side (r, _) (List.mem_append_right _ (pairsOf_of hd))
      exact ⟨r, rfl, hs.new, this.at_, this.g, this.j, this.u, this.n, this.o⟩
  obtain ⟨ν3, I7, hless⟩ := hgc I6
  have hl5 : ¬ G2 l ∧ ¬ J l ∧ ¬ U2 l ∧ ¬ N2 l ∧ ¬ Own ν2 σ2.h l := ⟨hs4.g, hs4.j, hs4.u, hs4.n, hs4.o⟩
  have hlw4 : w4.heap[l]? = some (.loop (recOf fn a.tmps ps assign body dblk pe)) := by rw [← hw4]; exact World.putObj_heap_same hlw3
  let U' : Nat → Prop := fun b => U2 b ∨ Own ν3 (gc { tmps := τ.tmps, h := σ2.h }).h b ∨ b = l
  let N' : Nat → Prop := fun b => U' b ∨ Need B J U2 N2 (Own ν3 (gc { tmps := τ.tmps, h := σ2.h }).h) sd a.defers b
  have hO1 : ∀ b, Own (ν.join νc τ.h.length yh.length) (joinHeap τ.h yh) b → U b ∨ Own νc yh b := fun b hb => (hown1 b hb).imp_left (fun h => (hU b).2 (.inr (.inl h)))
  have hUl : ∀ b, (Uo b ∨ b = l) → U b := fun b hb => (hU b).2 (hb.elim .inl (fun h => .inr (.inr h)))
  have hu : ∀ b, U' b → U b ∨ Own νc yh b ∨ w.heap.size ≤ b := by
    rintro b (h | h | h)
    · rcases E14.u b (.inl h) with h | h | h
      · exact .inl (hUl b h)
      · exact (hO1 b h).imp_right .inl
      · exact .inr (.inr h)
    · rcases E14.own b (hless b h) with h | h
      · exact (hO1 b h).imp_right .inl
      · exact .inr (.inr h)
    · subst h; exact .inl hlU
  have hn : ∀ b, N' b → N b ∨ Own νc yh b ∨ w.heap.size ≤ b := by
    rintro b (h | h | h | h | h | h | h | h)
    · exact (hu b h).imp_left (hUN b)
    · exact (hu b (.inl h)).imp_left (hUN b)
    · exact (hu b (.inr (.inl h))).imp_left (hUN b)
    · rcases E14.n b h with h | h | h
      · exact .inl (hneed b (.inr (.inr (.inl h))))
      · exact (hO1 b h).imp (hUN b) .inl
      · exact .inr (.inr h)
    · exact .inl (hneed b (.inr (.inr (.inr (.inl h)))))
    · exact .inl (hneed b (.inr (.inr (.inr (.inr (.inl h))))))
    · exact .inl (hneed b (.inr (.inr (.inr (.inr (.inr (.inl h)))))))
    · exact .inl (hneed b (.inr (.inr (.inr (.inr (.inr (.inr h)))))))
  have hnlt : ∀ b, N' b → b < w4.heap.size := by
    have hU2 : ∀ b, U' b → b < w4.heap.size := by
      rintro b (h | h | h)
      · exact I7.sr.nlt b (I7.sr.un b h)
      · exact I7.sr.own_lt h
      · subst h; exact (Array.getElem?_eq_some_iff.1 hlw4).1
    rintro b (h | h | h | h | h | h | h | h)
    · exact hU2 b h
    · exact hU2 b (.inl h)
    · exact hU2 b (.inr (.inl h))
    · exact I7.sr.nlt b h
    · exact I7.sr.jlt b h
    · exact Nat.lt_of_lt_of_le h.1 I7.ext.size
    · obtain ⟨p, hp, rfl⟩ := h
      exact (Array.getElem?_eq_some_iff.1 (I7.side p hp).at_).1
    · obtain ⟨d, hd, rfl⟩ := h
      obtain ⟨r, e, hs⟩ := I7.marks _ hd
      cases e
      exact (Array.getElem?_eq_some_iff.1 hs.at_).1
  have hnone : ∀ b, ¬ Own νc (List.replicate yh.length none : Heap) b := by
    rintro b ⟨i, B, h1, _⟩
    unfold hget at h1
    rw [List.getElem?_replicate] at h1
    split at h1 <;> cases h1
  have hnget : ∀ i B, hget (List.replicate yh.length none : Heap) i = some B → False := fun i B h1 => by
    unfold hget at h1
    rw [List.getElem?_replicate] at h1
    split at h1 <;> cases h1
  refine ⟨νc, G2, U', N', ?_, List.length_replicate, fun _ _ => rfl, rfl, ?_, ν3, U2, N2, I7, ?_, hsdl, hdl, fun b => Iff.rfl, fun b => Iff.rfl⟩
  · refine ⟨fun i B h => (hnget i B h).elim, fun i j B B' b h => (hnget i B h).elim, fun i b h => by rw [List.length_replicate]; exact hyh.dom i b h, I7.sr.glt, fun b hb => Nat.lt_of_lt_of_le (hyh.jlt b hb) E14.size, hnlt, fun b _ => hnone b, fun b _ => hnone b, fun b _ => hnone b, ?_, ?_, fun b hb => .inl hb⟩
    · rintro b hb (h | h | h)
      · exact I7.sr.gu b hb h
      · exact I7.sr.gown b hb h
      · subst h; exact hl5.1 hb
    · intro b hb hu'
      rcases hu b hu' with h | h | h
      · exact hyh.ju b hb h
      · exact hyh.jown b hb h
      · have := hyh.jlt b hb; omega
  · refine ⟨E14.size, fun b h1 h2 h3 => E14.keep b h1 (fun h => (hO1 b h).elim h3 h2) (fun h => h3 (hUl b h)), fun b hb => (hnone b hb).elim, hu, hn, E14.g, fun b hb => ?_, E14.sz, E14.env⟩
    rcases E14.g' b hb with h | h | h | h
    · exact .inl h
    · exact (hO1 b h).elim (fun h => .inr (.inr (.inl h))) (fun h => .inr (.inl h))
    · exact .inr (.inr (.inl (hUl b h)))
    · exact .inr (.inr (.inr h))
  · exact ⟨hside.new, hlw4, hl5.1, hl5.2.1, hl5.2.2.1, hl5.2.2.2.1, fun ho => hl5.2.2.2.2 (hless l ho)⟩
end
end Go.Lite
