import Derived.Test.YtlofnkkokcihnaaLiteDraw
namespace Go.Lite

section
variable {ops : Array Oper}
theorem regOk_at (h : regOk ops = true) {j : Nat} {o : Oper} (ho : ops[j]? = some o) :
    (∀ e ∈ o.after, Region.binds .any e = true → e.on < j) ∧
    ((Region.before ops).getD j 0 = o.after.toList.foldl (fun s e => if Region.binds .any e then s ||| 2 ^ e.on ||| (Region.before ops).getD e.on 0 else s) 0) ∧
    ∀ (i : Nat) (oi : Oper), ops[i]? = some oi → i < j → ((Region.before ops).getD j 0).testBit i = false → o.apart ops oi = true := by
  have mem : ∀ {j o}, ops[j]? = some o → (o, j) ∈ ops.toList.zipIdx := fun {j o} ho => by
    rw [List.mem_zipIdx_iff_getElem?]
    simpa using ho
  unfold regOk at h
  simp only [List.all_eq_true] at h
  have hj := h _ (mem ho)
  simp only [Bool.and_eq_true, List.all_eq_true, decide_eq_true_eq, Bool.or_eq_true, Bool.not_eq_true', decide_eq_false_iff_not] at hj
  refine ⟨fun e he hb => ?_, hj.2.1, fun i oi hi hlt hbit => ?_⟩
  · have := hj.1 e (by simpa using he)
    rcases this with h | h
    · rw [hb] at h; cases h
    · exact h
  · have := hj.2.2 _ (mem hi)
    rcases this with h | h | h
    · exact absurd hlt h
    · simp only at h; rw [hbit] at h; cases h
    · exact h
theorem fold_bit (b : Nat → Nat) (c : Edge → Bool) : ∀ (l : List Edge) (s i : Nat), (l.foldl (fun s e => if c e then s ||| 2 ^ e.on ||| b e.on else s) s).testBit i = true →
    s.testBit i = true ∨ ∃ e ∈ l, c e = true ∧ (e.on = i ∨ (b e.on).testBit i = true)
  | [], s, i, h => .inl h
  | e :: l, s, i, h => by
    rw [List.foldl_cons] at h
    rcases fold_bit b c l _ i h with h | ⟨e', he, h1, h2⟩
    · split at h
      · rename_i hc
        simp only [Nat.testBit_or, Bool.or_eq_true, Nat.testBit_two_pow, decide_eq_true_eq] at h
        rcases h with (h | h) | h
        · exact .inl h
        · exact .inr ⟨e, List.mem_cons_self, hc, .inl h⟩
        · exact .inr ⟨e, List.mem_cons_self, hc, .inr h⟩
      · exact .inl h
    · exact .inr ⟨e', List.mem_cons_of_mem _ he, h1, h2⟩
theorem bits_at (h : regOk ops = true) {j : Nat} {o : Oper} (ho : ops[j]? = some o) {i : Nat} (hb : ((Region.before ops).getD j 0).testBit i = true) :
    ∃ e ∈ o.after, Region.binds .any e = true ∧ e.on < j ∧ (e.on = i ∨ ((Region.before ops).getD e.on 0).testBit i = true) := by
  obtain ⟨h1, h2, _⟩ := regOk_at h ho
  rw [h2] at hb
  rcases fold_bit (fun k => (Region.before ops).getD k 0) (fun e => Region.binds .any e) o.after.toList 0 i hb with h | ⟨e, he, h3, h4⟩
  · rw [Nat.zero_testBit] at h; cases h
  · exact ⟨e, by simpa using he, h3, h1 e (by simpa using he) h3, h4⟩
/-- What lies before lies before. -/
theorem bits_lt (h : regOk ops = true) : ∀ (j : Nat) (o : Oper), ops[j]? = some o → ∀ i, ((Region.before ops).getD j 0).testBit i = true → i < j := by
  intro j
  induction j using Nat.strongRecOn with
  | _ j ih =>
    intro o ho i hb
    obtain ⟨e, _, _, h3, h4⟩ := bits_at h ho hb
    rcases h4 with h4 | h4
    · omega
    · have hj : j < ops.size := (Array.getElem?_eq_some_iff.1 ho).1
      have := ih e.on h3 ops[e.on] (by rw [Array.getElem?_eq_getElem (by omega)]) i h4
      omega

structure Side2 (m : Nat) (its : List It) (done : List Done) : Prop where
  low : ∀ x ∈ its, m ≤ x.a
  dn : ∀ x ∈ its, ∀ d ∈ done, d.a + d.n ≤ x.a ∨ x.a + x.n ≤ d.a
  pw : its.Pairwise (fun x y => x.a + x.n ≤ y.a ∨ y.a + y.n ≤ x.a)

variable {C : Cfg} {call : CallT} {S : Type} {H : Option (Hd S)} {deps : Array Nat} {m : Nat} {ts' : List AV} {g' : Nat → Option Blk} {s' : S}
theorem RunX.bubble {x : It} {post : List It} : ∀ (pre : List It) (done : List Done) (ts : List AV) (g : Nat → Option Blk) (s : S),
    (∀ p ∈ pre, (deps.getD x.i 0).testBit p.i = false ∧ (deps.getD p.i 0).testBit x.i = false ∧ x.o.apart ops p.o = true) → Side2 m (pre ++ x :: post) done →
    RunX C call H ops deps m ts' g' s' (pre ++ x :: post) done ts g s → RunX C call H ops deps m ts' g' s' (x :: (pre ++ post)) done ts g s
  | [], _, _, _, _, _, _, h => h
  | p :: pre, done, ts, g, s, hp, hs, h => by
    have hs' := hs.pw
    rw [List.cons_append, List.pairwise_cons] at hs'
    have hpd := hs.dn p (by simp)
    have hsub : ∀ done', (∀ y ∈ pre ++ x :: post, ∀ d ∈ done', d.a + d.n ≤ y.a ∨ y.a + y.n ≤ d.a) → Side2 m (pre ++ x :: post) done' := fun done' hd =>
      ⟨fun y hy => hs.low y (by rw [List.cons_append]; exact List.mem_cons_of_mem _ hy), hd, hs'.2⟩
    have hd0 : ∀ y ∈ pre ++ x :: post, ∀ d ∈ done, d.a + d.n ≤ y.a ∨ y.a + y.n ≤ d.a := fun y hy => hs.dn y (by rw [List.cons_append]; exact List.mem_cons_of_mem _ hy)
    have hx := hp p List.mem_cons_self
    have hrest : ∀ q ∈ pre, _ := fun q hq => hp q (List.mem_cons_of_mem _ hq)
    refine RunX.swap (x := p) (y := x) hx.1 hx.2.1 hx.2.2 (hs'.1 x (by simp)) (hs.low p (by simp)) (hs.low x (by simp)) hpd (hs.dn x (by simp)) ?_
    rcases h with ⟨h1, h2, h3⟩ | ⟨h1, ma, r, h2, h3, h4, h5, h6⟩
    · exact .inl ⟨h1, h2, RunX.bubble pre done _ _ _ hrest (hsub _ hd0) h3⟩
    · refine .inr ⟨h1, ma, r, h2, h3, h4, h5, RunX.bubble pre _ _ _ _ hrest (hsub _ fun y hy d hd => ?_) h6⟩
      rcases List.mem_cons.1 hd with rfl | hd
      · exact hs'.1 y hy
      · exact hd0 y hy d hd
end

section
variable {w w' : World} {G G' J U U' N N' : Nat → Prop} {ν ν' : Names} {h nh : Heap}
theorem Own_congr {h h' : Heap} (e : hget h = hget h') {b : Nat} (ho : Own ν h b) : Own ν h' b := by
  obtain ⟨i, B, h1, h2⟩ := ho
  exact ⟨i, B, by rw [← e]; exact h1, h2⟩
theorem SR.heap {h h' : Heap} (S : SR w G J U N ν h) (e : hget h = hget h') (hl : ∀ i b, ν.φ i = some b → i < h'.length) : SR w G J U N ν h' :=
  ⟨fun i B hB => S.blk i B (by rw [e]; exact hB), fun i j B B' b h1 h2 => S.inj i j B B' b (by rw [e]; exact h1) (by rw [e]; exact h2), hl, S.glt, S.jlt, S.nlt,
   fun b hb ho => S.gown b hb (Own_congr e.symm ho), fun b hb ho => S.jown b hb (Own_congr e.symm ho), fun b hb ho => S.nown b hb (Own_congr e.symm ho), S.gu, S.ju, S.un⟩
theorem Inv1.heap {S : Type} {RS : StRel S} {B : Base} {sd : List (Nat × Obj)} {ts : List AV} {h h' : Heap} {s : S} {a : Act} (I : Inv1 RS B J sd ⟨ts, h⟩ s a w ν G U N) (e : hget h = hget h') (hl : ∀ i b, ν.φ i = some b → i < h'.length) (hk : B.k ≤ h'.length) :
    Inv1 RS B J sd ⟨ts, h'⟩ s a w ν G U N :=
  ⟨I.sr.heap e hl, I.ts, I.rs, I.ext.less (fun _ hb => Own_congr e.symm hb), I.first, I.y, hk, fun p hp => (I.side p hp).less (fun _ hb => Own_congr e.symm hb),
   fun d hd => let ⟨r, e', hs⟩ := I.marks d hd; ⟨r, e', hs.less (fun _ hb => Own_congr e.symm hb)⟩, I.nd⟩

/-- Whatever order is drawn. -/
theorem any_ok {C : Cfg} (hC : ∀ t T, C.ty t = some T → tyOf C.P t = some T) {call : CallT} (hCall : CallOK C.P call) (hExt : ExtOK C) {F : Fence} (hF : Wide F) {S : Type} {RS : StRel S} (hRM : RMono RS) {H : Option (Hd S)}
    {B : Base} {sd : List (Nat × Obj)} (hH : HSO C.P RS H B.y) {ops : Array Oper} (hok : regOk ops = true) {m M : Nat} (hk : B.k ≤ m) {ts' : List AV} {h' : Heap} {s' : S} (hM : M ≤ h'.length) (hm : m ≤ M) {Q : Exit → Act → World → Prop}
    (hQ : ∀ a' w', Inv RS B J sd ⟨ts', h'⟩ s' a' w' → Q .normal a' w') :
    ∀ (fuel : Nat) (its : List It) (listed : Array Bool) (done : List Done) (ts : List AV) (h : Heap) (s : S) (a : Act) (w : World) (ν : Names) (G U N : Nat → Prop),
      its.length ≤ fuel → listed.size = ops.size → its.Pairwise (fun x y => x.i < y.i) → (∀ x ∈ its, ops[x.i]? = some x.o ∧ listed.getD x.i true = false) → (∀ i, listed.getD i true = false → ∃ x ∈ its, x.i = i) →
      (∀ k, k < ops.size → listed.getD k true = true → ∀ i, ((Region.before ops).getD k 0).testBit i = true → listed.getD i true = true) →
      Side2 m its done → (∀ x ∈ its, x.a + x.n ≤ M) → (∀ d ∈ done, d.a + d.n ≤ M) → (∀ j b, ν.φ j = some b → j < m ∨ ∃ d ∈ done, d.a ≤ j ∧ j < d.a + d.n) →
      RunX C call H ops (Region.before ops) m ts' (hget h') s' its done ts (hget h) s → Inv1 RS B J sd ⟨ts, h⟩ s a w ν G U N →
      wpAnyIn F 0 C.P .any ops Q fuel listed a w := by
  intro fuel
  have fin : ∀ (listed : Array Bool) (its : List It) (done : List Done) (ts : List AV) (h : Heap) (s : S) (a : Act) (w : World) (ν : Names) (G U N : Nat → Prop), its = [] → (∀ d ∈ done, d.a + d.n ≤ M) → (∀ j b, ν.φ j = some b → j < m ∨ ∃ d ∈ done, d.a ≤ j ∧ j < d.a + d.n) →
      RunX C call H ops (Region.before ops) m ts' (hget h') s' its done ts (hget h) s → Inv1 RS B J sd ⟨ts, h⟩ s a w ν G U N → Q .normal a w := by
    intro listed its done ts h s a w ν G U N he hdM hn hr I
    subst he
    obtain ⟨rfl, e, rfl⟩ := hr
    refine hQ a w ⟨ν, G, U, N, I.heap e (fun i b hi => ?_) (by omega)⟩
    rcases hn i b hi with h1 | ⟨d, hd, h1, h2⟩
    · omega
    · have := hdM d hd; omega
  have noReady : ∀ (listed : Array Bool) (its : List It), listed.size = ops.size → (∀ x ∈ its, ops[x.i]? = some x.o ∧ listed.getD x.i true = false) → (∀ i, listed.getD i true = false → ∃ x ∈ its, x.i = i) →
      Region.ready .any ops listed = [] → its = [] := by
    intro listed its hsz hx hall hr
    cases its with
    | nil => rfl
    | cons y ys =>
      exfalso
      have key : ∀ n, ∀ i, i ≤ n → listed.getD i true = true := by
        intro n
        induction n using Nat.strongRecOn with
        | _ n ih =>
          intro i hi
          apply Classical.byContradiction
          intro hne
          have hf : listed.getD i true = false := by simpa using hne
          obtain ⟨x, hxm, rfl⟩ := hall i hf
          have hmem : x.i ∈ Region.ready .any ops listed := by
            refine mem_ready.2 ⟨hf, x.o, (hx x hxm).1, fun e he hb => ?_⟩
            have hlt := (regOk_at hok (hx x hxm).1).1 e he hb
            have := ih e.on (by omega) e.on (Nat.le_refl _)
            have hsz' : e.on < listed.size := by
              rw [hsz]
              exact Nat.lt_trans hlt (Array.getElem?_eq_some_iff.1 (hx x hxm).1).1
            simp only [Array.getD, hsz', dif_pos] at this ⊢
            exact this
          rw [hr] at hmem; cases hmem
      have := key y.i y.i (Nat.le_refl _)
      rw [(hx y List.mem_cons_self).2] at this
      cases this
  induction fuel with
  | zero =>
    intro its listed done ts h s a w ν G U N hlen hsz hpw hx hall hcl hs2 hitM hdM hn hr I
    have hnil : its = [] := List.length_eq_zero_iff.1 (by omega)
    refine ⟨?_, fin listed its done ts h s a w ν G U N hnil hdM hn hr I⟩
    cases hrd : Region.ready .any ops listed with
    | nil => rfl
    | cons i r =>
      exfalso
      have hmem : i ∈ Region.ready .any ops listed := by rw [hrd]; exact List.mem_cons_self
      obtain ⟨x, hx', _⟩ := hall i (mem_ready.1 hmem).1
      rw [hnil] at hx'; cases hx'
  | succ fuel ih =>
    intro its listed done ts h s a w ν G U N hlen hsz hpw hx hall hcl hs2 hitM hdM hn hr I
    refine ⟨fun h0 => fin listed its done ts h s a w ν G U N (noReady listed its hsz hx hall h0) hdM hn hr I, fun i hi => ?_⟩
    obtain ⟨hun, o, ho, hedge⟩ := mem_ready.1 hi
    obtain ⟨x, hxm, rfl⟩ := hall i hun
    have hxo : x.o = o := by
      have := (hx x hxm).1
      rw [ho] at this; exact (Option.some.inj this).symm
    obtain ⟨pre, post, rfl⟩ := List.append_of_mem hxm
    have hisz : x.i < ops.size := (Array.getElem?_eq_some_iff.1 ho).1
    have hbits : ∀ k, ((Region.before ops).getD x.i 0).testBit k = true → listed.getD k true = true := fun k hb => by
      obtain ⟨e, he, h1, h2, h3⟩ := bits_at hok ho hb
      have hle := hedge e he h1
      have hsz' : e.on < listed.size := by omega
      have hle' : listed.getD e.on true = true := by
        simp only [Array.getD, hsz', dif_pos] at hle ⊢
        exact hle
      rcases h3 with rfl | h3
      · exact hle'
      · exact hcl e.on (by omega) hle' k h3
    have hpre : ∀ p ∈ pre, p.i < x.i := fun p hp => (List.pairwise_append.1 hpw).2.2 p hp x List.mem_cons_self
    have hr1 := RunX.bubble pre done ts (hget h) s (fun p hp => by
      have hpx := hx p (by simp [hp])
      have h1 : ((Region.before ops).getD x.i 0).testBit p.i = false := by
        cases hb : ((Region.before ops).getD x.i 0).testBit p.i with
        | false => rfl
        | true => rw [hbits _ hb] at hpx; cases hpx.2
      refine ⟨h1, ?_, ?_⟩
      · cases hb : ((Region.before ops).getD p.i 0).testBit x.i with
        | false => rfl
        | true => have := bits_lt hok p.i p.o hpx.1 x.i hb; have := hpre p hp; omega
      · exact (regOk_at hok (hx x (by simp)).1).2.2 p.i p.o hpx.1 (hpre p hp) h1) hs2 hr
    -- what holds of the others
    have hsub : (pre ++ post).Sublist (pre ++ x :: post) := List.Sublist.append_left (List.sublist_cons_self x post) pre
    have hne : ∀ y ∈ pre ++ post, y.i ≠ x.i := fun y hy e => by
      rcases List.mem_append.1 hy with hy | hy
      · have := hpre y hy; omega
      · have := (List.pairwise_cons.1 (List.pairwise_append.1 hpw).2.1).1 y hy; omega
    have hget' : ∀ k, (listed.setIfInBounds x.i true).getD k true = if k = x.i then true else listed.getD k true := fun k => by
      by_cases e : k = x.i
      · subst e
        rw [if_pos rfl]
        simp only [Array.getD, Array.size_setIfInBounds]
        split
        · simp
        · rfl
      · rw [if_neg e, getD_set_ne true (Ne.symm e)]
    have c1 : (pre ++ post).length ≤ fuel := by simp only [List.length_append, List.length_cons] at hlen ⊢; omega
    have c2 : (listed.setIfInBounds x.i true).size = ops.size := by rw [Array.size_setIfInBounds, hsz]
    have c3 := hpw.sublist hsub
    have c4 : ∀ y ∈ pre ++ post, ops[y.i]? = some y.o ∧ (listed.setIfInBounds x.i true).getD y.i true = false := fun y hy => by
      have := hx y (hsub.subset hy)
      rw [hget', if_neg (hne y hy)]; exact this
    have c5 : ∀ i, (listed.setIfInBounds x.i true).getD i true = false → ∃ y ∈ pre ++ post, y.i = i := fun i hi' => by
      rw [hget'] at hi'
      split at hi'
      · cases hi'
      rename_i hne'
      obtain ⟨y, hy, e⟩ := hall i hi'
      refine ⟨y, ?_, e⟩
      rcases List.mem_append.1 hy with hy | hy
      · exact List.mem_append_left _ hy
      · rcases List.mem_cons.1 hy with rfl | hy
        · exact absurd e.symm hne'
        · exact List.mem_append_right _ hy
    have c6 : ∀ k, k < ops.size → (listed.setIfInBounds x.i true).getD k true = true → ∀ i, ((Region.before ops).getD k 0).testBit i = true → (listed.setIfInBounds x.i true).getD i true = true := fun k hk' hl i hb => by
      have hl' : listed.getD i true = true := by
        rw [hget'] at hl
        split at hl
        · rename_i e; subst e; exact hbits i hb
        · exact hcl k hk' hl i hb
      rw [hget', hl']; split <;> rfl
    have hs' := hs2.pw
    have c7 : ∀ done', (∀ y ∈ pre ++ post, ∀ d ∈ done', d.a + d.n ≤ y.a ∨ y.a + y.n ≤ d.a) → Side2 m (pre ++ post) done' := fun done' hd => ⟨fun y hy => hs2.low y (hsub.subset hy), hd, hs'.sublist hsub⟩
    have c8 : ∀ y ∈ pre ++ post, y.a + y.n ≤ M := fun y hy => hitM y (hsub.subset hy)
    have hdn0 : ∀ y ∈ pre ++ post, ∀ d ∈ done, d.a + d.n ≤ y.a ∨ y.a + y.n ≤ d.a := fun y hy => hs2.dn y (hsub.subset hy)
    have hdf : ∀ u, (a.put o.dst u).defers = a.defers := fun u => by cases o.dst <;> rfl
    unfold wpOpIn
    rw [ho]
    simp only
    rcases hr1 with ⟨h1, h2, h3⟩ | ⟨h1, ma, r, h2, h3, h4, h5, h6⟩
    · rw [hxo] at h1 h3
      rw [wanted_spec I.ts h1]
      simp only [Bool.false_eq_true, if_false]
      refine ⟨fun f _ => hF.fn f, ?_⟩
      refine ih (pre ++ post) _ done _ h s _ w ν G U N c1 c2 c3 c4 c5 c6 (c7 _ hdn0) c8 hdM hn h3 ⟨I.sr, put_rel I.ts o.dst (by simp only [Rel]), I.rs, I.ext, I.first, I.y, I.len, I.side, ?_, ?_⟩
      · rw [hdf]; exact I.marks
      · rw [hdf]; exact I.nd
    · rw [hxo] at h1 h2 h6
      rw [wanted_spec I.ts h1]
      simp only [if_true]
      have hlo := hs2.low x (by simp)
      have hfresh : ∀ j, x.a ≤ j → j < x.a + r.news.length → ν.φ j = none := fun j j1 j2 => by
        rw [h5] at j2
        cases hj : ν.φ j with
        | none => rfl
        | some b =>
          rcases hn j b hj with h0 | ⟨d, hd, d1, d2⟩
          · omega
          · have := hs2.dn x (by simp) d hd; omega
      refine Oper.wpIn_mono (K := fun a' w' => ∃ u, a' = a.put o.dst u ∧ After RS w G J U N ν h x.a r u w') ?_
        (op_wp hC hCall hExt hF hRM (by rw [I.y]; exact hH) I.sr I.ts I.rs (look := lookOf m done ((Region.before ops).getD x.i 0) (touch C ma) (hget h)) (fun i B' hB => by
          simp only [lookOf] at hB
          split at hB
          · exact hB
          · cases hB) h2 hfresh h4)
      rintro a' w' ⟨u, rfl, ν', G', U', N', k1, k2, k3, k4, k5, k6, k7⟩
      rw [← hget_gput] at h6
      refine ih (pre ++ post) _ _ _ (hputs (hups h r.ups) x.a r.news) r.s _ w' ν' G' U' N' c1 c2 c3 c4 c5 c6 (c7 _ fun y hy d hd => ?_) c8 (fun d hd => ?_) (fun j b hj => ?_) h6
        ⟨k1, put_rel (I.sr.relL k5 k2 I.ts) o.dst k4, k6, I.ext.trans k5, fun i hi => ?_, k3.trans I.y, ?_, fun p hp => (I.side p hp).ext k5, ?_, ?_⟩
      · rcases List.mem_cons.1 hd with rfl | hd
        · rcases List.mem_append.1 hy with hy | hy
          · have := (List.pairwise_append.1 hs').2.2 y hy x List.mem_cons_self
            simp only; omega
          · exact (List.pairwise_cons.1 (List.pairwise_append.1 hs').2.1).1 y hy
        · exact hdn0 y hy d hd
      · rcases List.mem_cons.1 hd with rfl | hd
        · exact hitM x (by simp)
        · exact hdM d hd
      · by_cases hc : ν'.φ j = ν.φ j
        · rw [hc] at hj
          rcases hn j b hj with h0 | ⟨d, hd, h0⟩
          · exact .inl h0
          · exact .inr ⟨d, List.mem_cons_of_mem _ hd, h0⟩
        · have := k7 j hc
          rw [h5] at this
          exact .inr ⟨_, List.mem_cons_self, this⟩
      · rw [← I.first i hi]
        apply Classical.byContradiction
        intro hne'
        have := (k7 i hne').1
        omega
      · exact Nat.le_trans I.len (Nat.le_trans (length_hups _ _) (length_hputs _ _ _))
      · rw [hdf]
        exact fun d hd => let ⟨r, e, h⟩ := I.marks d hd; ⟨r, e, h.ext k5⟩
      · rw [hdf]; exact I.nd

/-- Regions that draw their order do what was reckoned in the order of the text. -/
theorem draw_ok {C : Cfg} (hC : ∀ t T, C.ty t = some T → tyOf C.P t = some T) {call : CallT} (hCall : CallOK C.P call) (hExt : ExtOK C) (hMix : C.P.follows .mixedOrders = true) {F : Fence} (hF : Wide F) {S : Type} {RS : StRel S} (hRM : RMono RS) {H : Option (Hd S)}
    {B : Base} {sd : List (Nat × Obj)} (hH : HSO C.P RS H B.y) {ops : Array Oper} (hok : regOk ops = true) {σ σ' : St} {s s' : S} {a : Act} {id : Nat} (I : Inv RS B J sd σ s a w)
    (hr : runD C call H ops (Region.before ops) σ.h.length (ops.toList.zip (List.range ops.size)) [] σ s = some (σ', s')) :
    (Code.region id ops true).wpIn F 0 C.P (fun x a' w' => x = .normal ∧ Inv RS B J sd σ' s' a' w') a w := by
  obtain ⟨ν, G, U, N, I⟩ := I
  obtain ⟨its, h1, h2, h3, h4, h5⟩ := runD_X _ _ _ _ hr
  have I' : Inv1 RS B J sd ⟨σ.tmps, σ.h⟩ s a { w with drawn := w.drawn + 1 } ν G U N :=
    I.on (w' := { w with drawn := w.drawn + 1 }) (G' := G) hRM ⟨rfl, rfl⟩ (Nat.le_refl _) (fun _ => Nat.le_refl _) (fun _ h => h) (fun _ _ => rfl) I.sr.glt (fun _ _ _ => rfl) (fun _ h => .inl h)
  have hlen : its.length = ops.size := by
    have := congrArg List.length h1
    simpa using this
  have hat : ∀ k (hk : k < its.length), its[k].i = k ∧ ops[k]? = some its[k].o := fun k hk => by
    have := congrArg (fun l => l[k]?) h1
    simp only [List.getElem?_map, List.getElem?_eq_getElem hk, Option.map_some] at this
    have hk' : k < ops.size := by omega
    rw [List.getElem?_eq_getElem (by simp; omega)] at this
    simp only [List.getElem_zip, List.getElem_range, Option.some.injEq, Prod.mk.injEq] at this
    exact ⟨this.2, by rw [Array.getElem?_eq_getElem hk', this.1]; simp⟩
  refine wpIn_region_any hMix ?_
  refine any_ok hC hCall hExt hF hRM hH hok (m := σ.h.length) (M := σ'.h.length) I.len (Nat.le_refl _) h3 (Q := fun x a' w' => x = .normal ∧ Inv RS B J sd σ' s' a' w') (fun a' w' I => ⟨rfl, I⟩)
    ops.size its (Array.replicate ops.size false) [] σ.tmps σ.h s a _ ν G U N (by omega) (by simp) ?_ ?_ ?_ ?_ ⟨fun x hx => (h4 x hx).1, fun x hx d hd => by (cases hd), h5.imp (fun h => .inl h)⟩ (fun x hx => (h4 x hx).2) (fun d hd => by cases hd) (fun j b hj => .inl (I.sr.dom j b hj)) h2 I'
  · rw [List.pairwise_iff_getElem]
    intro i j hi hj hij
    rw [(hat i hi).1, (hat j hj).1]; exact hij
  · intro x hx
    obtain ⟨k, hk, rfl⟩ := List.getElem_of_mem hx
    have := hat k hk
    rw [this.1]
    refine ⟨this.2, ?_⟩
    have hk' : k < ops.size := by omega
    simp [Array.getD, hk']
  · intro i hi
    have hi' : i < ops.size := by
      apply Classical.byContradiction
      intro hn
      simp [Array.getD, hn] at hi
    exact ⟨its[i]'(by omega), List.getElem_mem _, (hat i (by omega)).1⟩
  · intro k hk hl
    simp [Array.getD, hk] at hl
end
end Go.Lite
