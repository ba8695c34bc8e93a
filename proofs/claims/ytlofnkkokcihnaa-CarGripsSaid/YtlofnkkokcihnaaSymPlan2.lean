import Derived.Test.YtlofnkkokcihnaaSymPlan
namespace Go.Lite

theorem toDss_length {ks : List K} : ∀ {vss : List (List SV)} {l : List (List D)}, toDss ks vss = some l → l.length = vss.length
  | [], l, h => by simp only [toDss, Option.some.injEq] at h; subst h; rfl
  | v :: vss, l, h => by
    simp only [toDss] at h
    split at h
    · rename_i d ds h1 h2
      cases h
      simp [toDss_length h2]
    · cases h
theorem chunksS_length {s : Nat} : ∀ {n : Nat} {cs : List SV}, (chunksS s n cs).length = n
  | 0, _ => rfl
  | n + 1, cs => by simp [chunksS, chunksS_length]
theorem EncE_replicate {ks : List K} {d : List D} {z : List AV} (h : EncC ks d 0 z) (n : Nat) : EncE ks (List.replicate n d) (List.replicate n z) := by
  refine ⟨by simp, fun i e c he hc => ?_⟩
  have h1 := List.mem_of_getElem? he
  have h2 := List.mem_of_getElem? hc
  rw [List.eq_of_mem_replicate h1, List.eq_of_mem_replicate h2]; exact h
theorem VRL_repl {z : List SV} {z' : List AV} (h : VRL z z') : ∀ n, VRL (List.replicate n z).flatten (List.replicate n z').flatten
  | 0 => VRL_nil
  | n + 1 => by simp only [List.replicate_succ, List.flatten_cons]; exact VRL_append h (VRL_repl h n)
theorem VRL_mapE {E : Operand → SV} {E' : Operand → AV} (hE : ∀ x, VR (E x) (E' x)) : ∀ (l : List Operand), VRL (l.map E) (l.map E')
  | [] => VRL_nil
  | x :: l => VRL_cons (hE x) (VRL_mapE hE l)

section
variable {C : Cfg} {E : Operand → SV} {E' : Operand → AV}
theorem planBS_sim (hE : ∀ x, VR (E x) (E' x)) {b : Builtin} {args : List Operand} {ts : List TypeId} {ms : MS} (h : (planBS C E b args ts).run = some ms) : ∃ m, planB C E' b args ts = some m ∧ MR ms m := by
  unfold planBS at h
  split at h
  · rename_i x t
    split at h
    · rename_i hk
      rw [T.run_ofO, Option.map_eq_some_iff] at h
      obtain ⟨n, hn, rfl⟩ := h
      refine ⟨.pure (i64 n), ?_, by simp only [MR]; exact ⟨_, rfl, by simp only [VR, i64]⟩⟩
      simp only [planB, hk, lenS_sim hn (hE x), Option.map_some]
    · rename_i hk
      cases h
      exact ⟨_, by simp only [planB, hk] <;> rfl, by simp only [MR]; exact ⟨_, rfl, by simp only [VR, i64]⟩⟩
    · cases h
  · rename_i ts' x r
    split at h
    · rename_i k a he
      have hx := hE x
      rw [he] at hx
      simp only [VR] at hx
      rw [T.run_ofO, Option.map_eq_some_iff] at h
      obtain ⟨v, hv, rfl⟩ := h
      obtain ⟨u, hu, hr⟩ := foldS_sim hv (VRL_mapE hE r)
      exact ⟨.pure u, by simp only [planB, hx, hu, Option.map_some], by simp only [MR]; exact ⟨_, rfl, hr⟩⟩
    · cases h
  · rename_i ts' x r
    split at h
    · rename_i k a he
      have hx := hE x
      rw [he] at hx
      simp only [VR] at hx
      rw [T.run_ofO, Option.map_eq_some_iff] at h
      obtain ⟨v, hv, rfl⟩ := h
      obtain ⟨u, hu, hr⟩ := foldS_sim hv (VRL_mapE hE r)
      exact ⟨.pure u, by simp only [planB, hx, hu, Option.map_some], by simp only [MR]; exact ⟨_, rfl, hr⟩⟩
    · cases h
  · rename_i a x t u
    split at h
    · rename_i e _ _ _ _ _ _ _ _ _ _ ht hu
      split at h
      · rename_i he hk
        split at h
        · rename_i hc
          cases h
          refine ⟨_, by simp only [planB, ht, hu, he, if_pos hc.1] <;> rfl, ?_⟩
          simp only [MR]
          exact ⟨_, _, rfl, hE a, hE x, hc.2.symm⟩
        · cases h
      · cases h
    · cases h
  · rename_i a x t u
    split at h
    · rename_i e _ _ _ _ _ _ _ _ _ _ ht hu
      split at h
      · rename_i he
        cases h
        refine ⟨_, by simp only [planB, ht, hu, he] <;> rfl, ?_⟩
        simp only [MR]
        exact ⟨_, _, rfl, hE a, hE x⟩
      · cases h
    · cases h
  · cases h

theorem planS_sim (hC : ∀ t Y, C.ty t = some Y → tyOf C.P t = some Y) (hE : ∀ x, VR (E x) (E' x)) {o : Oper} {ms : MS} (h : (planS C E o).run = some ms) : ∃ m, plan C E' o = some m ∧ MR ms m := by
  have pure : ∀ {v : SV} {a : AV}, VR v a → MR (.pure v) (.pure a) := fun hv => by simp only [MR]; exact ⟨_, rfl, hv⟩
  unfold planS at h
  unfold plan
  cases hop : o.op <;> simp only [hop] at h ⊢
  case move x => cases h; exact ⟨_, rfl, pure (hE x)⟩
  case assign x => cases h; exact ⟨_, rfl, pure (hE x)⟩
  case pick c a b =>
    have hc := hE c
    split at h
    · rename_i t ht
      rw [ht] at hc
      simp only [VR] at hc
      rw [hc]
      split at h
      · rename_i x y e1 e2
        cases h
        refine ⟨_, rfl, pure ?_⟩
        rw [VR_asB (hE a) e1, VR_asB (hE b) e2]
        cases t <;> simp only [VR, if_true, Bool.false_eq_true, if_false]
      · simp only [T.run] at h
        cases t <;> simp only [if_true, Bool.false_eq_true, if_false, Option.some.injEq] at h <;> subst h
        · exact ⟨_, rfl, pure (by simpa using hE b)⟩
        · exact ⟨_, rfl, pure (by simpa using hE a)⟩
    · rename_i t ht
      rw [ht] at hc
      simp only [VR] at hc
      rw [hc]
      cases h
      refine ⟨_, rfl, pure ?_⟩
      cases t
      · simpa using hE b
      · simpa using hE a
    · cases h
  case alloc t =>
    split at h
    · rename_i z _ ht
      cases h
      rename_i hty
      refine ⟨_, by simp only [ht] <;> rfl, ?_⟩
      simp only [MR]
      exact ⟨_, rfl, a2s_simL (zero_noIds (hC _ _ ht) rfl)⟩
    · cases h
  case box t x =>
    have hx := hE x
    split at h
    · cases h
    · rename_i v hne
      cases h
      have hx' : E x ≠ .any := fun e => hne (by rw [e])
      have ha : E' x ≠ .any := by
        intro e
        rw [e] at hx
        cases hv : E x <;> rw [hv] at hx <;> simp only [VR, reduceCtorEq] at hx
        all_goals first
          | exact hx' hv
          | (simp at hx; done)
      refine ⟨.newp (E' x).cells.length (E' x).cells, ?_, ?_⟩
      · cases hv : E' x <;> first | exact absurd hv ha | rfl
      · simp only [MR]; exact ⟨_, rfl, VR_cells hx (fun cs => .inr hx')⟩
  case build t ps =>
    split at h
    · rename_i ht
      rw [T.run_ofO, Option.map_eq_some_iff] at h
      obtain ⟨cs, hcs, rfl⟩ := h
      obtain ⟨r, hr, hv⟩ := fillS_sim hcs (PR_map hE _) (a2s_simL (zero_noIds (hC _ _ ht) rfl))
      exact ⟨_, by simp only [ht, hr, Option.map_some] <;> rfl, pure (by simp only [VR]; exact ⟨_, rfl, hv⟩)⟩
    · rename_i ht
      rw [T.run_ofO, Option.map_eq_some_iff] at h
      obtain ⟨cs, hcs, rfl⟩ := h
      obtain ⟨r, hr, hv⟩ := fillS_sim hcs (PR_map hE _) (a2s_simL (zero_noIds (hC _ _ ht) rfl))
      exact ⟨_, by simp only [ht, hr, Option.map_some] <;> rfl, pure (by simp only [VR]; exact ⟨_, rfl, hv⟩)⟩
    · cases h
  case buildSlice t len ps =>
    split at h
    · rename_i e _ _ _ _ _ ht
      split at h
      · rename_i ks he hk
        split at h
        · rename_i hc
          split at h
          · rename_i cs hcs
            rw [T.run_ofO, Option.map_eq_some_iff] at h
            obtain ⟨l, hl, rfl⟩ := h
            obtain ⟨r, hr, hv⟩ := fillS_sim hcs (PR_map hE _) (VRL_repl (a2s_simL (zero_noIds (hC _ _ he) rfl)) len)
            have hch := chunks_sim (s := ks.length) (n := len) hv
            have hll : l.length = len := by rw [toDss_length hl, chunksS_length]
            obtain ⟨hc1, hc2, hc3⟩ := hc
            subst hc3
            have hee := toDss_enc hl hch.1 hch.2
            refine ⟨_, by simp only [ht, he, if_pos (And.intro hc1 hc2), hr, Option.map_some] <;> rfl, ?_⟩
            simp only [MR]
            exact ⟨_, by rw [hll], hee, EncE_ok hee⟩
          · cases h
        · cases h
      · cases h
    · cases h
  case load t a =>
    have ha := hE a
    split at h
    · rename_i ty ht
      split at h
      · rename_i i s k j he
        rw [he] at ha
        simp only [VR] at ha
        cases h
        exact ⟨_, by simp only [ht, ha] <;> rfl, by simp only [MR]⟩
      · rename_i cs he
        rw [he] at ha
        simp only [VR] at ha
        obtain ⟨kd, vs, ha, hv⟩ := ha
        simp only [ht, ha]
        split at h
        · rename_i hag
          rw [if_pos hag]
          split at h
          · rename_i hle
            cases h
            rw [if_pos (by rw [← VRL_length hv]; exact hle)]
            exact ⟨_, rfl, pure (by simp only [VR]; exact ⟨_, rfl, VRL_take _ hv⟩)⟩
          · cases h
        · rename_i hag
          rw [if_neg hag]
          rw [T.run_ofO, Option.map_eq_some_iff] at h
          obtain ⟨v, hv', rfl⟩ := h
          cases cs with
          | nil => cases hv'
          | cons c cs =>
            simp only [List.head?_cons, Option.some.injEq] at hv'
            subst hv'
            simp only [VRL] at hv
            obtain ⟨u, us, rfl, h1, h2⟩ := hv
            exact ⟨_, rfl, pure h1⟩
      · cases h
    · cases h
  case store t a x =>
    have ha := hE a
    have hx := hE x
    split at h
    · rename_i ty ht
      split at h
      · cases h
      · rename_i v i s k j he hne
        rw [he] at ha
        simp only [VR] at ha
        have hx' : E x ≠ .any := hne
        have hxa : E' x ≠ .any := by
          intro e
          rw [e] at hx
          cases hv : E x <;> rw [hv] at hx <;> simp only [VR, reduceCtorEq] at hx
          all_goals first
            | exact hx' hv
            | (simp at hx; done)
        have hcells := VR_cells hx (fun cs => .inr hx')
        split at h
        · rename_i hl
          cases h
          refine ⟨.store i s k j (E' x).cells, ?_, by simp only [MR]; exact ⟨_, rfl, hcells⟩⟩
          rw [VRL_length hcells] at hl
          simp only [ht, ha]
          cases hv : E' x <;> first | exact absurd hv hxa | (rw [hv] at hl; simp only [if_pos hl])
        · cases h
      · cases h
    · cases h
  case nilCheck x =>
    have hx := hE x
    split at h
    · rename_i i s k j he
      rw [he] at hx; simp only [VR] at hx
      cases h
      exact ⟨_, by simp only [hx] <;> rfl, pure (by simp only [VR])⟩
    · rename_i cs he
      rw [he] at hx; simp only [VR] at hx
      obtain ⟨kd, vs, hx, hv⟩ := hx
      cases h
      exact ⟨_, by simp only [hx] <;> rfl, pure (by simp only [VR]; exact ⟨_, _, rfl, hv⟩)⟩
    · rename_i f a c he
      rw [he] at hx; simp only [VR] at hx
      obtain ⟨a', c', hx, h1, h2⟩ := hx
      cases h
      exact ⟨_, by simp only [hx] <;> rfl, pure (by simp only [VR]; exact ⟨_, _, rfl, h1, h2⟩)⟩
    · cases h
  case binOp op t x y t' =>
    rw [T.run_map, Option.map_eq_some_iff] at h
    obtain ⟨v, hv, rfl⟩ := h
    obtain ⟨u, hu, hr⟩ := binS_sim hv (hE x) (hE y)
    exact ⟨_, by simp only [hu, Option.map_some] <;> rfl, pure hr⟩
  case unOp op t x =>
    rw [T.run_ofO, Option.map_eq_some_iff] at h
    obtain ⟨v, hv, rfl⟩ := h
    obtain ⟨u, hu, hr⟩ := unS_sim hv (hE x)
    exact ⟨_, by simp only [hu, Option.map_some] <;> rfl, pure hr⟩
  case convert s d x =>
    have hx := hE x
    split at h
    · rename_i k n hs hd he
      rw [he] at hx; simp only [VR] at hx
      cases h
      exact ⟨_, by simp only [hs, hd, hx] <;> rfl, pure (by simp only [VR])⟩
    · cases h
  case makeInterface t x =>
    split at h
    · cases h
    · rename_i ty hne ht
      cases h
      refine ⟨.pure (.ifc t (E' x)), ?_, pure (by simp only [VR]; exact ⟨_, rfl, hE x⟩)⟩
      split
      · rename_i e; exact absurd e (by rw [ht]; exact fun e => hne _ _ _ _ _ (Option.some.inj e))
      · rfl
      · rename_i e; rw [ht] at e; cases e
    · cases h
  case makeFunc f a c =>
    cases h
    exact ⟨_, rfl, pure (by simp only [VR]; exact ⟨_, _, rfl, VRL_mapE hE _, VRL_mapE hE _⟩)⟩
  case makeSlice t l c =>
    have hl := hE l
    have hc := hE c
    split at h
    · rename_i e _ _ _ _ _ n m ht he1 he2
      rw [he1] at hl; rw [he2] at hc
      simp only [VR] at hl hc
      split at h
      · rename_i ks he hk
        split at h
        · rename_i d hd
          split at h
          · rename_i hcond
            obtain ⟨c1, c2, c3⟩ := hcond
            simp only [T.run] at h
            split at h
            · rename_i hn
              cases h
              simp only [decide_eq_true_eq] at hn
              obtain ⟨n1, n2, n3, n4⟩ := hn
              subst c3
              have hee := EncE_replicate (toDs_enc (c := d) (j := 0) hd (a2s_simL (zero_noIds (hC _ _ he) rfl)) (fun i d h => by simpa using h)) n.toNat
              refine ⟨_, by simp only [ht, hl, hc, he]; rw [if_pos ⟨n1, n2, n3, n4, c1, c2⟩], ?_⟩
              simp only [MR]
              exact ⟨_, by simp, hee, EncE_ok hee⟩
            · cases h
          · cases h
        · cases h
      · cases h
    · cases h
  case slice t x lo hi mx =>
    split at h
    · rename_i e _ _ _ _ _ ht
      split at h
      · rename_i te he
        rw [T.run_map, Option.map_eq_some_iff] at h
        obtain ⟨v, hv, rfl⟩ := h
        obtain ⟨u, hu, hr⟩ := sliceS_sim hE hv (hE x)
        exact ⟨_, by simp only [ht, he, hu, Option.map_some] <;> rfl, pure hr⟩
      · cases h
    · cases h
  case fieldAddr t x f =>
    have hx := hE x
    split at h
    · rename_i fs _ _ _ _ _ ht
      split at h
      · rename_i off sz ag hf
        split at h
        · cases h
        · rename_i hsz
          simp only [ht, hf, if_neg hsz]
          split at h
          · rename_i i s k j he
            rw [he] at hx; simp only [VR] at hx
            cases h
            exact ⟨_, by simp only [hx] <;> rfl, pure (by simp only [VR])⟩
          · rename_i cs he
            rw [he] at hx; simp only [VR] at hx
            obtain ⟨kd, vs, hx, hv⟩ := hx
            cases h
            exact ⟨_, by simp only [hx] <;> rfl, pure (by simp only [VR]; exact ⟨_, _, rfl, VRL_drop _ hv⟩)⟩
          · cases h
      · cases h
    · cases h
  case field t x f =>
    have hx := hE x
    split at h
    · rename_i fs _ _ _ _ _ cs ht he
      rw [he] at hx; simp only [VR] at hx
      obtain ⟨vs, hx, hv⟩ := hx
      simp only [ht, hx]
      split at h
      · rename_i off sz hf
        simp only [hf]
        split at h
        · rename_i hle
          cases h
          rw [if_pos (by rw [← VRL_length hv]; exact hle)]
          exact ⟨_, rfl, pure (by simp only [VR]; exact ⟨_, rfl, VRL_take _ (VRL_drop _ hv)⟩)⟩
        · cases h
      · rename_i off sz hf
        simp only [hf]
        rw [T.run_ofO, Option.map_eq_some_iff] at h
        obtain ⟨v, hv', rfl⟩ := h
        obtain ⟨u, hu, hr⟩ := VRL_get hv hv'
        exact ⟨_, by simp only [hu, Option.map_some] <;> rfl, pure hr⟩
      · cases h
    · cases h
  case indexAddr t x ix =>
    have hx := hE x
    have hi := hE ix
    split at h
    · rename_i e _ _ _ _ _ k n ht he1
      rw [he1] at hi; simp only [VR] at hi
      simp only [ht, hi]
      split at h
      · rename_i te c0 ks l he hex
        rw [hex] at hx; simp only [VR] at hx
        split at h
        · rename_i hs
          simp only [T.run] at h
          split at h
          · rename_i hn
            cases h
            simp only [decide_eq_true_eq] at hn
            rcases hx with ⟨-, rfl⟩ | ⟨kd, c0', es, hx, -, h1, h2⟩
            · simp at hn; omega
            · have hlt : n.toNat < es.length := by omega
              simp only [he, hx]
              rw [if_pos ⟨hn.1, hs⟩, List.getElem?_eq_getElem hlt]
              refine ⟨_, rfl, pure ?_⟩
              simp only [VR]
              refine ⟨_, _, rfl, EncC_dec (h2 n.toNat _ _ (List.getElem?_eq_getElem hlt) ?_)⟩
              rw [List.getD_eq_getElem?_getD, List.getElem?_eq_getElem (by omega)]; rfl
          · cases h
        · cases h
      · rename_i te i s m he hex
        rw [hex] at hx; simp only [VR] at hx
        obtain ⟨cap, hx⟩ := hx
        split at h
        · rename_i hs
          simp only [T.run] at h
          split at h
          · rename_i hn
            cases h
            simp only [decide_eq_true_eq] at hn
            simp only [he, hx]
            rw [if_pos ⟨hn.1, hn.2, hs⟩]
            exact ⟨_, rfl, pure (by simp only [VR, Nat.zero_add])⟩
          · cases h
        · cases h
      · cases h
    · cases h
  case extract x i =>
    have hx := hE x
    split at h
    · rename_i vs he
      rw [he] at hx; simp only [VR] at hx
      obtain ⟨us, hx, hv⟩ := hx
      rw [T.run_ofO, Option.map_eq_some_iff] at h
      obtain ⟨v, hv', rfl⟩ := h
      obtain ⟨u, hu, hr⟩ := VRL_get hv hv'
      exact ⟨_, by simp only [hx, hu, Option.map_some] <;> rfl, pure hr⟩
    · cases h
  case call c =>
    split at h
    · rename_i b hb
      simp only [hb]
      exact planBS_sim hE h
    · rename_i f hf
      simp only [hf]
      have hx := hE f
      split at h
      · rename_i g a cp he
        rw [he] at hx; simp only [VR] at hx
        obtain ⟨a', c', hx, h1, h2⟩ := hx
        cases h
        refine ⟨_, by simp only [hx] <;> rfl, ?_⟩
        simp only [MR]
        exact ⟨_, rfl, VRL_append (VRL_append h1 (VRL_mapE hE _)) h2⟩
      · cases h
    · cases h
  all_goals cases h
end
end Go.Lite
