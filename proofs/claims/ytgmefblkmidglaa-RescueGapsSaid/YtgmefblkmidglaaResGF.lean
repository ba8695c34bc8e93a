/-
  Ranges over functions whose rounds hold no loops: heads may hold different numbers of blocks.
  Shapes of arguments, results and loops. Written by program.
  Gaps: what the document and the program compute.
  Tables. Written by program.
  What the rounds and the functions come to. Written by program.
  The document's gaps compute what their words say.
  Pieces, and the program's gaps, compute what their words say.
  Gaps, plainly: in a piece it does not change whether a zone is covered, so the program's gaps are the document's.
  The program's gaps compute what their words say.
-/
import Derived.Test.YtgmefblkmidglaaSymGo
import Derived.Test.YtgmefblkmidglaaResGE
import Derived.Test.YtgmefblkmidglaaResGD
namespace Go.Lite
theorem rangeS_ok0 {C : Cfg} (hC : ∀ t Y, C.ty t = some Y → tyOf C.P t = some Y) {tab : Tab} {n : Nat} (hS : SpOK C tab n) {f : FuncId} {r : Rg} {k : Nat} {live : List Nat} {head : List Shp} {Y : YS}
    (hYok : YOK Y) (hla : ∀ kk, LoopsOKK C tab n kk f r.2.2.1) (hlb : ∀ kk, LoopsOKK C tab n kk f r.2.2.2) (hann : C.ann f (keyOf r.2.2.2) = some live) (hgive : C.give f (keyOf r.2.2.2) = Y.give) {it : ItL} (hIt : AllOKI C n Y it) {G : List (List D) → List D → T (Ex × List D)}
    (hG : ∀ L ds rr, (G L ds).run = some rr → FoldR (fun ds el => (roundRT C tab f r k ((headA head ds).h.length + (Y.head el).2.length) live head Y ds el).run) Y.give (fun a b => headA head a = headA head b) ds L rr.1 rr.2) : CodeSim C n k f r.code tab.y tab.q (rangeS k live r.1 it head G) := by
  intro σ e σ' h
  unfold rangeS at h
  split at h
  · cases h
  rename_i hlog
  split at h
  case h_2 => cases h
  rename_i gf a cp hev
  generalize hms : reachS (sget (normS k live σ).h) wide ((a ++ cp).flatMap (idsS deep)) [] = ms at h
  dsimp only at h
  split at h
  case h_2 => cases h
  rename_i F ds hF hfit
  rw [T.run_bind, Option.bind_eq_some_iff] at h
  obtain ⟨L, hL, h⟩ := h
  rw [T.run_bind, Option.bind_eq_some_iff] at h
  obtain ⟨rr, hr0, h⟩ := h
  cases h
  refine ⟨by rw [hlog]; exact List.nil_prefix, ?_⟩
  intro τ hr S H P Lg _ _ s hs
  have hgc : gcOf C k f r.2.2.2 = norm k live := by unfold gcOf; rw [hann]
  have h1 : SSR (normS k live σ) (norm k live τ) := norm_sim hr
  have hv := evS_sim h1.1 r.1
  rw [hev] at hv
  simp only [VR] at hv
  obtain ⟨a', c', hv, ha, hcp⟩ := hv
  have hreach : reach (hget (norm k live τ).h) wide ((a' ++ c').flatMap (ids deep)) [] = ms := by
    rw [← hms, ids_eqs (VRL_append ha hcp)]
    exact reach_eq h1.2.2 _ _ _
  have h2 := fitsA_sim hfit (norm_sim (k := k) (live := live) (τ := { tmps := (norm k live τ).tmps, h := hups (norm k live τ).h (ms.map fun i => (i, none)) }) ⟨h1.1, HR.ups h1.2 (UR_kills ms)⟩)
  have hargs : VRL (a.map (mvS true false (pos ms) deep) ++ [.yl] ++ cp.map (mvS true false (pos ms) deep)) (a'.map (mv true false (pos ms) deep) ++ [.yl] ++ c'.map (mv true false (pos ms) deep)) :=
    VRL_append (VRL_append (VRL_map (mv_sim true false _ deep) ha) (VRL_cons (by simp only [VR]) VRL_nil)) (VRL_map (mv_sim true false _ deep) hcp)
  have hheap : HR (ms.map fun i => (sget (normS k live σ).h i).map (mvSB true false (pos ms))) (ms.map fun i => (hget (norm k live τ).h i).map (mvB true false (pos ms))) := HR.maps _ fun i _ => OR.map (h1.2.2 i) _
  obtain ⟨q, Q, q1, q2, q3⟩ := fold_sim (head := head) (Y := Y) (s := s) (Hf := roundH r.2.1 (norm k live) Y.give (fun kk => execA C (callA C n) f kk H r.2.2.1) (fun kk => execA C (callA C n) f kk H r.2.2.2))
    (fun ds el x' o hR hx τ hτ ya yh hya hyh => round_sim hC hS hYok (hla _) (hlb _) hR hx hτ hya hyh H s) (hG L ds rr hr0)
  obtain ⟨v', h', s', hcall, hQ⟩ := allOKI_get hIt gf F hF _ _ L hL _ _ hargs hheap _ _ Q q q2 _ (q1 _ h2)
  obtain ⟨τ', rfl, hτ'⟩ := q3 _ hQ
  refine ⟨τ', s, ?_, by rw [headA_log]; rw [hlog] at hs; exact hs, hτ'⟩
  unfold Rg.code
  simp only [execA, hgc, hgive, hv, hreach, hcall]
  cases rr.1 <;> rfl
theorem range_of0 {C : Cfg} (hC : ∀ t Y, C.ty t = some Y → tyOf C.P t = some Y) {sp : SpL} {sw : SwL} {n : Nat} {f : FuncId} {lp rg : LpL} {Y : YS} (hY : YOK Y) (hsp : AllOK C n sp) (hsw : AllOKW C n sw) (k m : Nat) (h1 : (loopsIn (rangeOf C.P f k).2.2.2).isEmpty = true ∧ rangesIn (rangeOf C.P f k).2.2.2 = []) (h4 : (loopsIn (rangeOf C.P f k).2.2.1).isEmpty = true ∧ rangesIn (rangeOf C.P f k).2.2.1 = [])
    {live : List Nat} (hann : C.ann f (keyOf (rangeOf C.P f k).2.2.2) = some live) (hgive : C.give f (keyOf (rangeOf C.P f k).2.2.2) = Y.give) {it : ItL} (hIt : AllOKI C n Y it) {head : List Shp} {G : List (List D) → List D → T (Ex × List D)}
    (hG : ∀ L ds rr, (G L ds).run = some rr → FoldR (fun ds el => (roundRT C (mkTabR sp lp sw rg) f (rangeOf C.P f k) m ((headA head ds).h.length + (Y.head el).2.length) live head Y ds el).run) Y.give (fun a b => headA head a = headA head b) ds L rr.1 rr.2) : CodeSim C n m f (rangeOf C.P f k).code none 0 (rangeS m live (rangeOf C.P f k).1 it head G) :=
  rangeS_ok0 hC (tab := mkTabR sp lp sw rg) (spOK_ofR hsp hsw) hY (fun _ => loops_ofG (lp := lp) (rg := rg) rfl rfl [] [] (List.isEmpty_iff.1 h4.1) rfl (fun k hk => by cases hk) h4.2 rfl (fun k hk => by cases hk))
    (fun _ => loops_ofG (lp := lp) (rg := rg) rfl rfl [] [] (List.isEmpty_iff.1 h1.1) rfl (fun k hk => by cases hk) h1.2 rfl (fun k hk => by cases hk)) hann hgive hIt hG
end Go.Lite

namespace Go.Proofs.Ytgmefblkmidglaa
open Go.Lite
def s54 : Sig := ⟨[.agg [.k (.int .i64), .k (.ro [.int .i64, .int .i64, .int .i64, .ro [.int .i64, .int .i64]])], .agg [.k (.int .i64), .k (.int .i64), .k (.int .i64), .k (.int .i64)], .agg [.k (.int .i64), .k (.int .i64), .k (.int .i64)], .k (.int .i64)], [(.k .bool, [])]⟩
def s30 : Sig := ⟨[.agg [.k (.int .i64), .k (.ro [.int .i64, .int .i64, .int .i64, .ro [.int .i64, .int .i64]])], .k (.ro [.int .i64, .int .i64, .int .i64, .int .i64]), .k (.ro [.int .i64, .int .i64, .int .i64]), .k (.int .i64)], [(.nils, []), (.sl 0 3, [.row [.int .i64, .int .i64, .int .i64]])]⟩
def l30_3 : LSig := mkLS [1, 2, 3, 4, 9, 10] [(64, [(1, .k (.ro [.int .i64, .int .i64, .int .i64, .int .i64])), (2, .k (.ro [.int .i64, .int .i64, .int .i64])), (3, .k (.int .i64)), (4, .ptr 0 2 0 0), (9, .nils), (10, .k (.int .i64))], [.box [.k (.int .i64), .k (.ro [.int .i64, .int .i64, .int .i64, .ro [.int .i64, .int .i64]])]]), (64, [(1, .k (.ro [.int .i64, .int .i64, .int .i64, .int .i64])), (2, .k (.ro [.int .i64, .int .i64, .int .i64])), (3, .k (.int .i64)), (4, .ptr 0 2 0 0), (9, .sl 1 3), (10, .k (.int .i64))], [.box [.k (.int .i64), .k (.ro [.int .i64, .int .i64, .int .i64, .ro [.int .i64, .int .i64]])], .row [.int .i64, .int .i64, .int .i64]])] [(.exit 0, [9], [(64, [(9, .nils)], []), (64, [(9, .sl 0 3)], [.row [.int .i64, .int .i64, .int .i64]])])]
def l30_7 : LSig := mkLS [1, 2, 3, 4, 9, 10, 11, 12] [(64, [(1, .k (.ro [.int .i64, .int .i64, .int .i64, .int .i64])), (2, .k (.ro [.int .i64, .int .i64, .int .i64])), (3, .k (.int .i64)), (4, .ptr 0 2 0 0), (9, .nils), (10, .k (.int .i64)), (11, .k .bool), (12, .k (.int .i64))], [.box [.k (.int .i64), .k (.ro [.int .i64, .int .i64, .int .i64, .ro [.int .i64, .int .i64]])]]), (64, [(1, .k (.ro [.int .i64, .int .i64, .int .i64, .int .i64])), (2, .k (.ro [.int .i64, .int .i64, .int .i64])), (3, .k (.int .i64)), (4, .ptr 0 2 0 0), (9, .sl 1 3), (10, .k (.int .i64)), (11, .k .bool), (12, .k (.int .i64))], [.box [.k (.int .i64), .k (.ro [.int .i64, .int .i64, .int .i64, .ro [.int .i64, .int .i64]])], .row [.int .i64, .int .i64, .int .i64]])] [(.exit 2, [1, 2, 3, 4, 9, 10], [(64, [(1, .k (.ro [.int .i64, .int .i64, .int .i64, .int .i64])), (2, .k (.ro [.int .i64, .int .i64, .int .i64])), (3, .k (.int .i64)), (4, .ptr 0 2 0 0), (9, .nils), (10, .k (.int .i64))], [.box [.k (.int .i64), .k (.ro [.int .i64, .int .i64, .int .i64, .ro [.int .i64, .int .i64]])]]), (64, [(1, .k (.ro [.int .i64, .int .i64, .int .i64, .int .i64])), (2, .k (.ro [.int .i64, .int .i64, .int .i64])), (3, .k (.int .i64)), (4, .ptr 0 2 0 0), (9, .sl 1 3), (10, .k (.int .i64))], [.box [.k (.int .i64), .k (.ro [.int .i64, .int .i64, .int .i64, .ro [.int .i64, .int .i64]])], .row [.int .i64, .int .i64, .int .i64]])])]
def l30_11 : LSig := mkLS [1, 2, 3, 4, 9, 10, 11, 12, 13, 14] [(64, [(1, .k (.ro [.int .i64, .int .i64, .int .i64, .int .i64])), (2, .k (.ro [.int .i64, .int .i64, .int .i64])), (3, .k (.int .i64)), (4, .ptr 0 2 0 0), (9, .nils), (10, .k (.int .i64)), (11, .k .bool), (12, .k (.int .i64)), (13, .k .bool), (14, .k (.int .i64))], [.box [.k (.int .i64), .k (.ro [.int .i64, .int .i64, .int .i64, .ro [.int .i64, .int .i64]])]]), (64, [(1, .k (.ro [.int .i64, .int .i64, .int .i64, .int .i64])), (2, .k (.ro [.int .i64, .int .i64, .int .i64])), (3, .k (.int .i64)), (4, .ptr 0 2 0 0), (9, .sl 1 3), (10, .k (.int .i64)), (11, .k .bool), (12, .k (.int .i64)), (13, .k .bool), (14, .k (.int .i64))], [.box [.k (.int .i64), .k (.ro [.int .i64, .int .i64, .int .i64, .ro [.int .i64, .int .i64]])], .row [.int .i64, .int .i64, .int .i64]])] [(.exit 4, [1, 2, 3, 4, 9, 10, 11, 12, 13], [(64, [(1, .k (.ro [.int .i64, .int .i64, .int .i64, .int .i64])), (2, .k (.ro [.int .i64, .int .i64, .int .i64])), (3, .k (.int .i64)), (4, .ptr 0 2 0 0), (9, .nils), (10, .k (.int .i64)), (11, .k .bool), (12, .k (.int .i64)), (13, .k .bool)], [.box [.k (.int .i64), .k (.ro [.int .i64, .int .i64, .int .i64, .ro [.int .i64, .int .i64]])]]), (64, [(1, .k (.ro [.int .i64, .int .i64, .int .i64, .int .i64])), (2, .k (.ro [.int .i64, .int .i64, .int .i64])), (3, .k (.int .i64)), (4, .ptr 0 2 0 0), (9, .sl 1 3), (10, .k (.int .i64)), (11, .k .bool), (12, .k (.int .i64)), (13, .k .bool)], [.box [.k (.int .i64), .k (.ro [.int .i64, .int .i64, .int .i64, .ro [.int .i64, .int .i64]])], .row [.int .i64, .int .i64, .int .i64]])])]
def s96 : SigI := ⟨[.yl, .ptr 0 1 0 0, .ptr 1 2 0 0, .ptr 2 3 0 0, .ptr 3 1 0 0], [.box [.k (.int .i64)], .box [.k (.int .i64), .k (.ro [.int .i64, .int .i64, .int .i64, .ro [.int .i64, .int .i64]])], .box [.k (.int .i64), .k (.int .i64), .k (.int .i64)], .box [.k (.ro [.int .i64, .int .i64, .int .i64, .int .i64])]]⟩
def y96 : YS := mkY [.agg [.k (.int .i64), .k (.int .i64), .k .bool]] [] false
def l96_1 : LSig := mkLS [0, 1, 2, 3, 4, 6] [(120, [(0, .yl), (1, .ptr 0 1 0 0), (2, .ptr 1 2 0 0), (3, .ptr 2 3 0 0), (4, .ptr 3 1 0 0), (6, .k (.int .i64))], [.box [.k (.int .i64)], .box [.k (.int .i64), .k (.ro [.int .i64, .int .i64, .int .i64, .ro [.int .i64, .int .i64]])], .box [.k (.int .i64), .k (.int .i64), .k (.int .i64)], .box [.k (.ro [.int .i64, .int .i64, .int .i64, .int .i64])]])] [(.exit 0, [], [(120, [], [.box [.k (.int .i64)], .box [.k (.int .i64), .k (.ro [.int .i64, .int .i64, .int .i64, .ro [.int .i64, .int .i64]])], .box [.k (.int .i64), .k (.int .i64), .k (.int .i64)], .box [.k (.ro [.int .i64, .int .i64, .int .i64, .int .i64])]])]), (.ret, [], [(120, [], [.box [.k (.int .i64)], .box [.k (.int .i64), .k (.ro [.int .i64, .int .i64, .int .i64, .ro [.int .i64, .int .i64]])], .box [.k (.int .i64), .k (.int .i64), .k (.int .i64)], .box [.k (.ro [.int .i64, .int .i64, .int .i64, .int .i64])]])])]
def l96_6 : LSig := mkLS [0, 1, 2, 3, 4, 6, 7, 8, 9, 28, 29, 30] [(120, [(0, .yl), (1, .ptr 0 1 0 0), (2, .ptr 1 2 0 0), (3, .ptr 2 3 0 0), (4, .ptr 3 1 0 0), (6, .k (.int .i64)), (7, .sl 4 1), (8, .ptr 5 3 0 0), (9, .k (.int .i64)), (28, .k (.ro [.int .i64, .int .i64, .int .i64, .int .i64])), (29, .k (.int .i64)), (30, .k (.int .i64))], [.box [.k (.int .i64)], .box [.k (.int .i64), .k (.ro [.int .i64, .int .i64, .int .i64, .ro [.int .i64, .int .i64]])], .box [.k (.int .i64), .k (.int .i64), .k (.int .i64)], .box [.k (.ro [.int .i64, .int .i64, .int .i64, .int .i64])], .row [.int .i64], .box [.k (.int .i64), .k (.int .i64), .k .bool]])] [(.exit 2, [0, 1, 2, 3, 4, 6, 8, 9], [(120, [(0, .yl), (1, .ptr 0 1 0 0), (2, .ptr 1 2 0 0), (3, .ptr 2 3 0 0), (4, .ptr 3 1 0 0), (6, .k (.int .i64)), (8, .ptr 4 3 0 0), (9, .k (.int .i64))], [.box [.k (.int .i64)], .box [.k (.int .i64), .k (.ro [.int .i64, .int .i64, .int .i64, .ro [.int .i64, .int .i64]])], .box [.k (.int .i64), .k (.int .i64), .k (.int .i64)], .box [.k (.ro [.int .i64, .int .i64, .int .i64, .int .i64])], .box [.k (.int .i64), .k (.int .i64), .k .bool]])])]
def s81 : SigW := ⟨[.agg [.k (.int .i64), .k (.ro [.int .i64, .int .i64, .int .i64, .ro [.int .i64, .int .i64]])], .k (.ro [.int .i64, .int .i64, .int .i64, .int .i64]), .agg [.k (.int .i64), .k (.int .i64), .k (.int .i64)], .k (.int .i64)], [], [(.fn 96 [] [.ptr 0 1 0 0, .ptr 1 2 0 0, .ptr 2 3 0 0, .ptr 3 1 0 0], [.box [.k (.int .i64)], .box [.k (.int .i64), .k (.ro [.int .i64, .int .i64, .int .i64, .ro [.int .i64, .int .i64]])], .box [.k (.int .i64), .k (.int .i64), .k (.int .i64)], .box [.k (.ro [.int .i64, .int .i64, .int .i64, .int .i64])]])]⟩
def s53 : Sig := ⟨[.agg [.k (.int .i64), .k (.ro [.int .i64, .int .i64, .int .i64, .ro [.int .i64, .int .i64]])], .k (.ro [.int .i64, .int .i64, .int .i64, .int .i64]), .k (.ro [.int .i64, .int .i64, .int .i64]), .k (.int .i64)], [(.nils, []), (.sl 0 3, [.row [.int .i64, .int .i64, .int .i64]])]⟩
def h53_10 : List Shp := [mkShp (51, [(1, .k (.ro [.int .i64, .int .i64, .int .i64, .int .i64])), (3, .k (.int .i64)), (4, .ptr 0 2 0 0), (8, .nils), (9, .ptr 1 1 0 0), (10, .ptr 2 1 0 0), (12, .ptr 3 1 0 0), (14, .k (.ro [.int .i64, .int .i64, .int .i64])), (15, .k (.int .i64)), (16, .k (.int .i64)), (25, .fn 96 [] [.any, .any, .any, .any])], [.box [.k (.int .i64), .k (.ro [.int .i64, .int .i64, .int .i64, .ro [.int .i64, .int .i64]])], .box [.nils], .box [.k (.int .i64)], .box [.k .bool]]), mkShp (51, [(1, .k (.ro [.int .i64, .int .i64, .int .i64, .int .i64])), (3, .k (.int .i64)), (4, .ptr 0 2 0 0), (8, .nils), (9, .ptr 1 1 0 0), (10, .ptr 2 1 0 0), (12, .ptr 3 1 0 0), (14, .k (.ro [.int .i64, .int .i64, .int .i64])), (15, .k (.int .i64)), (16, .k (.int .i64)), (25, .fn 96 [] [.any, .any, .any, .any])], [.box [.k (.int .i64), .k (.ro [.int .i64, .int .i64, .int .i64, .ro [.int .i64, .int .i64]])], .box [.sl 4 3], .box [.k (.int .i64)], .box [.k .bool], .row [.int .i64, .int .i64, .int .i64]])]
def l53_3 : LSig := mkLS [1, 3, 4, 8, 9, 14, 15, 16] [(51, [(1, .k (.ro [.int .i64, .int .i64, .int .i64, .int .i64])), (3, .k (.int .i64)), (4, .ptr 0 2 0 0), (8, .nils), (9, .ptr 1 1 0 0), (14, .k (.ro [.int .i64, .int .i64, .int .i64])), (15, .k (.int .i64)), (16, .k (.int .i64))], [.box [.k (.int .i64), .k (.ro [.int .i64, .int .i64, .int .i64, .ro [.int .i64, .int .i64]])], .box [.nils]]), (51, [(1, .k (.ro [.int .i64, .int .i64, .int .i64, .int .i64])), (3, .k (.int .i64)), (4, .ptr 0 2 0 0), (8, .nils), (9, .ptr 1 1 0 0), (14, .k (.ro [.int .i64, .int .i64, .int .i64])), (15, .k (.int .i64)), (16, .k (.int .i64))], [.box [.k (.int .i64), .k (.ro [.int .i64, .int .i64, .int .i64, .ro [.int .i64, .int .i64]])], .box [.sl 2 3], .row [.int .i64, .int .i64, .int .i64]])] [(.exit 0, [9], [(51, [(9, .ptr 0 1 0 0)], [.box [.nils]]), (51, [(9, .ptr 0 1 0 0)], [.box [.sl 1 3], .row [.int .i64, .int .i64, .int .i64]])])]
def s27 : Sig := ⟨[.agg [.k (.int .i64), .k (.ro [.int .i64, .int .i64, .int .i64, .ro [.int .i64, .int .i64]])], .k (.ro [.int .i64, .int .i64, .int .i64, .int .i64]), .k (.ro [.int .i64, .int .i64, .int .i64]), .k (.int .i64)], [(.tup [.nils, .k (.int .i64)], []), (.tup [.sl 0 3, .k (.int .i64)], [.row [.int .i64, .int .i64, .int .i64]])]⟩
def s7 : Sig := ⟨[.agg [.k (.int .i64), .k (.ro [.int .i64, .int .i64, .int .i64, .ro [.int .i64, .int .i64]])], .k (.ro [.int .i64, .int .i64, .int .i64, .int .i64]), .k (.ro [.int .i64, .int .i64, .int .i64]), .k (.int .i64)], [(.k .bool, [])]⟩
def l7_10 : LSig := mkLS [9, 11, 12] [(102, [(9, .nils), (11, .nils), (12, .k (.int .i64))], []), (102, [(9, .nils), (11, .sl 0 3), (12, .k (.int .i64))], [.row [.int .i64, .int .i64, .int .i64]]), (102, [(9, .sl 0 3), (11, .nils), (12, .k (.int .i64))], [.row [.int .i64, .int .i64, .int .i64]]), (102, [(9, .sl 0 3), (11, .sl 1 3), (12, .k (.int .i64))], [.row [.int .i64, .int .i64, .int .i64], .row [.int .i64, .int .i64, .int .i64]])] [(.exit 0, [], [(102, [], [])]), (.ret, [8], [(102, [(8, .k .bool)], [])])]
end Go.Proofs.Ytgmefblkmidglaa

namespace Go.Proofs.Ytgmefblkmidglaa
open Go.Lite
noncomputable section
def andI (a b : Int) : Int := IntKind.i64.wrap (BitVec.ofInt IntKind.i64.bits a &&& BitVec.ofInt IntKind.i64.bits b).toNat
def ableB (x z : List D) : Bool := andI (ix x 1) (ix z 1) == ix z 1
/-- A vehicle covers a zone at a second. -/
def covB (n : Int) (r : List (List D)) (x z : List D) (t : Int) : Bool :=
  decide (ix x 2 ≤ t ∧ t < ix x 3) && ableB x z && decide (0 ≤ docA n r (ix x 0) t (ix z 0) ∧ docA n r (ix x 0) t (ix z 0) ≤ t + ix z 2)
def anyC (n : Int) (r v : List (List D)) (z : List D) (t : Int) (k m : Nat) : Bool := !allFrom (fun j => !covB n r (v.getD j []) z t) k m
/-- The last gap goes on. -/
def setTo (g : List (List D)) (x : Int) : List (List D) := g.set (g.length - 1) [(g.getD (g.length - 1) []).getD 0 default, (g.getD (g.length - 1) []).getD 1 default, .i x]
def gapT (i t : Int) (c : Bool) (s : List (List D) × Bool) : List (List D) × Bool := if c then (s.1, false) else if s.2 then (setTo s.1 (t + 1), true) else (s.1 ++ [[.i i, .i t, .i (t + 1)]], true)
def refT (p : Int → Bool) (i : Int) : Nat → Int → List (List D) × Bool → List (List D) × Bool
  | 0, _, s => s
  | k + 1, t, s => refT p i k (t + 1) (gapT i t (p t) s)
def secsF (n : Int) (r v : List (List D)) (z : List D) (t : Int) : Bool := anyC n r v z t 0 v.length
def refZ (n : Int) (r v z : List (List D)) (h : Int) : Nat → Nat → List (List D) → List (List D)
  | _, 0, g => g
  | i, k + 1, g => refZ n r v z h (i + 1) k (refT (secsF n r v (z.getD i [])) i h.toNat 0 (g, false)).1
def okG (n : Int) (r v z : List (List D)) (h : Int) : Prop := netB n r = true ∧ vehs n v = true ∧ zons n z = true ∧ v.length ≤ 1000 ∧ z.length ≤ 100 ∧ 0 ≤ h ∧ h ≤ 100000
def G54 (ds : List D) : T (List D) := match ds with
  | [n, r, a, b, c, d, e, f, g, t] => .need (yes (netB n.I r.L = true ∧ vehB n.I (mk4 a b c d) = true ∧ zonB n.I (mk3 e f g) = true ∧ 0 ≤ t.I ∧ t.I ≤ 100000)) (.leaf [.b (covB n.I r.L (mk4 a b c d) (mk3 e f g) t.I)])
  | _ => .fail
def G30 (ds : List D) : T (List D) := match ds with
  | [n, r, v, z, h] => .need (yes (okG n.I r.L v.L z.L h.I)) (.ite (refZ n.I r.L v.L z.L h.I 0 z.L.length []).isEmpty (.leaf [.i 0]) (.leaf [.i 1, .i (refZ n.I r.L v.L z.L h.I 0 z.L.length []).length, .l (refZ n.I r.L v.L z.L h.I 0 z.L.length [])]))
  | _ => .fail
def G30_3 (ds : List D) : T (Ex × List D) := match ds with
  | [j, v, z, h, i, n, r] => .need (yes (j.I = 0 ∧ okG n.I r.L v.L z.L h.I ∧ 0 ≤ i.I ∧ i.I ≤ z.L.length))
      (.ite (refZ n.I r.L v.L z.L h.I i.I.toNat (z.L.length - i.I.toNat) []).isEmpty (.leaf (.exit 0, [.i 0])) (.leaf (.exit 0, [.i 1, .i (refZ n.I r.L v.L z.L h.I i.I.toNat (z.L.length - i.I.toNat) []).length, .l (refZ n.I r.L v.L z.L h.I i.I.toNat (z.L.length - i.I.toNat) [])])))
  | [j, v, z, h, m, i, n, r, g] => .need (yes (j.I = 1 ∧ okG n.I r.L v.L z.L h.I ∧ (0 ≤ i.I ∧ i.I ≤ z.L.length) ∧ m.I = g.L.length ∧ 0 < g.L.length ∧ m.I ≤ 100000 * i.I))
      (.leaf (.exit 0, [.i 1, .i (refZ n.I r.L v.L z.L h.I i.I.toNat (z.L.length - i.I.toNat) g.L).length, .l (refZ n.I r.L v.L z.L h.I i.I.toNat (z.L.length - i.I.toNat) g.L)]))
  | _ => .fail
def G30_7 (ds : List D) : T (Ex × List D) := match ds with
  | [j, v, z, h, i, o, t, n, r] => .need (yes (j.I = 0 ∧ okG n.I r.L v.L z.L h.I ∧ (0 ≤ i.I ∧ i.I < z.L.length) ∧ (0 ≤ t.I ∧ t.I ≤ h.I) ∧ o.B = false))
      (.ite (refT (secsF n.I r.L v.L (z.L.getD i.I.toNat [])) i.I (h.I.toNat - t.I.toNat) t.I ([], false)).1.isEmpty (.leaf (.exit 2, [.i 0, .l v.L, .l z.L, .i h.I, .i i.I, .i n.I, .l r.L]))
        (.leaf (.exit 2, [.i 1, .l v.L, .l z.L, .i h.I, .i (refT (secsF n.I r.L v.L (z.L.getD i.I.toNat [])) i.I (h.I.toNat - t.I.toNat) t.I ([], false)).1.length, .i i.I, .i n.I, .l r.L, .l (refT (secsF n.I r.L v.L (z.L.getD i.I.toNat [])) i.I (h.I.toNat - t.I.toNat) t.I ([], false)).1])))
  | [j, v, z, h, m, i, o, t, n, r, g] => .need (yes (j.I = 1 ∧ okG n.I r.L v.L z.L h.I ∧ (0 ≤ i.I ∧ i.I < z.L.length) ∧ (0 ≤ t.I ∧ t.I ≤ h.I) ∧ m.I = g.L.length ∧ 0 < g.L.length ∧ m.I ≤ 100000 * i.I + t.I))
      (.leaf (.exit 2, [.i 1, .l v.L, .l z.L, .i h.I, .i (refT (secsF n.I r.L v.L (z.L.getD i.I.toNat [])) i.I (h.I.toNat - t.I.toNat) t.I (g.L, o.B)).1.length, .i i.I, .i n.I, .l r.L, .l (refT (secsF n.I r.L v.L (z.L.getD i.I.toNat [])) i.I (h.I.toNat - t.I.toNat) t.I (g.L, o.B)).1]))
  | _ => .fail
def G30_11 (ds : List D) : T (Ex × List D) := match ds with
  | [j, v, z, h, i, o, t, c, k, n, r] => .need (yes (j.I = 0 ∧ okG n.I r.L v.L z.L h.I ∧ (0 ≤ i.I ∧ i.I < z.L.length) ∧ (0 ≤ t.I ∧ t.I ≤ h.I) ∧ 0 ≤ k.I ∧ k.I ≤ v.L.length))
      (.leaf (.exit 4, [.i 0, .l v.L, .l z.L, .i h.I, .i i.I, .b o.B, .i t.I, .b (c.B || anyC n.I r.L v.L (z.L.getD i.I.toNat []) t.I k.I.toNat (v.L.length - k.I.toNat)), .i n.I, .l r.L]))
  | [j, v, z, h, m, i, o, t, c, k, n, r, g] => .need (yes (j.I = 1 ∧ okG n.I r.L v.L z.L h.I ∧ (0 ≤ i.I ∧ i.I < z.L.length) ∧ (0 ≤ t.I ∧ t.I ≤ h.I) ∧ (0 ≤ k.I ∧ k.I ≤ v.L.length) ∧ m.I = g.L.length))
      (.leaf (.exit 4, [.i 1, .l v.L, .l z.L, .i h.I, .i g.L.length, .i i.I, .b o.B, .i t.I, .b (c.B || anyC n.I r.L v.L (z.L.getD i.I.toNat []) t.I k.I.toNat (v.L.length - k.I.toNat)), .i n.I, .l r.L, .l g.L]))
  | _ => .fail

/-! ### Pieces -/
def mn (a b : Int) : Int := if b < a then b else a
def mx (a b : Int) : Int := if b > a then b else a
/-- What is known of a piece: whether it is covered, its end, and when it may change. -/
structure Pv where
  c : Bool
  to : Int
  nx : Int
def latU (n : Int) (r : List (List D)) (z : List D) (t u : Int) : Int := rg (latF n r (ix z 0) (t + ix z 2)) u.toNat
def stV (n : Int) (r : List (List D)) (z : List D) (t : Int) (x : List D) (s : Pv) : Pv :=
  if ableB x z = false ∨ ix x 3 ≤ t then s
  else if t < ix x 2 then ⟨s.c, s.to, mn s.nx (ix x 2)⟩
  else if t ≤ latU n r z t (ix x 0) then ⟨true, mx s.to (mn (latU n r z t (ix x 0) + 1) (ix x 3)), s.nx⟩
  else if 0 ≤ bestF n r (ix x 0) t (ix z 0) then ⟨s.c, s.to, mn s.nx (mx (t + 1) (bestF n r (ix x 0) t (ix z 0) - ix z 2))⟩ else s
def runV (n : Int) (r v : List (List D)) (z : List D) (t : Int) : Nat → Nat → Pv → Pv
  | _, 0, s => s
  | i, k + 1, s => runV n r v z t (i + 1) k (stV n r z t (v.getD i []) s)
def pvAt (n : Int) (r v : List (List D)) (z : List D) (h t : Int) : Pv := runV n r v z t 0 v.length ⟨false, t, h⟩
def toP (n : Int) (r v : List (List D)) (z : List D) (h t : Int) : Int := mn (if (pvAt n r v z h t).c then (pvAt n r v z h t).to else mx (t + 1) (pvAt n r v z h t).nx) h
def pieceL (n : Int) (r v : List (List D)) (z : List D) (h : Int) : Nat → Int → List (List D)
  | 0, _ => []
  | f + 1, t => if t < h then [.i t, .i (toP n r v z h t), .b (pvAt n r v z h t).c] :: pieceL n r v z h f (toP n r v z h t) else []
def okP (n : Int) (r v : List (List D)) (z : List D) (h : Int) : Prop := netB n r = true ∧ vehs n v = true ∧ zonB n z = true ∧ v.length ≤ 1000 ∧ 0 ≤ h ∧ h ≤ 100000
def G96 (ds : List D) : T (List (List D)) := match ds with
  | [h, n, r, a, b, c, v] => .need (yes (okP n.I r.L v.L (mk3 a b c) h.I)) (.leaf (pieceL n.I r.L v.L (mk3 a b c) h.I h.I.toNat 0))
  | _ => .fail
def G96_1 (q : Nat) (ds : List D) : T (Ex × List D) := match ds with
  | [g, t, h, n, r, a, b, c, v] => .need (yes (okP n.I r.L v.L (mk3 a b c) h.I ∧ 0 ≤ t.I ∧ t.I ≤ h.I ∧ g.L.length ≤ q))
      (.ite (decide (q < g.L.length + (pieceL n.I r.L v.L (mk3 a b c) h.I (h.I - t.I).toNat t.I).length))
        (.leaf (.ret, [.l (g.L ++ (pieceL n.I r.L v.L (mk3 a b c) h.I (h.I - t.I).toNat t.I).take (q + 1 - g.L.length)), .i h.I, .i n.I, .l r.L, .i a.I, .i b.I, .i c.I, .l v.L]))
        (.leaf (.exit 0, [.l (g.L ++ pieceL n.I r.L v.L (mk3 a b c) h.I (h.I - t.I).toNat t.I), .i h.I, .i n.I, .l r.L, .i a.I, .i b.I, .i c.I, .l v.L])))
  | _ => .fail
def pvOf (c to nx : D) : Pv := ⟨c.B, to.I, nx.I⟩
def okPv (t h : Int) (s : Pv) : Prop := (s.c = true → t + 1 ≤ s.to) ∧ (t ≤ s.to ∧ s.to ≤ 100000) ∧ 0 ≤ s.nx ∧ s.nx ≤ h
def G96_6 (_ : Nat) (ds : List D) : T (Ex × List D) := match ds with
  | [g, t, m, nx, v', q, i, h, n, r, a, b, c, v, l, pf, pt, pc] => .need (yes (okP n.I r.L v.L (mk3 a b c) h.I ∧ (0 ≤ t.I ∧ t.I < h.I) ∧ l.L = latF n.I r.L a.I (t.I + c.I) ∧ m.I = n.I ∧ v'.L = v.L ∧ q.I = v.L.length ∧ (0 ≤ i.I ∧ i.I ≤ v.L.length) ∧ okPv t.I h.I (pvOf pc pt nx)))
      (.leaf (.exit 2, [.l g.L, .i t.I, .i (runV n.I r.L v.L (mk3 a b c) t.I i.I.toNat (v.L.length - i.I.toNat) (pvOf pc pt nx)).nx, .i h.I, .i n.I, .l r.L, .i a.I, .i b.I, .i c.I, .l v.L, .i pf.I, .i (runV n.I r.L v.L (mk3 a b c) t.I i.I.toNat (v.L.length - i.I.toNat) (pvOf pc pt nx)).to, .b (runV n.I r.L v.L (mk3 a b c) t.I i.I.toNat (v.L.length - i.I.toNat) (pvOf pc pt nx)).c]))
  | _ => .fail
def G81 (ds : List D) : T (List D) := match ds with
  | [n, r, v, a, b, c, h] => .leaf [.i h.I, .i n.I, .l r.L, .i a.I, .i b.I, .i c.I, .l v.L]
  | _ => .fail
def gapP (i : Int) (e : List D) (s : List (List D) × Bool) : List (List D) × Bool := if bx e 2 then (s.1, false) else if s.2 then (setTo s.1 (ix e 1), true) else (s.1 ++ [[.i i, .i (ix e 0), .i (ix e 1)]], true)
def gapsF (i : Int) : List (List D) → List (List D) × Bool → List (List D) × Bool
  | [], s => s
  | e :: es, s => gapsF i es (gapP i e s)
def G53_10 (L : List (List D)) (ds : List D) : T (Ex × List D) := match ds with
  | [j, v, h, z, q, i, n, r, i', o] => .need (yes (j.I = 0 ∧ o.B = false ∧ L.length ≤ 1000000))
      (.ite (gapsF i'.I L ([], false)).1.isEmpty (.leaf (.normal, [.i 0, .l v.L, .i h.I, .l z.L, .i q.I, .i i.I, .i n.I, .l r.L, .i i'.I, .b false]))
        (.leaf (.normal, [.i 1, .l v.L, .i h.I, .l z.L, .i q.I, .i i.I, .i n.I, .l r.L, .i (gapsF i'.I L ([], false)).1.length, .i i'.I, .b (gapsF i'.I L ([], false)).2, .l (gapsF i'.I L ([], false)).1])))
  | [j, v, h, z, q, i, n, r, m, i', o, g] => .need (yes (j.I = 1 ∧ m.I = g.L.length ∧ 0 < g.L.length ∧ L.length ≤ 1000000 ∧ m.I + L.length ≤ 1000000000))
      (.leaf (.normal, [.i 1, .l v.L, .i h.I, .l z.L, .i q.I, .i i.I, .i n.I, .l r.L, .i (gapsF i'.I L (g.L, o.B)).1.length, .i i'.I, .b (gapsF i'.I L (g.L, o.B)).2, .l (gapsF i'.I L (g.L, o.B)).1]))
  | _ => .fail
def gapsZ (n : Int) (r v z : List (List D)) (h : Int) : Nat → Nat → List (List D) → List (List D)
  | _, 0, g => g
  | i, k + 1, g => gapsZ n r v z h (i + 1) k (gapsF i (pieceL n r v (mk3 (.i (ix (z.getD i []) 0)) (.i (ix (z.getD i []) 1)) (.i (ix (z.getD i []) 2))) h h.toNat 0) (g, false)).1
def G53_3 (ds : List D) : T (Ex × List D) := match ds with
  | [j, v, h, z, q, i, n, r] => .need (yes (j.I = 0 ∧ okG n.I r.L v.L z.L h.I ∧ q.I = z.L.length ∧ 0 ≤ i.I ∧ i.I ≤ z.L.length))
      (.ite (gapsZ n.I r.L v.L z.L h.I i.I.toNat (z.L.length - i.I.toNat) []).isEmpty (.leaf (.exit 0, [.i 0])) (.leaf (.exit 0, [.i 1, .i (gapsZ n.I r.L v.L z.L h.I i.I.toNat (z.L.length - i.I.toNat) []).length, .l (gapsZ n.I r.L v.L z.L h.I i.I.toNat (z.L.length - i.I.toNat) [])])))
  | [j, v, h, z, q, i, n, r, m, g] => .need (yes (j.I = 1 ∧ okG n.I r.L v.L z.L h.I ∧ q.I = z.L.length ∧ (0 ≤ i.I ∧ i.I ≤ z.L.length) ∧ m.I = g.L.length ∧ 0 < g.L.length ∧ m.I ≤ 100000 * i.I))
      (.leaf (.exit 0, [.i 1, .i (gapsZ n.I r.L v.L z.L h.I i.I.toNat (z.L.length - i.I.toNat) g.L).length, .l (gapsZ n.I r.L v.L z.L h.I i.I.toNat (z.L.length - i.I.toNat) g.L)]))
  | _ => .fail
def gapsA (n : Int) (r v z : List (List D)) (h : Int) : List (List D) := gapsZ n r v z h 0 z.length []
def G53 (ds : List D) : T (List D) := match ds with
  | [n, r, v, z, h] => .need (yes (okG n.I r.L v.L z.L h.I)) (.ite (gapsA n.I r.L v.L z.L h.I).isEmpty (.leaf [.i 0]) (.leaf [.i 1, .i (gapsA n.I r.L v.L z.L h.I).length, .l (gapsA n.I r.L v.L z.L h.I)]))
  | _ => .fail
def G27 (ds : List D) : T (List D) := match ds with
  | [n, r, v, z, h] => .ite (coverB n.I r.L v.L 60 z.L h.I) (.ite (gapsA n.I r.L v.L z.L h.I).isEmpty (.leaf [.i 0, .i 0]) (.leaf [.i 1, .i (gapsA n.I r.L v.L z.L h.I).length, .i 0, .l (gapsA n.I r.L v.L z.L h.I)])) (.leaf [.i 0, .i 2])
  | _ => .fail
def sameG (w x : List (List D)) (i : Nat) : Bool := ix (w.getD i []) 0 == ix (x.getD i []) 0 && (ix (w.getD i []) 1 == ix (x.getD i []) 1 && ix (w.getD i []) 2 == ix (x.getD i []) 2)
def G7_10 (ds : List D) : T (Ex × List D) := match ds with
  | [j, i] => .need (yes (j.I = 0 ∧ i.I = 0)) (.leaf (.exit 0, []))
  | [j, m, m', i, w, x] => .need (yes (j.I = 3 ∧ m.I = w.L.length ∧ m'.I = x.L.length ∧ w.L.length = x.L.length ∧ w.L.length ≤ 1000000000 ∧ 0 ≤ i.I ∧ i.I ≤ w.L.length)) (.ite (allFrom (sameG w.L x.L) i.I.toNat (w.L.length - i.I.toNat)) (.leaf (.exit 0, [])) (.leaf (.ret, [.b false])))
  | _ => .fail
end
end Go.Proofs.Ytgmefblkmidglaa

namespace Go.Proofs.Ytgmefblkmidglaa
open Go.Lite
noncomputable def sp54 : SpL := [(22, mkF s22 G22)]
noncomputable def lp54 : LpL := []
noncomputable def sw54 : SwL := []
noncomputable def tab54 : Tab := mkTab sp54 lp54 sw54
noncomputable def sp30 : SpL := [(54, mkF s54 G54)]
noncomputable def lp30 : LpL := [(3, mkL l30_3 G30_3), (7, mkL l30_7 G30_7), (11, mkL l30_11 G30_11)]
noncomputable def sw30 : SwL := []
noncomputable def tab30 : Tab := mkTab sp30 lp30 sw30
noncomputable def sp96 : SpL := [(97, mkF s97 G97), (46, mkF s46 G46)]
noncomputable def lp96 (q : Nat) : LpL := [(1, mkLY 4 l96_1 (G96_1 q)), (6, mkLY 4 l96_6 (G96_6 q))]
noncomputable def sw96 : SwL := []
noncomputable def tab96 (q : Nat) : Tab := mkTabY sp96 (lp96 q) sw96 y96 q
noncomputable def sp81 : SpL := []
noncomputable def lp81 : LpL := []
noncomputable def sw81 : SwL := []
noncomputable def tab81 : Tab := mkTab sp81 lp81 sw81
noncomputable def it53_10 : ItL := [(96, mkFY s96 G96)]
noncomputable def sp53 : SpL := []
noncomputable def lp53 : LpL := [(3, mkL l53_3 G53_3)]
noncomputable def sw53 : SwL := [(81, mkFW s81 G81)]
noncomputable def rg53 : LpL := [(10, rangeS 0 [1, 3, 4, 8, 9, 10, 12, 14, 15, 16, 25] (rangeOf C.P 53 10).1 it53_10 h53_10 G53_10)]
noncomputable def tab53 : Tab := mkTabR sp53 lp53 sw53 rg53
noncomputable def sp27 : SpL := [(52, mkF s52 G52), (53, mkF s53 G53)]
noncomputable def lp27 : LpL := []
noncomputable def sw27 : SwL := []
noncomputable def tab27 : Tab := mkTab sp27 lp27 sw27
noncomputable def sp7 : SpL := [(15, mkF s15 G15), (26, mkF s26 G26), (27, mkF s27 G27), (19, mkF s19 G19), (28, mkF s28 G28), (29, mkF s29 G29), (30, mkF s30 G30)]
noncomputable def lp7 : LpL := [(10, mkL l7_10 G7_10)]
noncomputable def sw7 : SwL := []
noncomputable def tab7 : Tab := mkTab sp7 lp7 sw7
end Go.Proofs.Ytgmefblkmidglaa

namespace Go.Proofs.Ytgmefblkmidglaa
open Go.Lite
set_option linter.unusedVariables false
set_option maxRecDepth 100000
theorem t54 (a b c d e f g h i j : D) : fnT C tab54 54 s54 [a, b, c, d, e, f, g, h, i, j] =
  T.ite (decide (D.I j < D.I e)) (T.leaf [D.b false]) (T.ite (decide (D.I j ≥ D.I f)) (T.leaf [D.b false]) (T.ite (IntKind.wrap IntKind.i64 (↑(BitVec.toNat (BitVec.ofInt (IntKind.bits IntKind.i64) (D.I d) &&& BitVec.ofInt (IntKind.bits IntKind.i64) (D.I h))) : Int) != D.I h) (T.leaf [D.b false]) (T.need (yes (netB (D.I a) (D.L b) = true ∧ ((0 : Int) ≤ D.I c ∧ D.I c < D.I a) ∧ (0 : Int) ≤ D.I j ∧ D.I j ≤ (1099511627776 : Int))) (T.need (decide ((0 : Int) ≤ D.I g ∧ D.I g < (↑(Int.toNat (D.I a)) : Int))) (T.need (decide (Int.toNat (D.I g) < List.length (reachF (D.L b) (Int.toNat (D.I a)) (beginF (D.I a) (D.I c) (D.I j))))) (T.ite (decide (D.I (List.getD (List.getD (reachF (D.L b) (Int.toNat (D.I a)) (beginF (D.I a) (D.I c) (D.I j))) (Int.toNat (D.I g)) []) 0 default) ≥ (0 : Int))) (T.leaf [D.b (decide (D.I (List.getD (List.getD (reachF (D.L b) (Int.toNat (D.I a)) (beginF (D.I a) (D.I c) (D.I j))) (Int.toNat (D.I g)) []) 0 default) ≤ IntKind.wrap IntKind.i64 (D.I j + D.I i)))]) (T.leaf [D.b false]))))))) := by kernel_rfl
theorem t30 (a b c d e : D) : fnT C tab30 30 s30 [a, b, c, d, e] =
  T.need (yes ((↑0 : Int) = (0 : Int) ∧ okG (D.I a) (D.L b) (D.L c) (D.L d) (D.I e) ∧ (0 : Int) ≤ (0 : Int) ∧ (0 : Int) ≤ (↑(List.length (D.L d)) : Int))) (T.ite (List.isEmpty (refZ (D.I a) (D.L b) (D.L c) (D.L d) (D.I e) (Int.toNat (0 : Int)) (List.length (D.L d) - Int.toNat (0 : Int)) [])) (T.leaf [D.i (0 : Int)]) (T.leaf [D.i (1 : Int), D.i (↑(Int.toNat (↑(List.length (refZ (D.I a) (D.L b) (D.L c) (D.L d) (D.I e) (Int.toNat (0 : Int)) (List.length (D.L d) - Int.toNat (0 : Int)) [])) : Int)) : Int), D.l (refZ (D.I a) (D.L b) (D.L c) (D.L d) (D.I e) (Int.toNat (0 : Int)) (List.length (D.L d) - Int.toNat (0 : Int)) [])])) := by kernel_rfl
theorem t30_3_0 (a b c d e f : D) : roundT C tab30 30 (loopOf C.P 30 3) l30_3 [.i 0, a, b, c, d, e, f] =
  T.ite (decide (D.I d < (↑(List.length (D.L b)) : Int))) (T.need (yes ((↑0 : Int) = (0 : Int) ∧ okG (D.I e) (D.L f) (D.L a) (D.L b) (D.I c) ∧ ((0 : Int) ≤ D.I d ∧ D.I d < (↑(List.length (D.L b)) : Int)) ∧ ((0 : Int) ≤ (0 : Int) ∧ (0 : Int) ≤ D.I c) ∧ false = false)) (T.ite (List.isEmpty (refT (secsF (D.I e) (D.L f) (D.L a) (List.getD (D.L b) (Int.toNat (D.I d)) [])) (D.I d) (Int.toNat (D.I c) - Int.toNat (0 : Int)) (0 : Int) ([], false)).fst) (T.leaf (Rd.again [D.i (0 : Int), D.l (D.L a), D.l (D.L b), D.i (D.I c), D.i (IntKind.wrap IntKind.i64 (D.I d + (1 : Int))), D.i (D.I e), D.l (D.L f)])) (T.leaf (Rd.again [D.i (1 : Int), D.l (D.L a), D.l (D.L b), D.i (D.I c), D.i (↑(Int.toNat (↑(List.length (refT (secsF (D.I e) (D.L f) (D.L a) (List.getD (D.L b) (Int.toNat (D.I d)) [])) (D.I d) (Int.toNat (D.I c) - Int.toNat (0 : Int)) (0 : Int) ([], false)).fst) : Int)) : Int), D.i (IntKind.wrap IntKind.i64 (D.I d + (1 : Int))), D.i (D.I e), D.l (D.L f), D.l (refT (secsF (D.I e) (D.L f) (D.L a) (List.getD (D.L b) (Int.toNat (D.I d)) [])) (D.I d) (Int.toNat (D.I c) - Int.toNat (0 : Int)) (0 : Int) ([], false)).fst])))) (T.leaf (Rd.out (Ex.exit 0) [D.i (0 : Int)])) := by kernel_rfl
theorem t30_3_1 (a b c d e f g h : D) : roundT C tab30 30 (loopOf C.P 30 3) l30_3 [.i 1, a, b, c, d, e, f, g, h] =
  T.ite (decide (D.I e < (↑(List.length (D.L b)) : Int))) (T.need (yes ((↑(0 + 1) : Int) = (1 : Int) ∧ okG (D.I f) (D.L g) (D.L a) (D.L b) (D.I c) ∧ ((0 : Int) ≤ D.I e ∧ D.I e < (↑(List.length (D.L b)) : Int)) ∧ ((0 : Int) ≤ (0 : Int) ∧ (0 : Int) ≤ D.I c) ∧ (↑(Int.toNat (D.I d)) : Int) = (↑(List.length (D.L h)) : Int) ∧ 0 < List.length (D.L h) ∧ (↑(Int.toNat (D.I d)) : Int) ≤ (100000 : Int) * D.I e + (0 : Int))) (T.leaf (Rd.again [D.i (1 : Int), D.l (D.L a), D.l (D.L b), D.i (D.I c), D.i (↑(Int.toNat (↑(List.length (refT (secsF (D.I f) (D.L g) (D.L a) (List.getD (D.L b) (Int.toNat (D.I e)) [])) (D.I e) (Int.toNat (D.I c) - Int.toNat (0 : Int)) (0 : Int) (D.L h, false)).fst) : Int)) : Int), D.i (IntKind.wrap IntKind.i64 (D.I e + (1 : Int))), D.i (D.I f), D.l (D.L g), D.l (refT (secsF (D.I f) (D.L g) (D.L a) (List.getD (D.L b) (Int.toNat (D.I e)) [])) (D.I e) (Int.toNat (D.I c) - Int.toNat (0 : Int)) (0 : Int) (D.L h, false)).fst]))) (T.leaf (Rd.out (Ex.exit 0) [D.i (1 : Int), D.i (↑(Int.toNat (D.I d)) : Int), D.l (D.L h)])) := by kernel_rfl
theorem t30_7_0 (a b c d e f g h : D) : roundT C tab30 30 (loopOf C.P 30 7) l30_7 [.i 0, a, b, c, d, e, f, g, h] =
  T.ite (decide (D.I f < D.I c)) (T.need (yes ((↑0 : Int) = (0 : Int) ∧ okG (D.I g) (D.L h) (D.L a) (D.L b) (D.I c) ∧ ((0 : Int) ≤ D.I d ∧ D.I d < (↑(List.length (D.L b)) : Int)) ∧ ((0 : Int) ≤ D.I f ∧ D.I f ≤ D.I c) ∧ (0 : Int) ≤ (0 : Int) ∧ (0 : Int) ≤ (↑(List.length (D.L a)) : Int))) (T.ite (false || anyC (D.I g) (D.L h) (D.L a) (List.getD (D.L b) (Int.toNat (D.I d)) []) (D.I f) (Int.toNat (0 : Int)) (List.length (D.L a) - Int.toNat (0 : Int))) (T.leaf (Rd.again [D.i (0 : Int), D.l (D.L a), D.l (D.L b), D.i (D.I c), D.i (D.I d), D.b false, D.i (IntKind.wrap IntKind.i64 (D.I f + (1 : Int))), D.i (D.I g), D.l (D.L h)])) (T.ite (!D.B e) (T.need true (T.ite false T.fail (T.need true (T.need true (T.need true (T.leaf (Rd.again [D.i (1 : Int), D.l (D.L a), D.l (D.L b), D.i (D.I c), D.i (1 : Int), D.i (D.I d), D.b true, D.i (IntKind.wrap IntKind.i64 (D.I f + (1 : Int))), D.i (D.I g), D.l (D.L h), D.l [[D.i (D.I d), D.i (D.I f), D.i (IntKind.wrap IntKind.i64 (D.I f + (1 : Int)))]]]))))))) T.fail))) (T.leaf (Rd.out (Ex.exit 2) [D.i (0 : Int), D.l (D.L a), D.l (D.L b), D.i (D.I c), D.i (D.I d), D.i (D.I g), D.l (D.L h)])) := by kernel_rfl
theorem t30_7_1 (a b c d e f g h i j : D) : roundT C tab30 30 (loopOf C.P 30 7) l30_7 [.i 1, a, b, c, d, e, f, g, h, i, j] =
  T.ite (decide (D.I g < D.I c)) (T.need (yes ((↑(0 + 1) : Int) = (1 : Int) ∧ okG (D.I h) (D.L i) (D.L a) (D.L b) (D.I c) ∧ ((0 : Int) ≤ D.I e ∧ D.I e < (↑(List.length (D.L b)) : Int)) ∧ ((0 : Int) ≤ D.I g ∧ D.I g ≤ D.I c) ∧ ((0 : Int) ≤ (0 : Int) ∧ (0 : Int) ≤ (↑(List.length (D.L a)) : Int)) ∧ (↑(Int.toNat (D.I d)) : Int) = (↑(List.length (D.L j)) : Int))) (T.ite (false || anyC (D.I h) (D.L i) (D.L a) (List.getD (D.L b) (Int.toNat (D.I e)) []) (D.I g) (Int.toNat (0 : Int)) (List.length (D.L a) - Int.toNat (0 : Int))) (T.leaf (Rd.again [D.i (1 : Int), D.l (D.L a), D.l (D.L b), D.i (D.I c), D.i (↑(Int.toNat (↑(List.length (D.L j)) : Int)) : Int), D.i (D.I e), D.b false, D.i (IntKind.wrap IntKind.i64 (D.I g + (1 : Int))), D.i (D.I h), D.l (D.L i), D.l (D.L j)])) (T.ite (!D.B f) (T.need true (T.ite false (T.need (decide ((0 : Int) ≤ IntKind.wrap IntKind.i64 ((↑(Int.toNat (↑(List.length (D.L j)) : Int)) : Int) - (1 : Int)) ∧ IntKind.wrap IntKind.i64 ((↑(Int.toNat (↑(List.length (D.L j)) : Int)) : Int) - (1 : Int)) < (↑(Int.toNat (↑(List.length (D.L j)) : Int)) : Int))) (T.need (decide (Int.toNat (IntKind.wrap IntKind.i64 ((↑(Int.toNat (↑(List.length (D.L j)) : Int)) : Int) - (1 : Int))) < List.length (D.L j))) (T.leaf (Rd.again [D.i (1 : Int), D.l (D.L a), D.l (D.L b), D.i (D.I c), D.i (↑(Int.toNat (↑(List.length (D.L j)) : Int)) : Int), D.i (D.I e), D.b true, D.i (IntKind.wrap IntKind.i64 (D.I g + (1 : Int))), D.i (D.I h), D.l (D.L i), D.l (List.set (D.L j) (Int.toNat (IntKind.wrap IntKind.i64 ((↑(Int.toNat (↑(List.length (D.L j)) : Int)) : Int) - (1 : Int)))) (updC (List.getD (D.L j) (Int.toNat (IntKind.wrap IntKind.i64 ((↑(Int.toNat (↑(List.length (D.L j)) : Int)) : Int) - (1 : Int)))) []) [D.i (IntKind.wrap IntKind.i64 (D.I g + (1 : Int)))] (0 + 2) 0 (List.length [K.int IntKind.i64, K.int IntKind.i64, K.int IntKind.i64])))])))) (T.need (decide (Int.toNat (↑(List.length (D.L j)) : Int) ≤ List.length (D.L j) ∧ Int.toNat (↑(List.length (D.L j)) : Int) + List.length (List.take (List.length [[D.i (D.I e), D.i (D.I g), D.i (0 : Int)]]) [[D.i (D.I e), D.i (D.I g), D.i (0 : Int)]]) ≤ 2 ^ 62 ∧ (Int.toNat (↑(List.length (D.L j)) : Int) + List.length (List.take (List.length [[D.i (D.I e), D.i (D.I g), D.i (0 : Int)]]) [[D.i (D.I e), D.i (D.I g), D.i (0 : Int)]])) * Try.prog.types[57].bytes ≤ 2 ^ 47)) (T.need (decide ((0 : Int) ≤ IntKind.wrap IntKind.i64 ((↑(Int.toNat (↑(List.length (D.L j)) : Int) + List.length (List.take (List.length [[D.i (D.I e), D.i (D.I g), D.i (0 : Int)]]) [[D.i (D.I e), D.i (D.I g), D.i (0 : Int)]])) : Int) - (1 : Int)) ∧ IntKind.wrap IntKind.i64 ((↑(Int.toNat (↑(List.length (D.L j)) : Int) + List.length (List.take (List.length [[D.i (D.I e), D.i (D.I g), D.i (0 : Int)]]) [[D.i (D.I e), D.i (D.I g), D.i (0 : Int)]])) : Int) - (1 : Int)) < (↑(Int.toNat (↑(List.length (D.L j)) : Int) + List.length (List.take (List.length [[D.i (D.I e), D.i (D.I g), D.i (0 : Int)]]) [[D.i (D.I e), D.i (D.I g), D.i (0 : Int)]])) : Int))) (T.need (decide (Int.toNat (IntKind.wrap IntKind.i64 ((↑(Int.toNat (↑(List.length (D.L j)) : Int) + List.length (List.take (List.length [[D.i (D.I e), D.i (D.I g), D.i (0 : Int)]]) [[D.i (D.I e), D.i (D.I g), D.i (0 : Int)]])) : Int) - (1 : Int))) < List.length (List.take (Int.toNat (↑(List.length (D.L j)) : Int)) (D.L j) ++ List.take (List.length [[D.i (D.I e), D.i (D.I g), D.i (0 : Int)]]) [[D.i (D.I e), D.i (D.I g), D.i (0 : Int)]]))) (T.leaf (Rd.again [D.i (1 : Int), D.l (D.L a), D.l (D.L b), D.i (D.I c), D.i (↑(Int.toNat (↑(List.length (D.L j)) : Int) + List.length (List.take (List.length [[D.i (D.I e), D.i (D.I g), D.i (0 : Int)]]) [[D.i (D.I e), D.i (D.I g), D.i (0 : Int)]])) : Int), D.i (D.I e), D.b true, D.i (IntKind.wrap IntKind.i64 (D.I g + (1 : Int))), D.i (D.I h), D.l (D.L i), D.l (List.set (List.take (Int.toNat (↑(List.length (D.L j)) : Int)) (D.L j) ++ List.take (List.length [[D.i (D.I e), D.i (D.I g), D.i (0 : Int)]]) [[D.i (D.I e), D.i (D.I g), D.i (0 : Int)]]) (Int.toNat (IntKind.wrap IntKind.i64 ((↑(Int.toNat (↑(List.length (D.L j)) : Int) + List.length (List.take (List.length [[D.i (D.I e), D.i (D.I g), D.i (0 : Int)]]) [[D.i (D.I e), D.i (D.I g), D.i (0 : Int)]])) : Int) - (1 : Int)))) (updC (List.getD (List.take (Int.toNat (↑(List.length (D.L j)) : Int)) (D.L j) ++ List.take (List.length [[D.i (D.I e), D.i (D.I g), D.i (0 : Int)]]) [[D.i (D.I e), D.i (D.I g), D.i (0 : Int)]]) (Int.toNat (IntKind.wrap IntKind.i64 ((↑(Int.toNat (↑(List.length (D.L j)) : Int) + List.length (List.take (List.length [[D.i (D.I e), D.i (D.I g), D.i (0 : Int)]]) [[D.i (D.I e), D.i (D.I g), D.i (0 : Int)]])) : Int) - (1 : Int)))) []) [D.i (IntKind.wrap IntKind.i64 (D.I g + (1 : Int)))] (0 + 2) 0 (List.length ([K.int IntKind.i64] ++ ([K.int IntKind.i64] ++ ([K.int IntKind.i64] ++ []))))))]))))))) (T.need (decide ((0 : Int) ≤ IntKind.wrap IntKind.i64 ((↑(Int.toNat (↑(List.length (D.L j)) : Int)) : Int) - (1 : Int)) ∧ IntKind.wrap IntKind.i64 ((↑(Int.toNat (↑(List.length (D.L j)) : Int)) : Int) - (1 : Int)) < (↑(Int.toNat (↑(List.length (D.L j)) : Int)) : Int))) (T.need (decide (Int.toNat (IntKind.wrap IntKind.i64 ((↑(Int.toNat (↑(List.length (D.L j)) : Int)) : Int) - (1 : Int))) < List.length (D.L j))) (T.leaf (Rd.again [D.i (1 : Int), D.l (D.L a), D.l (D.L b), D.i (D.I c), D.i (↑(Int.toNat (↑(List.length (D.L j)) : Int)) : Int), D.i (D.I e), D.b (D.B f), D.i (IntKind.wrap IntKind.i64 (D.I g + (1 : Int))), D.i (D.I h), D.l (D.L i), D.l (List.set (D.L j) (Int.toNat (IntKind.wrap IntKind.i64 ((↑(Int.toNat (↑(List.length (D.L j)) : Int)) : Int) - (1 : Int)))) (updC (List.getD (D.L j) (Int.toNat (IntKind.wrap IntKind.i64 ((↑(Int.toNat (↑(List.length (D.L j)) : Int)) : Int) - (1 : Int)))) []) [D.i (IntKind.wrap IntKind.i64 (D.I g + (1 : Int)))] (0 + 2) 0 (List.length [K.int IntKind.i64, K.int IntKind.i64, K.int IntKind.i64])))]))))))) (T.leaf (Rd.out (Ex.exit 2) [D.i (1 : Int), D.l (D.L a), D.l (D.L b), D.i (D.I c), D.i (↑(Int.toNat (D.I d)) : Int), D.i (D.I e), D.i (D.I h), D.l (D.L i), D.l (D.L j)])) := by kernel_rfl
theorem t30_11_0 (a b c d e f g h i j : D) : roundT C tab30 30 (loopOf C.P 30 11) l30_11 [.i 0, a, b, c, d, e, f, g, h, i, j] =
  T.ite (decide (D.I h < (↑(List.length (D.L a)) : Int))) (T.ite (D.B g) (T.leaf (Rd.again [D.i (0 : Int), D.l (D.L a), D.l (D.L b), D.i (D.I c), D.i (D.I d), D.b (D.B e), D.i (D.I f), D.b true, D.i (IntKind.wrap IntKind.i64 (D.I h + (1 : Int))), D.i (D.I i), D.l (D.L j)])) (T.need (decide ((0 : Int) ≤ D.I h ∧ D.I h < (↑(List.length (D.L a)) : Int))) (T.need (decide ((0 : Int) ≤ D.I d ∧ D.I d < (↑(List.length (D.L b)) : Int))) (T.need (yes (netB (D.I i) (D.L j) = true ∧ vehB (D.I i) (mk4 (D.i (D.I (List.getD (List.getD (D.L a) (Int.toNat (D.I h)) []) 0 default))) (D.i (D.I (List.getD (List.getD (D.L a) (Int.toNat (D.I h)) []) (0 + 1) default))) (D.i (D.I (List.getD (List.getD (D.L a) (Int.toNat (D.I h)) []) (0 + 1 + 1) default))) (D.i (D.I (List.getD (List.getD (D.L a) (Int.toNat (D.I h)) []) (0 + 1 + 1 + 1) default)))) = true ∧ zonB (D.I i) (mk3 (D.i (D.I (List.getD (List.getD (D.L b) (Int.toNat (D.I d)) []) 0 default))) (D.i (D.I (List.getD (List.getD (D.L b) (Int.toNat (D.I d)) []) (0 + 1) default))) (D.i (D.I (List.getD (List.getD (D.L b) (Int.toNat (D.I d)) []) (0 + 1 + 1) default)))) = true ∧ (0 : Int) ≤ D.I f ∧ D.I f ≤ (100000 : Int))) (T.leaf (Rd.again [D.i (0 : Int), D.l (D.L a), D.l (D.L b), D.i (D.I c), D.i (D.I d), D.b (D.B e), D.i (D.I f), D.b (covB (D.I i) (D.L j) (mk4 (D.i (D.I (List.getD (List.getD (D.L a) (Int.toNat (D.I h)) []) 0 default))) (D.i (D.I (List.getD (List.getD (D.L a) (Int.toNat (D.I h)) []) (0 + 1) default))) (D.i (D.I (List.getD (List.getD (D.L a) (Int.toNat (D.I h)) []) (0 + 1 + 1) default))) (D.i (D.I (List.getD (List.getD (D.L a) (Int.toNat (D.I h)) []) (0 + 1 + 1 + 1) default)))) (mk3 (D.i (D.I (List.getD (List.getD (D.L b) (Int.toNat (D.I d)) []) 0 default))) (D.i (D.I (List.getD (List.getD (D.L b) (Int.toNat (D.I d)) []) (0 + 1) default))) (D.i (D.I (List.getD (List.getD (D.L b) (Int.toNat (D.I d)) []) (0 + 1 + 1) default)))) (D.I f)), D.i (IntKind.wrap IntKind.i64 (D.I h + (1 : Int))), D.i (D.I i), D.l (D.L j)])))))) (T.leaf (Rd.out (Ex.exit 4) [D.i (0 : Int), D.l (D.L a), D.l (D.L b), D.i (D.I c), D.i (D.I d), D.b (D.B e), D.i (D.I f), D.b (D.B g), D.i (D.I i), D.l (D.L j)])) := by kernel_rfl
theorem t30_11_1 (a b c d e f g h i j k l : D) : roundT C tab30 30 (loopOf C.P 30 11) l30_11 [.i 1, a, b, c, d, e, f, g, h, i, j, k, l] =
  T.ite (decide (D.I i < (↑(List.length (D.L a)) : Int))) (T.ite (D.B h) (T.leaf (Rd.again [D.i (1 : Int), D.l (D.L a), D.l (D.L b), D.i (D.I c), D.i (↑(Int.toNat (D.I d)) : Int), D.i (D.I e), D.b (D.B f), D.i (D.I g), D.b true, D.i (IntKind.wrap IntKind.i64 (D.I i + (1 : Int))), D.i (D.I j), D.l (D.L k), D.l (D.L l)])) (T.need (decide ((0 : Int) ≤ D.I i ∧ D.I i < (↑(List.length (D.L a)) : Int))) (T.need (decide ((0 : Int) ≤ D.I e ∧ D.I e < (↑(List.length (D.L b)) : Int))) (T.need (yes (netB (D.I j) (D.L k) = true ∧ vehB (D.I j) (mk4 (D.i (D.I (List.getD (List.getD (D.L a) (Int.toNat (D.I i)) []) 0 default))) (D.i (D.I (List.getD (List.getD (D.L a) (Int.toNat (D.I i)) []) (0 + 1) default))) (D.i (D.I (List.getD (List.getD (D.L a) (Int.toNat (D.I i)) []) (0 + 1 + 1) default))) (D.i (D.I (List.getD (List.getD (D.L a) (Int.toNat (D.I i)) []) (0 + 1 + 1 + 1) default)))) = true ∧ zonB (D.I j) (mk3 (D.i (D.I (List.getD (List.getD (D.L b) (Int.toNat (D.I e)) []) 0 default))) (D.i (D.I (List.getD (List.getD (D.L b) (Int.toNat (D.I e)) []) (0 + 1) default))) (D.i (D.I (List.getD (List.getD (D.L b) (Int.toNat (D.I e)) []) (0 + 1 + 1) default)))) = true ∧ (0 : Int) ≤ D.I g ∧ D.I g ≤ (100000 : Int))) (T.leaf (Rd.again [D.i (1 : Int), D.l (D.L a), D.l (D.L b), D.i (D.I c), D.i (↑(Int.toNat (D.I d)) : Int), D.i (D.I e), D.b (D.B f), D.i (D.I g), D.b (covB (D.I j) (D.L k) (mk4 (D.i (D.I (List.getD (List.getD (D.L a) (Int.toNat (D.I i)) []) 0 default))) (D.i (D.I (List.getD (List.getD (D.L a) (Int.toNat (D.I i)) []) (0 + 1) default))) (D.i (D.I (List.getD (List.getD (D.L a) (Int.toNat (D.I i)) []) (0 + 1 + 1) default))) (D.i (D.I (List.getD (List.getD (D.L a) (Int.toNat (D.I i)) []) (0 + 1 + 1 + 1) default)))) (mk3 (D.i (D.I (List.getD (List.getD (D.L b) (Int.toNat (D.I e)) []) 0 default))) (D.i (D.I (List.getD (List.getD (D.L b) (Int.toNat (D.I e)) []) (0 + 1) default))) (D.i (D.I (List.getD (List.getD (D.L b) (Int.toNat (D.I e)) []) (0 + 1 + 1) default)))) (D.I g)), D.i (IntKind.wrap IntKind.i64 (D.I i + (1 : Int))), D.i (D.I j), D.l (D.L k), D.l (D.L l)])))))) (T.leaf (Rd.out (Ex.exit 4) [D.i (1 : Int), D.l (D.L a), D.l (D.L b), D.i (D.I c), D.i (↑(Int.toNat (D.I d)) : Int), D.i (D.I e), D.b (D.B f), D.i (D.I g), D.b (D.B h), D.i (D.I j), D.l (D.L k), D.l (D.L l)])) := by kernel_rfl
theorem t96 (q : Nat) (a b c d e f g : D) : fnTY C (tab96 q) 96 s96 [a, b, c, d, e, f, g] =
  T.need (yes (okP (D.I b) (D.L c) (D.L g) (mk3 (D.i (D.I d)) (D.i (D.I e)) (D.i (D.I f))) (D.I a) ∧ (0 : Int) ≤ (0 : Int) ∧ (0 : Int) ≤ D.I a ∧ List.length ([] : List (List D)) ≤ q)) (T.ite (decide (q < List.length ([] : List (List D)) + List.length (pieceL (D.I b) (D.L c) (D.L g) (mk3 (D.i (D.I d)) (D.i (D.I e)) (D.i (D.I f))) (D.I a) (Int.toNat (D.I a - (0 : Int))) (0 : Int)))) (T.leaf ([] ++ List.take (q + 1 - List.length ([] : List (List D))) (pieceL (D.I b) (D.L c) (D.L g) (mk3 (D.i (D.I d)) (D.i (D.I e)) (D.i (D.I f))) (D.I a) (Int.toNat (D.I a - (0 : Int))) (0 : Int)))) (T.leaf ([] ++ pieceL (D.I b) (D.L c) (D.L g) (mk3 (D.i (D.I d)) (D.i (D.I e)) (D.i (D.I f))) (D.I a) (Int.toNat (D.I a - (0 : Int))) (0 : Int)))) := by kernel_rfl
theorem t96_1 (q : Nat) (a b c d e f g h i : D) : roundTY C (tab96 q) 96 (loopOf C.P 96 1) 4 l96_1 [a, b, c, d, e, f, g, h, i] =
  T.ite (decide (D.I b < D.I c)) (T.need (yes (netB (D.I d) (D.L e) = true ∧ ((0 : Int) ≤ D.I f ∧ D.I f < D.I d) ∧ (0 : Int) ≤ IntKind.wrap IntKind.i64 (D.I b + D.I h) ∧ IntKind.wrap IntKind.i64 (D.I b + D.I h) ≤ (1000000 : Int))) (T.need (yes (okP (D.I d) (D.L e) (D.L i) (mk3 (D.i (D.I f)) (D.i (D.I g)) (D.i (D.I h))) (D.I c) ∧ ((0 : Int) ≤ D.I b ∧ D.I b < D.I c) ∧ latF (D.I d) (D.L e) (D.I f) (IntKind.wrap IntKind.i64 (D.I b + D.I h)) = latF (D.I d) (D.L e) (D.I f) (D.I b + D.I h) ∧ (↑(Int.toNat (D.I d)) : Int) = D.I d ∧ D.L i = D.L i ∧ (↑(List.length (D.L i)) : Int) = (↑(List.length (D.L i)) : Int) ∧ ((0 : Int) ≤ (0 : Int) ∧ (0 : Int) ≤ (↑(List.length (D.L i)) : Int)) ∧ okPv (D.I b) (D.I c) (pvOf (D.b false) (D.i (D.I b)) (D.i (D.I c))))) (T.ite (!(runV (D.I d) (D.L e) (D.L i) (mk3 (D.i (D.I f)) (D.i (D.I g)) (D.i (D.I h))) (D.I b) (Int.toNat (0 : Int)) (List.length (D.L i) - Int.toNat (0 : Int)) (pvOf (D.b false) (D.i (D.I b)) (D.i (D.I c)))).c) (T.ite (!!List.length (D.L a) == (tab96 q).q) (T.leaf (Rd.out Ex.ret [D.l (D.L a ++ [[D.i (D.I b)] ++ ([D.i (if D.I c < if (runV (D.I d) (D.L e) (D.L i) (mk3 (D.i (D.I f)) (D.i (D.I g)) (D.i (D.I h))) (D.I b) (Int.toNat (0 : Int)) (List.length (D.L i) - Int.toNat (0 : Int)) (pvOf (D.b false) (D.i (D.I b)) (D.i (D.I c)))).nx > IntKind.wrap IntKind.i64 (D.I b + (1 : Int)) then (runV (D.I d) (D.L e) (D.L i) (mk3 (D.i (D.I f)) (D.i (D.I g)) (D.i (D.I h))) (D.I b) (Int.toNat (0 : Int)) (List.length (D.L i) - Int.toNat (0 : Int)) (pvOf (D.b false) (D.i (D.I b)) (D.i (D.I c)))).nx else IntKind.wrap IntKind.i64 (D.I b + (1 : Int)) then D.I c else if (runV (D.I d) (D.L e) (D.L i) (mk3 (D.i (D.I f)) (D.i (D.I g)) (D.i (D.I h))) (D.I b) (Int.toNat (0 : Int)) (List.length (D.L i) - Int.toNat (0 : Int)) (pvOf (D.b false) (D.i (D.I b)) (D.i (D.I c)))).nx > IntKind.wrap IntKind.i64 (D.I b + (1 : Int)) then (runV (D.I d) (D.L e) (D.L i) (mk3 (D.i (D.I f)) (D.i (D.I g)) (D.i (D.I h))) (D.I b) (Int.toNat (0 : Int)) (List.length (D.L i) - Int.toNat (0 : Int)) (pvOf (D.b false) (D.i (D.I b)) (D.i (D.I c)))).nx else IntKind.wrap IntKind.i64 (D.I b + (1 : Int)))] ++ ([D.b (runV (D.I d) (D.L e) (D.L i) (mk3 (D.i (D.I f)) (D.i (D.I g)) (D.i (D.I h))) (D.I b) (Int.toNat (0 : Int)) (List.length (D.L i) - Int.toNat (0 : Int)) (pvOf (D.b false) (D.i (D.I b)) (D.i (D.I c)))).c] ++ [])) ++ [] ++ []]), D.i (D.I c), D.i (D.I d), D.l (D.L e), D.i (D.I f), D.i (D.I g), D.i (D.I h), D.l (D.L i)])) (T.leaf (Rd.again [D.l (D.L a ++ [[D.i (D.I b)] ++ ([D.i (if D.I c < if (runV (D.I d) (D.L e) (D.L i) (mk3 (D.i (D.I f)) (D.i (D.I g)) (D.i (D.I h))) (D.I b) (Int.toNat (0 : Int)) (List.length (D.L i) - Int.toNat (0 : Int)) (pvOf (D.b false) (D.i (D.I b)) (D.i (D.I c)))).nx > IntKind.wrap IntKind.i64 (D.I b + (1 : Int)) then (runV (D.I d) (D.L e) (D.L i) (mk3 (D.i (D.I f)) (D.i (D.I g)) (D.i (D.I h))) (D.I b) (Int.toNat (0 : Int)) (List.length (D.L i) - Int.toNat (0 : Int)) (pvOf (D.b false) (D.i (D.I b)) (D.i (D.I c)))).nx else IntKind.wrap IntKind.i64 (D.I b + (1 : Int)) then D.I c else if (runV (D.I d) (D.L e) (D.L i) (mk3 (D.i (D.I f)) (D.i (D.I g)) (D.i (D.I h))) (D.I b) (Int.toNat (0 : Int)) (List.length (D.L i) - Int.toNat (0 : Int)) (pvOf (D.b false) (D.i (D.I b)) (D.i (D.I c)))).nx > IntKind.wrap IntKind.i64 (D.I b + (1 : Int)) then (runV (D.I d) (D.L e) (D.L i) (mk3 (D.i (D.I f)) (D.i (D.I g)) (D.i (D.I h))) (D.I b) (Int.toNat (0 : Int)) (List.length (D.L i) - Int.toNat (0 : Int)) (pvOf (D.b false) (D.i (D.I b)) (D.i (D.I c)))).nx else IntKind.wrap IntKind.i64 (D.I b + (1 : Int)))] ++ ([D.b (runV (D.I d) (D.L e) (D.L i) (mk3 (D.i (D.I f)) (D.i (D.I g)) (D.i (D.I h))) (D.I b) (Int.toNat (0 : Int)) (List.length (D.L i) - Int.toNat (0 : Int)) (pvOf (D.b false) (D.i (D.I b)) (D.i (D.I c)))).c] ++ [])) ++ [] ++ []]), D.i (if D.I c < if (runV (D.I d) (D.L e) (D.L i) (mk3 (D.i (D.I f)) (D.i (D.I g)) (D.i (D.I h))) (D.I b) (Int.toNat (0 : Int)) (List.length (D.L i) - Int.toNat (0 : Int)) (pvOf (D.b false) (D.i (D.I b)) (D.i (D.I c)))).nx > IntKind.wrap IntKind.i64 (D.I b + (1 : Int)) then (runV (D.I d) (D.L e) (D.L i) (mk3 (D.i (D.I f)) (D.i (D.I g)) (D.i (D.I h))) (D.I b) (Int.toNat (0 : Int)) (List.length (D.L i) - Int.toNat (0 : Int)) (pvOf (D.b false) (D.i (D.I b)) (D.i (D.I c)))).nx else IntKind.wrap IntKind.i64 (D.I b + (1 : Int)) then D.I c else if (runV (D.I d) (D.L e) (D.L i) (mk3 (D.i (D.I f)) (D.i (D.I g)) (D.i (D.I h))) (D.I b) (Int.toNat (0 : Int)) (List.length (D.L i) - Int.toNat (0 : Int)) (pvOf (D.b false) (D.i (D.I b)) (D.i (D.I c)))).nx > IntKind.wrap IntKind.i64 (D.I b + (1 : Int)) then (runV (D.I d) (D.L e) (D.L i) (mk3 (D.i (D.I f)) (D.i (D.I g)) (D.i (D.I h))) (D.I b) (Int.toNat (0 : Int)) (List.length (D.L i) - Int.toNat (0 : Int)) (pvOf (D.b false) (D.i (D.I b)) (D.i (D.I c)))).nx else IntKind.wrap IntKind.i64 (D.I b + (1 : Int))), D.i (D.I c), D.i (D.I d), D.l (D.L e), D.i (D.I f), D.i (D.I g), D.i (D.I h), D.l (D.L i)]))) (T.ite (!!List.length (D.L a) == (tab96 q).q) (T.leaf (Rd.out Ex.ret [D.l (D.L a ++ [[D.i (D.I b)] ++ ([D.i (if D.I c < (runV (D.I d) (D.L e) (D.L i) (mk3 (D.i (D.I f)) (D.i (D.I g)) (D.i (D.I h))) (D.I b) (Int.toNat (0 : Int)) (List.length (D.L i) - Int.toNat (0 : Int)) (pvOf (D.b false) (D.i (D.I b)) (D.i (D.I c)))).to then D.I c else (runV (D.I d) (D.L e) (D.L i) (mk3 (D.i (D.I f)) (D.i (D.I g)) (D.i (D.I h))) (D.I b) (Int.toNat (0 : Int)) (List.length (D.L i) - Int.toNat (0 : Int)) (pvOf (D.b false) (D.i (D.I b)) (D.i (D.I c)))).to)] ++ ([D.b (runV (D.I d) (D.L e) (D.L i) (mk3 (D.i (D.I f)) (D.i (D.I g)) (D.i (D.I h))) (D.I b) (Int.toNat (0 : Int)) (List.length (D.L i) - Int.toNat (0 : Int)) (pvOf (D.b false) (D.i (D.I b)) (D.i (D.I c)))).c] ++ [])) ++ [] ++ []]), D.i (D.I c), D.i (D.I d), D.l (D.L e), D.i (D.I f), D.i (D.I g), D.i (D.I h), D.l (D.L i)])) (T.leaf (Rd.again [D.l (D.L a ++ [[D.i (D.I b)] ++ ([D.i (if D.I c < (runV (D.I d) (D.L e) (D.L i) (mk3 (D.i (D.I f)) (D.i (D.I g)) (D.i (D.I h))) (D.I b) (Int.toNat (0 : Int)) (List.length (D.L i) - Int.toNat (0 : Int)) (pvOf (D.b false) (D.i (D.I b)) (D.i (D.I c)))).to then D.I c else (runV (D.I d) (D.L e) (D.L i) (mk3 (D.i (D.I f)) (D.i (D.I g)) (D.i (D.I h))) (D.I b) (Int.toNat (0 : Int)) (List.length (D.L i) - Int.toNat (0 : Int)) (pvOf (D.b false) (D.i (D.I b)) (D.i (D.I c)))).to)] ++ ([D.b (runV (D.I d) (D.L e) (D.L i) (mk3 (D.i (D.I f)) (D.i (D.I g)) (D.i (D.I h))) (D.I b) (Int.toNat (0 : Int)) (List.length (D.L i) - Int.toNat (0 : Int)) (pvOf (D.b false) (D.i (D.I b)) (D.i (D.I c)))).c] ++ [])) ++ [] ++ []]), D.i (if D.I c < (runV (D.I d) (D.L e) (D.L i) (mk3 (D.i (D.I f)) (D.i (D.I g)) (D.i (D.I h))) (D.I b) (Int.toNat (0 : Int)) (List.length (D.L i) - Int.toNat (0 : Int)) (pvOf (D.b false) (D.i (D.I b)) (D.i (D.I c)))).to then D.I c else (runV (D.I d) (D.L e) (D.L i) (mk3 (D.i (D.I f)) (D.i (D.I g)) (D.i (D.I h))) (D.I b) (Int.toNat (0 : Int)) (List.length (D.L i) - Int.toNat (0 : Int)) (pvOf (D.b false) (D.i (D.I b)) (D.i (D.I c)))).to), D.i (D.I c), D.i (D.I d), D.l (D.L e), D.i (D.I f), D.i (D.I g), D.i (D.I h), D.l (D.L i)])))))) (T.leaf (Rd.out (Ex.exit 0) [D.l (D.L a), D.i (D.I c), D.i (D.I d), D.l (D.L e), D.i (D.I f), D.i (D.I g), D.i (D.I h), D.l (D.L i)])) := by kernel_rfl
theorem t96_6 (q : Nat) (a b c d e f g h i j k l m n o p q1 r : D) : roundTY C (tab96 q) 96 (loopOf C.P 96 6) 4 l96_6 [a, b, c, d, e, f, g, h, i, j, k, l, m, n, o, p, q1, r] =
  T.ite (decide (D.I g < D.I f)) (T.need (decide ((0 : Int) ≤ D.I g ∧ D.I g < (↑(List.length (D.L e)) : Int))) (T.ite (IntKind.wrap IntKind.i64 (↑(BitVec.toNat (BitVec.ofInt (IntKind.bits IntKind.i64) (D.I (List.getD (List.getD (D.L e) (Int.toNat (D.I g)) []) (0 + 1) default)) &&& BitVec.ofInt (IntKind.bits IntKind.i64) (D.I l))) : Int) != D.I l) (T.leaf (Rd.again [D.l (D.L a), D.i (D.I b), D.i (↑(Int.toNat (D.I c)) : Int), D.i (D.I d), D.l (D.L e), D.i (D.I f), D.i (IntKind.wrap IntKind.i64 (D.I g + (1 : Int))), D.i (D.I h), D.i (D.I i), D.l (D.L j), D.i (D.I k), D.i (D.I l), D.i (D.I m), D.l (D.L n), D.l (D.L o), D.i (D.I p), D.i (D.I q1), D.b (D.B r)])) (T.ite (decide (D.I b ≥ D.I (List.getD (List.getD (D.L e) (Int.toNat (D.I g)) []) (0 + 1 + 1 + 1) default))) (T.leaf (Rd.again [D.l (D.L a), D.i (D.I b), D.i (↑(Int.toNat (D.I c)) : Int), D.i (D.I d), D.l (D.L e), D.i (D.I f), D.i (IntKind.wrap IntKind.i64 (D.I g + (1 : Int))), D.i (D.I h), D.i (D.I i), D.l (D.L j), D.i (D.I k), D.i (D.I l), D.i (D.I m), D.l (D.L n), D.l (D.L o), D.i (D.I p), D.i (D.I q1), D.b (D.B r)])) (T.ite (decide (D.I b < D.I (List.getD (List.getD (D.L e) (Int.toNat (D.I g)) []) (0 + 1 + 1) default))) (T.leaf (Rd.again [D.l (D.L a), D.i (D.I b), D.i (↑(Int.toNat (D.I c)) : Int), D.i (if D.I (List.getD (List.getD (D.L e) (Int.toNat (D.I g)) []) (0 + 1 + 1) default) < D.I d then D.I (List.getD (List.getD (D.L e) (Int.toNat (D.I g)) []) (0 + 1 + 1) default) else D.I d), D.l (D.L e), D.i (D.I f), D.i (IntKind.wrap IntKind.i64 (D.I g + (1 : Int))), D.i (D.I h), D.i (D.I i), D.l (D.L j), D.i (D.I k), D.i (D.I l), D.i (D.I m), D.l (D.L n), D.l (D.L o), D.i (D.I p), D.i (D.I q1), D.b (D.B r)])) (T.need (decide ((0 : Int) ≤ D.I (List.getD (List.getD (D.L e) (Int.toNat (D.I g)) []) 0 default) ∧ D.I (List.getD (List.getD (D.L e) (Int.toNat (D.I g)) []) 0 default) < (↑(Int.toNat (D.I c)) : Int))) (T.need (decide (Int.toNat (D.I (List.getD (List.getD (D.L e) (Int.toNat (D.I g)) []) 0 default)) < List.length (D.L o))) (T.ite (decide (D.I (List.getD (List.getD (D.L o) (Int.toNat (D.I (List.getD (List.getD (D.L e) (Int.toNat (D.I g)) []) 0 default))) []) 0 default) ≥ D.I b)) (T.need (decide ((0 : Int) ≤ D.I (List.getD (List.getD (D.L e) (Int.toNat (D.I g)) []) 0 default) ∧ D.I (List.getD (List.getD (D.L e) (Int.toNat (D.I g)) []) 0 default) < (↑(Int.toNat (D.I c)) : Int))) (T.need (decide (Int.toNat (D.I (List.getD (List.getD (D.L e) (Int.toNat (D.I g)) []) 0 default)) < List.length (D.L o))) (T.leaf (Rd.again [D.l (D.L a), D.i (D.I b), D.i (↑(Int.toNat (D.I c)) : Int), D.i (D.I d), D.l (D.L e), D.i (D.I f), D.i (IntKind.wrap IntKind.i64 (D.I g + (1 : Int))), D.i (D.I h), D.i (D.I i), D.l (D.L j), D.i (D.I k), D.i (D.I l), D.i (D.I m), D.l (D.L n), D.l (D.L o), D.i (D.I p), D.i (if (if D.I (List.getD (List.getD (D.L e) (Int.toNat (D.I g)) []) (0 + 1 + 1 + 1) default) < IntKind.wrap IntKind.i64 (D.I (List.getD (List.getD (D.L o) (Int.toNat (D.I (List.getD (List.getD (D.L e) (Int.toNat (D.I g)) []) 0 default))) []) 0 default) + (1 : Int)) then D.I (List.getD (List.getD (D.L e) (Int.toNat (D.I g)) []) (0 + 1 + 1 + 1) default) else IntKind.wrap IntKind.i64 (D.I (List.getD (List.getD (D.L o) (Int.toNat (D.I (List.getD (List.getD (D.L e) (Int.toNat (D.I g)) []) 0 default))) []) 0 default) + (1 : Int))) > D.I q1 then if D.I (List.getD (List.getD (D.L e) (Int.toNat (D.I g)) []) (0 + 1 + 1 + 1) default) < IntKind.wrap IntKind.i64 (D.I (List.getD (List.getD (D.L o) (Int.toNat (D.I (List.getD (List.getD (D.L e) (Int.toNat (D.I g)) []) 0 default))) []) 0 default) + (1 : Int)) then D.I (List.getD (List.getD (D.L e) (Int.toNat (D.I g)) []) (0 + 1 + 1 + 1) default) else IntKind.wrap IntKind.i64 (D.I (List.getD (List.getD (D.L o) (Int.toNat (D.I (List.getD (List.getD (D.L e) (Int.toNat (D.I g)) []) 0 default))) []) 0 default) + (1 : Int)) else D.I q1), D.b true])))) (T.need (yes ((0 : Int) ≤ D.I i ∧ D.I i < (1099511627776 : Int) ∧ (0 : Int) ≤ D.I (List.getD (List.getD (D.L e) (Int.toNat (D.I g)) []) 0 default) ∧ D.I (List.getD (List.getD (D.L e) (Int.toNat (D.I g)) []) 0 default) < D.I i ∧ haltS (Int.toNat (D.I i)) (D.L j) (startS (D.I i) (D.I (List.getD (List.getD (D.L e) (Int.toNat (D.I g)) []) 0 default)) (D.I b)))) (T.need (decide ((0 : Int) ≤ D.I k ∧ D.I k < (↑(Int.toNat (D.I i)) : Int))) (T.need (decide (Int.toNat (D.I k) < List.length (arrF (D.I i) (D.L j) (D.I (List.getD (List.getD (D.L e) (Int.toNat (D.I g)) []) 0 default)) (D.I b)))) (T.ite (decide (D.I (List.getD (List.getD (arrF (D.I i) (D.L j) (D.I (List.getD (List.getD (D.L e) (Int.toNat (D.I g)) []) 0 default)) (D.I b)) (Int.toNat (D.I k)) []) 0 default) ≥ (0 : Int))) (T.leaf (Rd.again [D.l (D.L a), D.i (D.I b), D.i (↑(Int.toNat (D.I c)) : Int), D.i (if (if IntKind.wrap IntKind.i64 (D.I (List.getD (List.getD (arrF (D.I i) (D.L j) (D.I (List.getD (List.getD (D.L e) (Int.toNat (D.I g)) []) 0 default)) (D.I b)) (Int.toNat (D.I k)) []) 0 default) - D.I m) > IntKind.wrap IntKind.i64 (D.I b + (1 : Int)) then IntKind.wrap IntKind.i64 (D.I (List.getD (List.getD (arrF (D.I i) (D.L j) (D.I (List.getD (List.getD (D.L e) (Int.toNat (D.I g)) []) 0 default)) (D.I b)) (Int.toNat (D.I k)) []) 0 default) - D.I m) else IntKind.wrap IntKind.i64 (D.I b + (1 : Int))) < D.I d then if IntKind.wrap IntKind.i64 (D.I (List.getD (List.getD (arrF (D.I i) (D.L j) (D.I (List.getD (List.getD (D.L e) (Int.toNat (D.I g)) []) 0 default)) (D.I b)) (Int.toNat (D.I k)) []) 0 default) - D.I m) > IntKind.wrap IntKind.i64 (D.I b + (1 : Int)) then IntKind.wrap IntKind.i64 (D.I (List.getD (List.getD (arrF (D.I i) (D.L j) (D.I (List.getD (List.getD (D.L e) (Int.toNat (D.I g)) []) 0 default)) (D.I b)) (Int.toNat (D.I k)) []) 0 default) - D.I m) else IntKind.wrap IntKind.i64 (D.I b + (1 : Int)) else D.I d), D.l (D.L e), D.i (D.I f), D.i (IntKind.wrap IntKind.i64 (D.I g + (1 : Int))), D.i (D.I h), D.i (D.I i), D.l (D.L j), D.i (D.I k), D.i (D.I l), D.i (D.I m), D.l (D.L n), D.l (D.L o), D.i (D.I p), D.i (D.I q1), D.b (D.B r)])) (T.leaf (Rd.again [D.l (D.L a), D.i (D.I b), D.i (↑(Int.toNat (D.I c)) : Int), D.i (D.I d), D.l (D.L e), D.i (D.I f), D.i (IntKind.wrap IntKind.i64 (D.I g + (1 : Int))), D.i (D.I h), D.i (D.I i), D.l (D.L j), D.i (D.I k), D.i (D.I l), D.i (D.I m), D.l (D.L n), D.l (D.L o), D.i (D.I p), D.i (D.I q1), D.b (D.B r)]))))))))))))) (T.leaf (Rd.out (Ex.exit 2) [D.l (D.L a), D.i (D.I b), D.i (D.I d), D.i (D.I h), D.i (D.I i), D.l (D.L j), D.i (D.I k), D.i (D.I l), D.i (D.I m), D.l (D.L n), D.i (D.I p), D.i (D.I q1), D.b (D.B r)])) := by kernel_rfl
theorem t81 (a b c d e f g : D) : fnTW C tab81 81 s81 [a, b, c, d, e, f, g] =
  T.leaf [D.i (D.I g), D.i (D.I a), D.l (D.L b), D.i (D.I d), D.i (D.I e), D.i (D.I f), D.l (D.L c)] := by kernel_rfl
theorem t53 (a b c d e : D) : fnT C tab53 53 s53 [a, b, c, d, e] =
  T.need (yes ((↑0 : Int) = (0 : Int) ∧ okG (D.I a) (D.L b) (D.L c) (D.L d) (D.I e) ∧ (↑(List.length (D.L d)) : Int) = (↑(List.length (D.L d)) : Int) ∧ (0 : Int) ≤ (0 : Int) ∧ (0 : Int) ≤ (↑(List.length (D.L d)) : Int))) (T.ite (List.isEmpty (gapsZ (D.I a) (D.L b) (D.L c) (D.L d) (D.I e) (Int.toNat (0 : Int)) (List.length (D.L d) - Int.toNat (0 : Int)) [])) (T.leaf [D.i (0 : Int)]) (T.leaf [D.i (1 : Int), D.i (↑(Int.toNat (↑(List.length (gapsZ (D.I a) (D.L b) (D.L c) (D.L d) (D.I e) (Int.toNat (0 : Int)) (List.length (D.L d) - Int.toNat (0 : Int)) [])) : Int)) : Int), D.l (gapsZ (D.I a) (D.L b) (D.L c) (D.L d) (D.I e) (Int.toNat (0 : Int)) (List.length (D.L d) - Int.toNat (0 : Int)) [])])) := by kernel_rfl
theorem t53_3_0 (a b c d e f g : D) : roundT C tab53 53 (loopOf C.P 53 3) l53_3 [.i 0, a, b, c, d, e, f, g] =
  T.ite (decide (D.I e < D.I d)) (T.need (decide ((0 : Int) ≤ D.I e ∧ D.I e < (↑(List.length (D.L c)) : Int))) (T.need (yes (okP (D.I f) (D.L g) (D.L a) (mk3 (D.i (D.I (List.getD (List.getD (D.L c) (Int.toNat (D.I e)) []) 0 default))) (D.i (D.I (List.getD (List.getD (D.L c) (Int.toNat (D.I e)) []) (0 + 1) default))) (D.i (D.I (List.getD (List.getD (D.L c) (Int.toNat (D.I e)) []) (0 + 1 + 1) default)))) (D.I b))) (T.need (yes ((↑0 : Int) = (0 : Int) ∧ false = false ∧ List.length (pieceL (D.I f) (D.L g) (D.L a) (mk3 (D.i (D.I (List.getD (List.getD (D.L c) (Int.toNat (D.I e)) []) 0 default))) (D.i (D.I (List.getD (List.getD (D.L c) (Int.toNat (D.I e)) []) (0 + 1) default))) (D.i (D.I (List.getD (List.getD (D.L c) (Int.toNat (D.I e)) []) (0 + 1 + 1) default)))) (D.I b) (Int.toNat (D.I b)) (0 : Int)) ≤ 1000000)) (T.ite (List.isEmpty (gapsF (D.I e) (pieceL (D.I f) (D.L g) (D.L a) (mk3 (D.i (D.I (List.getD (List.getD (D.L c) (Int.toNat (D.I e)) []) 0 default))) (D.i (D.I (List.getD (List.getD (D.L c) (Int.toNat (D.I e)) []) (0 + 1) default))) (D.i (D.I (List.getD (List.getD (D.L c) (Int.toNat (D.I e)) []) (0 + 1 + 1) default)))) (D.I b) (Int.toNat (D.I b)) (0 : Int)) ([], false)).fst) (T.leaf (Rd.again [D.i (0 : Int), D.l (D.L a), D.i (D.I b), D.l (D.L c), D.i (D.I d), D.i (IntKind.wrap IntKind.i64 (D.I e + (1 : Int))), D.i (D.I f), D.l (D.L g)])) (T.leaf (Rd.again [D.i (1 : Int), D.l (D.L a), D.i (D.I b), D.l (D.L c), D.i (D.I d), D.i (IntKind.wrap IntKind.i64 (D.I e + (1 : Int))), D.i (D.I f), D.l (D.L g), D.i (↑(Int.toNat (↑(List.length (gapsF (D.I e) (pieceL (D.I f) (D.L g) (D.L a) (mk3 (D.i (D.I (List.getD (List.getD (D.L c) (Int.toNat (D.I e)) []) 0 default))) (D.i (D.I (List.getD (List.getD (D.L c) (Int.toNat (D.I e)) []) (0 + 1) default))) (D.i (D.I (List.getD (List.getD (D.L c) (Int.toNat (D.I e)) []) (0 + 1 + 1) default)))) (D.I b) (Int.toNat (D.I b)) (0 : Int)) ([], false)).fst) : Int)) : Int), D.l (gapsF (D.I e) (pieceL (D.I f) (D.L g) (D.L a) (mk3 (D.i (D.I (List.getD (List.getD (D.L c) (Int.toNat (D.I e)) []) 0 default))) (D.i (D.I (List.getD (List.getD (D.L c) (Int.toNat (D.I e)) []) (0 + 1) default))) (D.i (D.I (List.getD (List.getD (D.L c) (Int.toNat (D.I e)) []) (0 + 1 + 1) default)))) (D.I b) (Int.toNat (D.I b)) (0 : Int)) ([], false)).fst])))))) (T.leaf (Rd.out (Ex.exit 0) [D.i (0 : Int)])) := by kernel_rfl
theorem t53_3_1 (a b c d e f g h i : D) : roundT C tab53 53 (loopOf C.P 53 3) l53_3 [.i 1, a, b, c, d, e, f, g, h, i] =
  T.ite (decide (D.I e < D.I d)) (T.need (decide ((0 : Int) ≤ D.I e ∧ D.I e < (↑(List.length (D.L c)) : Int))) (T.need (yes (okP (D.I f) (D.L g) (D.L a) (mk3 (D.i (D.I (List.getD (List.getD (D.L c) (Int.toNat (D.I e)) []) 0 default))) (D.i (D.I (List.getD (List.getD (D.L c) (Int.toNat (D.I e)) []) (0 + 1) default))) (D.i (D.I (List.getD (List.getD (D.L c) (Int.toNat (D.I e)) []) (0 + 1 + 1) default)))) (D.I b))) (T.need (yes ((↑(0 + 1) : Int) = (1 : Int) ∧ (↑(Int.toNat (D.I h)) : Int) = (↑(List.length (D.L i)) : Int) ∧ 0 < List.length (D.L i) ∧ List.length (pieceL (D.I f) (D.L g) (D.L a) (mk3 (D.i (D.I (List.getD (List.getD (D.L c) (Int.toNat (D.I e)) []) 0 default))) (D.i (D.I (List.getD (List.getD (D.L c) (Int.toNat (D.I e)) []) (0 + 1) default))) (D.i (D.I (List.getD (List.getD (D.L c) (Int.toNat (D.I e)) []) (0 + 1 + 1) default)))) (D.I b) (Int.toNat (D.I b)) (0 : Int)) ≤ 1000000 ∧ (↑(Int.toNat (D.I h)) : Int) + (↑(List.length (pieceL (D.I f) (D.L g) (D.L a) (mk3 (D.i (D.I (List.getD (List.getD (D.L c) (Int.toNat (D.I e)) []) 0 default))) (D.i (D.I (List.getD (List.getD (D.L c) (Int.toNat (D.I e)) []) (0 + 1) default))) (D.i (D.I (List.getD (List.getD (D.L c) (Int.toNat (D.I e)) []) (0 + 1 + 1) default)))) (D.I b) (Int.toNat (D.I b)) (0 : Int))) : Int) ≤ (1000000000 : Int))) (T.leaf (Rd.again [D.i (1 : Int), D.l (D.L a), D.i (D.I b), D.l (D.L c), D.i (D.I d), D.i (IntKind.wrap IntKind.i64 (D.I e + (1 : Int))), D.i (D.I f), D.l (D.L g), D.i (↑(Int.toNat (↑(List.length (gapsF (D.I e) (pieceL (D.I f) (D.L g) (D.L a) (mk3 (D.i (D.I (List.getD (List.getD (D.L c) (Int.toNat (D.I e)) []) 0 default))) (D.i (D.I (List.getD (List.getD (D.L c) (Int.toNat (D.I e)) []) (0 + 1) default))) (D.i (D.I (List.getD (List.getD (D.L c) (Int.toNat (D.I e)) []) (0 + 1 + 1) default)))) (D.I b) (Int.toNat (D.I b)) (0 : Int)) (D.L i, false)).fst) : Int)) : Int), D.l (gapsF (D.I e) (pieceL (D.I f) (D.L g) (D.L a) (mk3 (D.i (D.I (List.getD (List.getD (D.L c) (Int.toNat (D.I e)) []) 0 default))) (D.i (D.I (List.getD (List.getD (D.L c) (Int.toNat (D.I e)) []) (0 + 1) default))) (D.i (D.I (List.getD (List.getD (D.L c) (Int.toNat (D.I e)) []) (0 + 1 + 1) default)))) (D.I b) (Int.toNat (D.I b)) (0 : Int)) (D.L i, false)).fst]))))) (T.leaf (Rd.out (Ex.exit 0) [D.i (1 : Int), D.i (↑(Int.toNat (D.I h)) : Int), D.l (D.L i)])) := by kernel_rfl
theorem t53_r10_0 (a b c d e f g h i j k l : D) : roundRT C tab53 53 (rangeOf C.P 53 10) 0 4 [1, 3, 4, 8, 9, 10, 12, 14, 15, 16, 25] h53_10 y96 [.i 0, a, b, c, d, e, f, g, h, i] [j, k, l] =
  T.ite (D.B l) (T.leaf (Rd.again [D.i (0 : Int), D.l (D.L a), D.i (D.I b), D.l (D.L c), D.i (D.I d), D.i (D.I e), D.i (D.I f), D.l (D.L g), D.i (D.I h), D.b false], [])) (T.ite (D.B i) T.fail (T.need true (T.ite false (T.leaf (Rd.again [D.i (0 : Int), D.l (D.L a), D.i (D.I b), D.l (D.L c), D.i (D.I d), D.i (D.I e), D.i (D.I f), D.l (D.L g), D.i (D.I h), D.b true], [])) (T.need true (T.leaf (Rd.again [D.i (1 : Int), D.l (D.L a), D.i (D.I b), D.l (D.L c), D.i (D.I d), D.i (D.I e), D.i (D.I f), D.l (D.L g), D.i (1 : Int), D.i (D.I h), D.b true, D.l [[D.i (D.I h), D.i (D.I j), D.i (D.I k)]]], [])))))) := by kernel_rfl
theorem t53_r10_1 (a b c d e f g h i j k l m n : D) : roundRT C tab53 53 (rangeOf C.P 53 10) 0 5 [1, 3, 4, 8, 9, 10, 12, 14, 15, 16, 25] h53_10 y96 [.i 1, a, b, c, d, e, f, g, h, i, j, k] [l, m, n] =
  T.ite (D.B n) (T.leaf (Rd.again [D.i (1 : Int), D.l (D.L a), D.i (D.I b), D.l (D.L c), D.i (D.I d), D.i (D.I e), D.i (D.I f), D.l (D.L g), D.i (↑(Int.toNat (D.I h)) : Int), D.i (D.I i), D.b false, D.l (D.L k)], [])) (T.ite (D.B j) (T.need (decide ((0 : Int) ≤ IntKind.wrap IntKind.i64 ((↑(Int.toNat (D.I h)) : Int) - (1 : Int)) ∧ IntKind.wrap IntKind.i64 ((↑(Int.toNat (D.I h)) : Int) - (1 : Int)) < (↑(Int.toNat (D.I h)) : Int))) (T.need (decide (Int.toNat (IntKind.wrap IntKind.i64 ((↑(Int.toNat (D.I h)) : Int) - (1 : Int))) < List.length (D.L k))) (T.leaf (Rd.again [D.i (1 : Int), D.l (D.L a), D.i (D.I b), D.l (D.L c), D.i (D.I d), D.i (D.I e), D.i (D.I f), D.l (D.L g), D.i (↑(Int.toNat (D.I h)) : Int), D.i (D.I i), D.b (D.B j), D.l (List.set (D.L k) (Int.toNat (IntKind.wrap IntKind.i64 ((↑(Int.toNat (D.I h)) : Int) - (1 : Int)))) (updC (List.getD (D.L k) (Int.toNat (IntKind.wrap IntKind.i64 ((↑(Int.toNat (D.I h)) : Int) - (1 : Int)))) []) [D.i (D.I m)] (0 + 2) 0 (List.length [K.int IntKind.i64, K.int IntKind.i64, K.int IntKind.i64])))], [])))) (T.need true (T.ite false (T.leaf (Rd.again [D.i (1 : Int), D.l (D.L a), D.i (D.I b), D.l (D.L c), D.i (D.I d), D.i (D.I e), D.i (D.I f), D.l (D.L g), D.i (↑(Int.toNat (D.I h)) : Int), D.i (D.I i), D.b true, D.l (D.L k)], [])) (T.need (decide (Int.toNat (D.I h) ≤ List.length (D.L k) ∧ Int.toNat (D.I h) + List.length (List.take (List.length [[D.i (D.I i), D.i (D.I l), D.i (D.I m)]]) [[D.i (D.I i), D.i (D.I l), D.i (D.I m)]]) ≤ 2 ^ 62 ∧ (Int.toNat (D.I h) + List.length (List.take (List.length [[D.i (D.I i), D.i (D.I l), D.i (D.I m)]]) [[D.i (D.I i), D.i (D.I l), D.i (D.I m)]])) * Try.prog.types[57].bytes ≤ 2 ^ 47)) (T.leaf (Rd.again [D.i (1 : Int), D.l (D.L a), D.i (D.I b), D.l (D.L c), D.i (D.I d), D.i (D.I e), D.i (D.I f), D.l (D.L g), D.i (↑(Int.toNat (D.I h) + List.length (List.take (List.length [[D.i (D.I i), D.i (D.I l), D.i (D.I m)]]) [[D.i (D.I i), D.i (D.I l), D.i (D.I m)]])) : Int), D.i (D.I i), D.b true, D.l (List.take (Int.toNat (D.I h)) (D.L k) ++ List.take (List.length [[D.i (D.I i), D.i (D.I l), D.i (D.I m)]]) [[D.i (D.I i), D.i (D.I l), D.i (D.I m)]])], [])))))) := by kernel_rfl
theorem t27 (a b c d e : D) : fnT C tab27 27 s27 [a, b, c, d, e] =
  T.need (yes ((60 : Int) ≤ (1000 : Int))) (T.ite (!coverB (D.I a) (D.L b) (D.L c) (60 : Int) (D.L d) (D.I e)) (T.leaf [D.i (0 : Int), D.i (2 : Int)]) (T.need (yes (okG (D.I a) (D.L b) (D.L c) (D.L d) (D.I e))) (T.ite (List.isEmpty (gapsA (D.I a) (D.L b) (D.L c) (D.L d) (D.I e))) (T.leaf [D.i (0 : Int), D.i (0 : Int)]) (T.leaf [D.i (1 : Int), D.i (↑(Int.toNat (↑(List.length (gapsA (D.I a) (D.L b) (D.L c) (D.L d) (D.I e))) : Int)) : Int), D.i (0 : Int), D.l (gapsA (D.I a) (D.L b) (D.L c) (D.L d) (D.I e))])))) := by kernel_rfl
theorem t7 (a b c d e : D) : fnT C tab7 7 s7 [a, b, c, d, e] =
  T.ite (!smallB (D.I a) (D.L b)) (T.leaf [D.b true]) (T.ite (!fewC (↑(List.length (D.L c)) : Int) (↑(List.length (D.L d)) : Int) (D.I e) (60 : Int)) (T.leaf [D.b true]) (T.ite (coverB (D.I a) (D.L b) (D.L c) (60 : Int) (D.L d) (D.I e)) (T.ite (List.isEmpty (gapsA (D.I a) (D.L b) (D.L c) (D.L d) (D.I e))) (T.ite (!netB (D.I a) (D.L b)) (T.ite false (T.ite true (T.leaf [D.b true]) (T.leaf [D.b false])) (T.leaf [D.b false])) (T.ite (decide ((↑(List.length (D.L c)) : Int) > (60 : Int))) (T.ite false (T.ite true (T.leaf [D.b true]) (T.leaf [D.b false])) (T.leaf [D.b false])) (T.need (yes (((1 : Int) ≤ D.I a ∧ D.I a ≤ (200 : Int)) ∧ List.length (D.L c) < big)) (T.ite (!vehs (D.I a) (D.L c)) (T.ite false (T.ite true (T.leaf [D.b true]) (T.leaf [D.b false])) (T.leaf [D.b false])) (T.need (yes (((1 : Int) ≤ D.I a ∧ D.I a ≤ (200 : Int)) ∧ List.length (D.L d) < big)) (T.ite (!(zons (D.I a) (D.L d) && decide (List.length (D.L d) ≤ 100))) (T.ite false (T.ite true (T.leaf [D.b true]) (T.leaf [D.b false])) (T.leaf [D.b false])) (T.ite (decide (D.I e < (0 : Int))) (T.ite false (T.ite true (T.leaf [D.b true]) (T.leaf [D.b false])) (T.leaf [D.b false])) (T.ite (decide (D.I e > (100000 : Int))) (T.ite false (T.ite true (T.leaf [D.b true]) (T.leaf [D.b false])) (T.leaf [D.b false])) (T.need (yes (okG (D.I a) (D.L b) (D.L c) (D.L d) (D.I e))) (T.ite (List.isEmpty (refZ (D.I a) (D.L b) (D.L c) (D.L d) (D.I e) 0 (List.length (D.L d)) [])) (T.ite false (T.leaf [D.b false]) (T.ite false (T.leaf [D.b false]) (T.need (yes ((↑0 : Int) = (0 : Int) ∧ (0 : Int) = (0 : Int))) (T.leaf [D.b true])))) (T.ite false (T.leaf [D.b false]) (T.ite ((↑0 : Int) != (↑(Int.toNat (↑(List.length (refZ (D.I a) (D.L b) (D.L c) (D.L d) (D.I e) 0 (List.length (D.L d)) [])) : Int)) : Int)) (T.leaf [D.b false]) T.fail)))))))))))) (T.ite (!netB (D.I a) (D.L b)) (T.ite false (T.ite ((↑(Int.toNat (↑(List.length (gapsA (D.I a) (D.L b) (D.L c) (D.L d) (D.I e))) : Int)) : Int) == (0 : Int)) (T.leaf [D.b true]) (T.leaf [D.b false])) (T.leaf [D.b false])) (T.ite (decide ((↑(List.length (D.L c)) : Int) > (60 : Int))) (T.ite false (T.ite ((↑(Int.toNat (↑(List.length (gapsA (D.I a) (D.L b) (D.L c) (D.L d) (D.I e))) : Int)) : Int) == (0 : Int)) (T.leaf [D.b true]) (T.leaf [D.b false])) (T.leaf [D.b false])) (T.need (yes (((1 : Int) ≤ D.I a ∧ D.I a ≤ (200 : Int)) ∧ List.length (D.L c) < big)) (T.ite (!vehs (D.I a) (D.L c)) (T.ite false (T.ite ((↑(Int.toNat (↑(List.length (gapsA (D.I a) (D.L b) (D.L c) (D.L d) (D.I e))) : Int)) : Int) == (0 : Int)) (T.leaf [D.b true]) (T.leaf [D.b false])) (T.leaf [D.b false])) (T.need (yes (((1 : Int) ≤ D.I a ∧ D.I a ≤ (200 : Int)) ∧ List.length (D.L d) < big)) (T.ite (!(zons (D.I a) (D.L d) && decide (List.length (D.L d) ≤ 100))) (T.ite false (T.ite ((↑(Int.toNat (↑(List.length (gapsA (D.I a) (D.L b) (D.L c) (D.L d) (D.I e))) : Int)) : Int) == (0 : Int)) (T.leaf [D.b true]) (T.leaf [D.b false])) (T.leaf [D.b false])) (T.ite (decide (D.I e < (0 : Int))) (T.ite false (T.ite ((↑(Int.toNat (↑(List.length (gapsA (D.I a) (D.L b) (D.L c) (D.L d) (D.I e))) : Int)) : Int) == (0 : Int)) (T.leaf [D.b true]) (T.leaf [D.b false])) (T.leaf [D.b false])) (T.ite (decide (D.I e > (100000 : Int))) (T.ite false (T.ite ((↑(Int.toNat (↑(List.length (gapsA (D.I a) (D.L b) (D.L c) (D.L d) (D.I e))) : Int)) : Int) == (0 : Int)) (T.leaf [D.b true]) (T.leaf [D.b false])) (T.leaf [D.b false])) (T.need (yes (okG (D.I a) (D.L b) (D.L c) (D.L d) (D.I e))) (T.ite (List.isEmpty (refZ (D.I a) (D.L b) (D.L c) (D.L d) (D.I e) 0 (List.length (D.L d)) [])) (T.ite false (T.leaf [D.b false]) (T.ite ((↑(Int.toNat (↑(List.length (gapsA (D.I a) (D.L b) (D.L c) (D.L d) (D.I e))) : Int)) : Int) != (↑0 : Int)) (T.leaf [D.b false]) T.fail)) (T.ite false (T.leaf [D.b false]) (T.ite ((↑(Int.toNat (↑(List.length (gapsA (D.I a) (D.L b) (D.L c) (D.L d) (D.I e))) : Int)) : Int) != (↑(Int.toNat (↑(List.length (refZ (D.I a) (D.L b) (D.L c) (D.L d) (D.I e) 0 (List.length (D.L d)) [])) : Int)) : Int)) (T.leaf [D.b false]) (T.need (yes ((↑(0 + 1 + 1 + 1) : Int) = (3 : Int) ∧ (↑(Int.toNat (↑(List.length (gapsA (D.I a) (D.L b) (D.L c) (D.L d) (D.I e))) : Int)) : Int) = (↑(List.length (gapsA (D.I a) (D.L b) (D.L c) (D.L d) (D.I e))) : Int) ∧ (↑(Int.toNat (↑(List.length (refZ (D.I a) (D.L b) (D.L c) (D.L d) (D.I e) 0 (List.length (D.L d)) [])) : Int)) : Int) = (↑(List.length (refZ (D.I a) (D.L b) (D.L c) (D.L d) (D.I e) 0 (List.length (D.L d)) [])) : Int) ∧ List.length (gapsA (D.I a) (D.L b) (D.L c) (D.L d) (D.I e)) = List.length (refZ (D.I a) (D.L b) (D.L c) (D.L d) (D.I e) 0 (List.length (D.L d)) []) ∧ List.length (gapsA (D.I a) (D.L b) (D.L c) (D.L d) (D.I e)) ≤ 1000000000 ∧ (0 : Int) ≤ (0 : Int) ∧ (0 : Int) ≤ (↑(List.length (gapsA (D.I a) (D.L b) (D.L c) (D.L d) (D.I e))) : Int))) (T.ite (allFrom (sameG (gapsA (D.I a) (D.L b) (D.L c) (D.L d) (D.I e)) (refZ (D.I a) (D.L b) (D.L c) (D.L d) (D.I e) 0 (List.length (D.L d)) [])) (Int.toNat (0 : Int)) (List.length (gapsA (D.I a) (D.L b) (D.L c) (D.L d) (D.I e)) - Int.toNat (0 : Int))) (T.leaf [D.b true]) (T.leaf [D.b false])))))))))))))))) (T.ite (!netB (D.I a) (D.L b)) (T.ite true (T.ite true (T.leaf [D.b true]) (T.leaf [D.b false])) (T.leaf [D.b false])) (T.ite (decide ((↑(List.length (D.L c)) : Int) > (60 : Int))) (T.ite true (T.ite true (T.leaf [D.b true]) (T.leaf [D.b false])) (T.leaf [D.b false])) (T.need (yes (((1 : Int) ≤ D.I a ∧ D.I a ≤ (200 : Int)) ∧ List.length (D.L c) < big)) (T.ite (!vehs (D.I a) (D.L c)) (T.ite true (T.ite true (T.leaf [D.b true]) (T.leaf [D.b false])) (T.leaf [D.b false])) (T.need (yes (((1 : Int) ≤ D.I a ∧ D.I a ≤ (200 : Int)) ∧ List.length (D.L d) < big)) (T.ite (!(zons (D.I a) (D.L d) && decide (List.length (D.L d) ≤ 100))) (T.ite true (T.ite true (T.leaf [D.b true]) (T.leaf [D.b false])) (T.leaf [D.b false])) (T.ite (decide (D.I e < (0 : Int))) (T.ite true (T.ite true (T.leaf [D.b true]) (T.leaf [D.b false])) (T.leaf [D.b false])) (T.ite (decide (D.I e > (100000 : Int))) (T.ite true (T.ite true (T.leaf [D.b true]) (T.leaf [D.b false])) (T.leaf [D.b false])) (T.need (yes (okG (D.I a) (D.L b) (D.L c) (D.L d) (D.I e))) (T.ite (List.isEmpty (refZ (D.I a) (D.L b) (D.L c) (D.L d) (D.I e) 0 (List.length (D.L d)) [])) (T.ite true (T.leaf [D.b false]) (T.ite false (T.leaf [D.b false]) (T.need (yes ((↑0 : Int) = (0 : Int) ∧ (0 : Int) = (0 : Int))) (T.leaf [D.b true])))) (T.ite true (T.leaf [D.b false]) (T.ite ((↑0 : Int) != (↑(Int.toNat (↑(List.length (refZ (D.I a) (D.L b) (D.L c) (D.L d) (D.I e) 0 (List.length (D.L d)) [])) : Int)) : Int)) (T.leaf [D.b false]) T.fail)))))))))))))) := by kernel_rfl
theorem t7_10_0 (a : D) : roundT C tab7 7 (loopOf C.P 7 10) l7_10 [.i 0, a] =
  T.ite (decide (D.I a < (↑0 : Int))) T.fail (T.leaf (Rd.out (Ex.exit 0) [])) := by kernel_rfl
theorem t7_10_1 (a b c : D) : roundT C tab7 7 (loopOf C.P 7 10) l7_10 [.i 1, a, b, c] =
  T.ite (decide (D.I b < (↑0 : Int))) T.fail (T.leaf (Rd.out (Ex.exit 0) [])) := by kernel_rfl
theorem t7_10_2 (a b c : D) : roundT C tab7 7 (loopOf C.P 7 10) l7_10 [.i 2, a, b, c] =
  T.ite (decide (D.I b < (↑(Int.toNat (D.I a)) : Int))) (T.need (decide ((0 : Int) ≤ D.I b ∧ D.I b < (↑(Int.toNat (D.I a)) : Int))) (T.need (decide (Int.toNat (D.I b) < List.length (D.L c))) T.fail)) (T.leaf (Rd.out (Ex.exit 0) [])) := by kernel_rfl
theorem t7_10_3 (a b c d e : D) : roundT C tab7 7 (loopOf C.P 7 10) l7_10 [.i 3, a, b, c, d, e] =
  T.ite (decide (D.I c < (↑(Int.toNat (D.I a)) : Int))) (T.need (decide ((0 : Int) ≤ D.I c ∧ D.I c < (↑(Int.toNat (D.I a)) : Int))) (T.need (decide (Int.toNat (D.I c) < List.length (D.L d))) (T.need (decide ((0 : Int) ≤ D.I c ∧ D.I c < (↑(Int.toNat (D.I b)) : Int))) (T.need (decide (Int.toNat (D.I c) < List.length (D.L e))) (T.ite (!(D.I (List.getD (List.getD (D.L d) (Int.toNat (D.I c)) []) 0 default) == D.I (List.getD (List.getD (D.L e) (Int.toNat (D.I c)) []) 0 default) && (D.I (List.getD (List.getD (D.L d) (Int.toNat (D.I c)) []) (0 + 1) default) == D.I (List.getD (List.getD (D.L e) (Int.toNat (D.I c)) []) (0 + 1) default) && (D.I (List.getD (List.getD (D.L d) (Int.toNat (D.I c)) []) (0 + 1 + 1) default) == D.I (List.getD (List.getD (D.L e) (Int.toNat (D.I c)) []) (0 + 1 + 1) default) && true)))) (T.leaf (Rd.out Ex.ret [D.b false])) (T.leaf (Rd.again [D.i (3 : Int), D.i (↑(Int.toNat (D.I a)) : Int), D.i (↑(Int.toNat (D.I b)) : Int), D.i (IntKind.wrap IntKind.i64 (D.I c + (1 : Int))), D.l (D.L d), D.l (D.L e)]))))))) (T.leaf (Rd.out (Ex.exit 0) [])) := by kernel_rfl
end Go.Proofs.Ytgmefblkmidglaa

namespace Go.Proofs.Ytgmefblkmidglaa
open Go.Lite
set_option maxRecDepth 100000
set_option linter.unusedVariables false
/-! ### Gaps grow -/
theorem upd3 (c : List D) (d : D) (k1 k2 k3 : K) : updC c [d] 2 0 (List.length [k1, k2, k3]) = [c.getD 0 default, c.getD 1 default, d] := by simp [updC]
theorem setTo_len (g : List (List D)) (x : Int) : (setTo g x).length = g.length := by simp [setTo]
theorem gapT_len (i t : Int) (c : Bool) (s : List (List D) × Bool) : s.1.length ≤ (gapT i t c s).1.length ∧ (gapT i t c s).1.length ≤ s.1.length + 1 := by
  unfold gapT
  split
  · exact ⟨Nat.le_refl _, Nat.le_succ _⟩
  · split
    · simp only [setTo_len]; omega
    · simp only [List.length_append, List.length_cons, List.length_nil]; omega
theorem refT_len (p : Int → Bool) (i : Int) : ∀ (k : Nat) (t : Int) (s : List (List D) × Bool), s.1.length ≤ (refT p i k t s).1.length ∧ (refT p i k t s).1.length ≤ s.1.length + k
  | 0, _, _ => ⟨Nat.le_refl _, Nat.le_refl _⟩
  | k + 1, t, s => by
    have h1 := refT_len p i k (t + 1) (gapT i t (p t) s)
    have h2 := gapT_len i t (p t) s
    simp only [refT]
    omega
theorem empty_false {α : Type} {l : List α} (h : 0 < l.length) : l.isEmpty = false := by
  cases l with
  | nil => simp at h
  | cons a l => rfl
theorem empty_nil {α : Type} {l : List α} (h : l.isEmpty = true) : l = [] := List.isEmpty_iff.1 h
theorem upd3' (c : List D) (d : D) (k1 k2 k3 : K) : updC c [d] (0 + 2) 0 (List.length [k1, k2, k3]) = [c.getD 0 default, c.getD 1 default, d] := upd3 c d k1 k2 k3
theorem get_last (g : List (List D)) (r : List D) : (g ++ [r]).getD g.length [] = r := by
  rw [List.getD_eq_getElem?_getD, List.getElem?_append_right (Nat.le_refl _), Nat.sub_self]
  rfl
theorem set_last (g : List (List D)) (r r' : List D) : (g ++ [r]).set g.length r' = g ++ [r'] := by
  rw [List.set_append_right _ _ (Nat.le_refl _), Nat.sub_self]
  rfl
theorem setTo_def (g : List (List D)) (x : Int) : g.set (g.length - 1) [(g.getD (g.length - 1) []).getD 0 default, (g.getD (g.length - 1) []).getD 1 default, D.i x] = setTo g x := rfl

/-! ### Who covers -/
theorem covB_mk (n : Int) (r : List (List D)) (a b c d e f g : D) (t : Int) : covB n r (mk4 a b c d) (mk3 e f g) t = (decide (c.I ≤ t ∧ t < d.I) && (andI b.I f.I == f.I) && decide (0 ≤ docA n r a.I t e.I ∧ docA n r a.I t e.I ≤ t + g.I)) := rfl
theorem cov_mk (n : Int) (r : List (List D)) (x z : List D) (t : Int) : covB n r (mk4 (.i (ix x 0)) (.i (ix x 1)) (.i (ix x 2)) (.i (ix x 3))) (mk3 (.i (ix z 0)) (.i (ix z 1)) (.i (ix z 2))) t = covB n r x z t := rfl
theorem veh_of {n : Int} {v : List (List D)} (h : vehs n v = true) {k : Nat} (hk : k < v.length) : vehL n v k = true := allFrom_iff.1 h k (Nat.zero_le _) (by omega)
theorem zon_of {n : Int} {z : List (List D)} (h : zons n z = true) {k : Nat} (hk : k < z.length) : zonL n z k = true := allFrom_iff.1 h k (Nat.zero_le _) (by omega)
theorem any_stepC {n : Int} {r v : List (List D)} {z : List D} {t : Int} {k : Nat} (hk : k < v.length) : anyC n r v z t k (v.length - k) = (covB n r (v.getD k []) z t || anyC n r v z t (k + 1) (v.length - (k + 1))) := by
  unfold anyC
  rw [show v.length - k = (v.length - (k + 1)) + 1 by omega]
  simp only [allFrom, Bool.not_and, Bool.not_not]
theorem ok54 (n : Nat) : FnOK C (n + 4) 54 (mkF s54 G54) := by
  refine fn_ofS hC (sp := sp54) (lp := lp54) (sw := sw54) ⟨ok22 n, trivial⟩ trivial (by kernel_rfl) [] (by kernel_rfl) rfl (fun k hk => by cases hk) fun ds rr h => ?_
  unfold G54 at h
  split at h
  · rename_i m r a b c d e f g t
    obtain ⟨hp, h⟩ := need_some h
    rw [yes_iff] at hp
    obtain ⟨hN, hv, hz, ht0, ht1⟩ := hp
    rw [vehB_mk, decide_eq_true_iff] at hv
    rw [zonB_mk, decide_eq_true_iff] at hz
    obtain ⟨p1, p2, p3⟩ := net_parts hN
    have hyl := (yR_ok hN (v := a.I) (t := t.I) hv.1 (by omega) m.I.toNat).1
    refine (congrArg T.run (t54 m r a b c d e f g t)).trans ?_
    rw [← h, covB_mk]
    have hA : rg (reachF r.L m.I.toNat (beginF m.I a.I t.I)) e.I.toNat = docA m.I r.L a.I t.I e.I := rfl
    rw [wrap_id (x := t.I + g.I) (by omega) (by omega)]
    simp only [rg_def, hA]
    refine go_if (fun c1 => by rw [decide_eq_false (by omega)]; rfl) fun c1 => go_if (fun c2 => by rw [decide_eq_false (by omega)]; rfl) fun c2 => ?_
    rw [decide_eq_true (show c.I ≤ t.I ∧ t.I < d.I by omega), Bool.true_and]
    refine go_ite (fun c3 => ?_) fun c3 => ?_
    · have c3 : (andI b.I f.I == f.I) = false := beq_false_of_ne (bne_iff_ne.1 c3)
      rw [c3]; rfl
    · have c3 : (andI b.I f.I == f.I) = true := by
        cases hx : (andI b.I f.I == f.I) with
        | true => rfl
        | false =>
          have hx : andI b.I f.I ≠ f.I := ne_of_beq_false hx
          have : (andI b.I f.I != f.I) = true := bne_iff_ne.2 hx
          exact absurd (this.symm.trans c3) (by simp)
      rw [c3, Bool.true_and]
      refine go_yes ⟨hN, hv.1, by omega⟩ (go_dec (by omega) (go_dec (by omega) (go_if (fun c4 => ?_) fun c4 => by rw [decide_eq_false (by omega)])))
      by_cases c5 : docA m.I r.L a.I t.I e.I ≤ t.I + g.I
      · rw [decide_eq_true c5, decide_eq_true (by omega)]
      · rw [decide_eq_false c5, decide_eq_false (by omega)]
  · cases h
/-- How far a loop has to go. -/
def mu11 : List D → Nat
  | [_, v, _, _, _, _, _, _, k, _, _] => ((v.L.length : Int) - k.I).toNat
  | [_, v, _, _, _, _, _, _, _, k, _, _, _] => ((v.L.length : Int) - k.I).toNat
  | _ => 0
def mu7 : List D → Nat
  | [_, _, _, h, _, _, t, _, _] => (h.I - t.I).toNat
  | [_, _, _, h, _, _, _, t, _, _, _] => (h.I - t.I).toNat
  | _ => 0
def mu3 : List D → Nat
  | [_, _, z, _, i, _, _] => ((z.L.length : Int) - i.I).toNat
  | [_, _, z, _, _, i, _, _, _] => ((z.L.length : Int) - i.I).toNat
  | _ => 0
theorem ok30_11 (n : Nat) : LoopSim C (n + 4) 30 (loopOf C.P 30 11) (mkL l30_11 G30_11) := by
  refine loop_ofK hC (sp := sp30) (lp := lp30) (sw := sw30) ⟨ok54 n, trivial⟩ trivial 0 [] (by kernel_rfl) rfl (fun k hk => by cases hk) (by kernel_rfl) mu11 fun ds rr hh => ?_
  unfold G30_11 at hh
  split at hh
  · rename_i j v z h i o t c k' n' r
    obtain ⟨hp, hh⟩ := need_some hh
    rw [yes_iff] at hp
    obtain ⟨hj, hG, hi, ht, hk⟩ := hp
    have hG' := hG
    obtain ⟨hN, hv, hz, hvl, hzl, hh0, hh1⟩ := hG'
    refine ⟨by rw [fuelC]; show ((v.L.length : Int) - k'.I).toNat < _; omega, ?_⟩
    rw [roundTK_head (j := j) (n := 0) hj (by decide), show roundTK C (mkTab sp30 lp30 sw30) 30 (loopOf C.P 30 11) 0 l30_11 [.i 0, v, z, h, i, o, t, c, k', n', r] = _ from t30_11_0 v z h i o t c k' n' r]
    obtain ⟨k, hke⟩ : ∃ k : Nat, k'.I = k := ⟨k'.I.toNat, by omega⟩
    obtain ⟨i', hie⟩ : ∃ i' : Nat, i.I = i' := ⟨i.I.toNat, by omega⟩
    rw [hke] at hk
    simp only [hke, hie, Int.toNat_natCast, Nat.reduceAdd, ix_def, cov_mk, vehL_mk, zonL_mk] at hh hi ⊢
    have hmu : ((v.L.length : Int) - ((k + 1 : Nat) : Int)).toNat < ((v.L.length : Int) - k'.I).toNat ∨ ¬ (k < v.L.length) := by omega
    refine rd_if (fun hlt => ?_) fun hge => ?_
    · have hkl : k < v.L.length := by omega
      have key : ∀ x : Bool, (c.B || anyC n'.I r.L v.L (z.L.getD i' []) t.I k (v.L.length - k)) = (x || anyC n'.I r.L v.L (z.L.getD i' []) t.I (k + 1) (v.L.length - (k + 1))) → (G30_11 [.i 0, .l v.L, .l z.L, .i h.I, .i (i' : Int), .b o.B, .i t.I, .b x, .i ((k + 1 : Nat) : Int), .i n'.I, .l r.L]).run = some rr := fun x e => by
        rw [e] at hh
        exact (need_yes ⟨rfl, hG, by simp only [I_i, L_l]; omega, ht, by simp only [I_i, L_l]; omega⟩).trans hh
      have hmu : ((v.L.length : Int) - ((k + 1 : Nat) : Int)).toNat < ((v.L.length : Int) - k'.I).toNat := by omega
      rw [wrap_succ (by omega)]
      refine rd_ite (fun c1 => rd_again (key true (by rw [c1]; simp)) hmu) fun c1 => ?_
      exact rd_dec (by omega) (rd_dec (by omega) (rd_yes ⟨hN, veh_of hv hkl, zon_of hz (by omega), by omega, by omega⟩ (rd_again (key _ (by rw [c1, Bool.false_or, any_stepC hkl])) hmu)))
    · rw [show v.L.length - k = 0 by omega] at hh
      have : anyC n'.I r.L v.L (z.L.getD i' []) t.I k 0 = false := rfl
      rw [this, Bool.or_false] at hh
      exact rd_out hh
  · rename_i j v z h m i o t c k' n' r g
    obtain ⟨hp, hh⟩ := need_some hh
    rw [yes_iff] at hp
    obtain ⟨hj, hG, hi, ht, hk, hm⟩ := hp
    have hG' := hG
    obtain ⟨hN, hv, hz, hvl, hzl, hh0, hh1⟩ := hG'
    refine ⟨by rw [fuelC]; show ((v.L.length : Int) - k'.I).toNat < _; omega, ?_⟩
    rw [roundTK_head (j := j) (n := 1) hj (by decide), show roundTK C (mkTab sp30 lp30 sw30) 30 (loopOf C.P 30 11) 0 l30_11 [.i 1, v, z, h, m, i, o, t, c, k', n', r, g] = _ from t30_11_1 v z h m i o t c k' n' r g]
    obtain ⟨k, hke⟩ : ∃ k : Nat, k'.I = k := ⟨k'.I.toNat, by omega⟩
    obtain ⟨i', hie⟩ : ∃ i' : Nat, i.I = i' := ⟨i.I.toNat, by omega⟩
    rw [hke] at hk
    simp only [hke, hie, hm, Int.toNat_natCast, Nat.reduceAdd, ix_def, cov_mk, vehL_mk, zonL_mk] at hh hi ⊢
    have hmu : ((v.L.length : Int) - ((k + 1 : Nat) : Int)).toNat < ((v.L.length : Int) - k'.I).toNat ∨ ¬ (k < v.L.length) := by omega
    refine rd_if (fun hlt => ?_) fun hge => ?_
    · have hkl : k < v.L.length := by omega
      have key : ∀ x : Bool, (c.B || anyC n'.I r.L v.L (z.L.getD i' []) t.I k (v.L.length - k)) = (x || anyC n'.I r.L v.L (z.L.getD i' []) t.I (k + 1) (v.L.length - (k + 1))) → (G30_11 [.i 1, .l v.L, .l z.L, .i h.I, .i g.L.length, .i (i' : Int), .b o.B, .i t.I, .b x, .i ((k + 1 : Nat) : Int), .i n'.I, .l r.L, .l g.L]).run = some rr := fun x e => by
        rw [e] at hh
        exact (need_yes ⟨rfl, hG, by simp only [I_i, L_l]; omega, ht, by simp only [I_i, L_l]; omega, rfl⟩).trans hh
      have hmu : ((v.L.length : Int) - ((k + 1 : Nat) : Int)).toNat < ((v.L.length : Int) - k'.I).toNat := by omega
      rw [wrap_succ (by omega)]
      refine rd_ite (fun c1 => rd_again (key true (by rw [c1]; simp)) hmu) fun c1 => ?_
      exact rd_dec (by omega) (rd_dec (by omega) (rd_yes ⟨hN, veh_of hv hkl, zon_of hz (by omega), by omega, by omega⟩ (rd_again (key _ (by rw [c1, Bool.false_or, any_stepC hkl])) hmu)))
    · rw [show v.L.length - k = 0 by omega] at hh
      have : anyC n'.I r.L v.L (z.L.getD i' []) t.I k 0 = false := rfl
      rw [this, Bool.or_false] at hh
      exact rd_out hh
  · cases hh
theorem ok30_7 (n : Nat) : LoopSim C (n + 4) 30 (loopOf C.P 30 7) (mkL l30_7 G30_7) := by
  have hby : Try.prog.types[57].bytes = 24 := by kernel_rfl
  refine loop_ofK hC (sp := sp30) (lp := lp30) (sw := sw30) ⟨ok54 n, trivial⟩ trivial 0 [11] (by kernel_rfl) (by kernel_rfl) (fun k hk L hL => by simp at hk; subst hk; cases hL; exact ok30_11 n) (by kernel_rfl) mu7 fun ds rr hh => ?_
  unfold G30_7 at hh
  split at hh
  · rename_i j v z h i o t n' r
    obtain ⟨hp, hh⟩ := need_some hh
    rw [yes_iff] at hp
    obtain ⟨hj, hG, hi, ht, ho⟩ := hp
    have hG' := hG
    obtain ⟨hN, hv, hz, hvl, hzl, hh0, hh1⟩ := hG'
    refine ⟨by rw [fuelC]; show (h.I - t.I).toNat < _; omega, ?_⟩
    rw [roundTK_head (j := j) (n := 0) hj (by decide), show roundTK C (mkTab sp30 lp30 sw30) 30 (loopOf C.P 30 7) 0 l30_7 [.i 0, v, z, h, i, o, t, n', r] = _ from t30_7_0 v z h i o t n' r]
    obtain ⟨i', hie⟩ : ∃ i' : Nat, i.I = i' := ⟨i.I.toNat, by omega⟩
    simp only [hie, ho, Int.toNat_natCast, Int.toNat_zero, Nat.sub_zero, Bool.false_or] at hh hi ⊢
    refine rd_if (fun hlt => ?_) fun hge => ?_
    · have hmu : (h.I - (t.I + 1)).toNat < (h.I - t.I).toNat := by omega
      rw [wrap_id (x := t.I + 1) (by omega) (by omega)]
      rw [show h.I.toNat - t.I.toNat = (h.I.toNat - (t.I + 1).toNat) + 1 by omega] at hh
      simp only [refT] at hh
      refine rd_yes ⟨trivial, hG, by omega, by omega, by omega, by omega⟩ (rd_ite (fun c1 => ?_) fun c1 => ?_)
      · have e : gapT (i' : Int) t.I (secsF n'.I r.L v.L (z.L.getD i' []) t.I) ([], false) = ([], false) := by
          have : secsF n'.I r.L v.L (z.L.getD i' []) t.I = true := c1
          unfold gapT
          rw [this]; rfl
        rw [e] at hh
        refine rd_again ((need_yes ⟨rfl, hG, by simp only [I_i, L_l]; omega, by simp only [I_i]; omega, rfl⟩).trans ?_) hmu
        simp only [I_i, L_l, Int.toNat_natCast]
        exact hh
      · have e : gapT (i' : Int) t.I (secsF n'.I r.L v.L (z.L.getD i' []) t.I) ([], false) = ([[.i (i' : Int), .i t.I, .i (t.I + 1)]], true) := by
          have : secsF n'.I r.L v.L (z.L.getD i' []) t.I = false := c1
          unfold gapT
          rw [this]; rfl
        rw [e] at hh
        have hne := (refT_len (secsF n'.I r.L v.L (z.L.getD i' [])) (i' : Int) (h.I.toNat - (t.I + 1).toNat) (t.I + 1) ([[.i (i' : Int), .i t.I, .i (t.I + 1)]], true)).1
        rw [empty_false (Nat.lt_of_lt_of_le (by simp) hne)] at hh
        refine rd_true rfl (rd_need rfl (rd_false rfl (rd_need rfl (rd_need rfl (rd_need rfl (rd_again ((need_yes ⟨rfl, hG, by simp only [I_i, L_l]; omega, by simp only [I_i]; omega, rfl, by simp only [L_l]; exact Nat.zero_lt_one, by simp only [I_i]; omega⟩).trans ?_) hmu))))))
        simp only [I_i, L_l, B_b, Int.toNat_natCast]
        exact hh
    · rw [show h.I.toNat - t.I.toNat = 0 by omega] at hh
      exact rd_out hh
  · rename_i j v z h m i o t n' r g
    obtain ⟨hp, hh⟩ := need_some hh
    rw [yes_iff] at hp
    obtain ⟨hj, hG, hi, ht, hm, hg0, hmb⟩ := hp
    have hG' := hG
    obtain ⟨hN, hv, hz, hvl, hzl, hh0, hh1⟩ := hG'
    refine ⟨by rw [fuelC]; show (h.I - t.I).toNat < _; omega, ?_⟩
    rw [roundTK_head (j := j) (n := 1) hj (by decide), show roundTK C (mkTab sp30 lp30 sw30) 30 (loopOf C.P 30 7) 0 l30_7 [.i 1, v, z, h, m, i, o, t, n', r, g] = _ from t30_7_1 v z h m i o t n' r g]
    obtain ⟨i', hie⟩ : ∃ i' : Nat, i.I = i' := ⟨i.I.toNat, by omega⟩
    rw [hm] at hmb
    simp only [hie, hm, Int.toNat_natCast, Int.toNat_zero, Nat.sub_zero, Bool.false_or, upd3'] at hh hi hmb ⊢
    refine rd_if (fun hlt => ?_) fun hge => ?_
    · have hmu : (h.I - (t.I + 1)).toNat < (h.I - t.I).toNat := by omega
      rw [wrap_id (x := t.I + 1) (by omega) (by omega)]
      rw [show h.I.toNat - t.I.toNat = (h.I.toNat - (t.I + 1).toNat) + 1 by omega] at hh
      simp only [refT] at hh
      have hnext : ∀ (x : List (List D)) (b : Bool), gapT (i' : Int) t.I (secsF n'.I r.L v.L (z.L.getD i' []) t.I) (g.L, o.B) = (x, b) → (G30_7 [.i 1, .l v.L, .l z.L, .i h.I, .i x.length, .i (i' : Int), .b b, .i (t.I + 1), .i n'.I, .l r.L, .l x]).run = some rr := fun x b e => by
        have h1 := gapT_len (i' : Int) t.I (secsF n'.I r.L v.L (z.L.getD i' []) t.I) (g.L, o.B)
        rw [e] at hh h1
        simp only at h1
        refine (need_yes ⟨rfl, hG, by simp only [I_i, L_l]; omega, by simp only [I_i]; omega, rfl, by simp only [L_l]; omega, by simp only [I_i]; omega⟩).trans ?_
        simp only [I_i, L_l, B_b, Int.toNat_natCast]
        exact hh
      refine rd_yes ⟨rfl, hG, by omega, by omega, ⟨by omega, by omega⟩, trivial⟩ (rd_ite (fun c1 => ?_) fun c1 => ?_)
      · have hs : secsF n'.I r.L v.L (z.L.getD i' []) t.I = true := c1
        exact rd_again (hnext _ _ (by unfold gapT; rw [hs]; rfl)) hmu
      · have hs : secsF n'.I r.L v.L (z.L.getD i' []) t.I = false := c1
        refine rd_not (fun c2 => ?_) fun c2 => ?_
        · refine rd_need rfl (rd_false rfl ?_)
          simp only [List.take_length]
          simp only [List.length_cons, List.length_nil, Nat.zero_add]
          rw [show (((g.L.length + 1 : Nat) : Int) - 1) = (g.L.length : Int) by omega, wrap_id (x := (g.L.length : Int)) (by omega) (by omega)]
          simp only [Int.toNat_natCast]
          rw [get_last, set_last]
          refine rd_dec (by rw [hby]; omega) (rd_dec (by omega) (rd_dec (by simp) (rd_again ?_ hmu)))
          have := hnext (g.L ++ [[.i (i' : Int), .i t.I, .i (t.I + 1)]]) true (by unfold gapT; rw [hs]; simp only [Bool.false_eq_true, if_false]; rw [if_neg (by rw [c2]; simp)])
          simp only [List.length_append, List.length_cons, List.length_nil, Nat.zero_add] at this
          exact this
        · have hw : IntKind.i64.wrap ((g.L.length : Int) - 1) = (g.L.length : Int) - 1 := wrap_pred (by omega)
          simp only [hw, toNat_pred, setTo_def]
          refine rd_dec (by omega) (rd_dec (by omega) (rd_again ?_ hmu))
          have := hnext (setTo g.L (t.I + 1)) o.B (by unfold gapT; rw [hs]; simp only [Bool.false_eq_true, if_false]; rw [if_pos c2, c2])
          rw [setTo_len] at this
          exact this
    · rw [show h.I.toNat - t.I.toNat = 0 by omega] at hh
      exact rd_out hh
  · cases hh
theorem refZ_len (n : Int) (r v z : List (List D)) (h : Int) : ∀ (k i : Nat) (g : List (List D)), g.length ≤ (refZ n r v z h i k g).length ∧ (refZ n r v z h i k g).length ≤ g.length + k * h.toNat
  | 0, _, g => ⟨Nat.le_refl _, by simp only [refZ]; omega⟩
  | k + 1, i, g => by
    have h1 := refZ_len n r v z h k (i + 1) (refT (secsF n r v (z.getD i [])) i h.toNat 0 (g, false)).1
    have h2 := refT_len (secsF n r v (z.getD i [])) i h.toNat 0 (g, false)
    simp only [refZ]
    rw [Nat.succ_mul]
    simp only at h2
    omega
theorem ok30_3 (n : Nat) : LoopSim C (n + 4) 30 (loopOf C.P 30 3) (mkL l30_3 G30_3) := by
  refine loop_ofK hC (sp := sp30) (lp := lp30) (sw := sw30) ⟨ok54 n, trivial⟩ trivial 0 [7] (by kernel_rfl) (by kernel_rfl) (fun k hk L hL => by simp at hk; subst hk; cases hL; exact ok30_7 n) (by kernel_rfl) mu3 fun ds rr hh => ?_
  unfold G30_3 at hh
  split at hh
  · rename_i j v z h i n' r
    obtain ⟨hp, hh⟩ := need_some hh
    rw [yes_iff] at hp
    obtain ⟨hj, hG, hi0, hi1⟩ := hp
    have hG' := hG
    obtain ⟨hN, hv, hz, hvl, hzl, hh0, hh1⟩ := hG'
    refine ⟨by rw [fuelC]; show ((z.L.length : Int) - i.I).toNat < _; omega, ?_⟩
    rw [roundTK_head (j := j) (n := 0) hj (by decide), show roundTK C (mkTab sp30 lp30 sw30) 30 (loopOf C.P 30 3) 0 l30_3 [.i 0, v, z, h, i, n', r] = _ from t30_3_0 v z h i n' r]
    obtain ⟨k, hke⟩ : ∃ k : Nat, i.I = k := ⟨i.I.toNat, by omega⟩
    simp only [hke, Int.toNat_natCast, Int.toNat_zero, Nat.sub_zero] at hh hi0 hi1 ⊢
    refine rd_if (fun hlt => ?_) fun hge => ?_
    · have hmu : ((z.L.length : Int) - ((k + 1 : Nat) : Int)).toNat < ((z.L.length : Int) - i.I).toNat := by omega
      rw [wrap_succ (by omega)]
      rw [show z.L.length - k = (z.L.length - (k + 1)) + 1 by omega] at hh
      simp only [refZ] at hh
      have hl := (refT_len (secsF n'.I r.L v.L (z.L.getD k [])) (k : Int) h.I.toNat 0 ([], false)).2
      refine rd_yes ⟨trivial, hG, by omega, by omega, trivial⟩ (rd_ite (fun c => ?_) fun c => ?_)
      · rw [empty_nil c] at hh
        exact rd_again ((need_yes ⟨rfl, hG, by simp only [I_i]; omega, by simp only [I_i, L_l]; omega⟩).trans hh) hmu
      · have hpos : 0 < (refT (secsF n'.I r.L v.L (z.L.getD k [])) (k : Int) h.I.toNat 0 ([], false)).1.length := by
          rw [List.length_pos_iff]
          intro he
          rw [he] at c
          cases c
        rw [empty_false (Nat.lt_of_lt_of_le hpos (refZ_len n'.I r.L v.L z.L h.I _ _ _).1)] at hh
        simp only [List.length_nil, Nat.zero_add] at hl
        exact rd_again ((need_yes ⟨rfl, hG, by simp only [I_i, L_l]; omega, rfl, hpos, by simp only [I_i]; omega⟩).trans hh) hmu
    · rw [show z.L.length - k = 0 by omega] at hh
      exact rd_out hh
  · rename_i j v z h m i n' r g
    obtain ⟨hp, hh⟩ := need_some hh
    rw [yes_iff] at hp
    obtain ⟨hj, hG, hi, hm, hg0, hmb⟩ := hp
    have hG' := hG
    obtain ⟨hN, hv, hz, hvl, hzl, hh0, hh1⟩ := hG'
    refine ⟨by rw [fuelC]; show ((z.L.length : Int) - i.I).toNat < _; omega, ?_⟩
    rw [roundTK_head (j := j) (n := 1) hj (by decide), show roundTK C (mkTab sp30 lp30 sw30) 30 (loopOf C.P 30 3) 0 l30_3 [.i 1, v, z, h, m, i, n', r, g] = _ from t30_3_1 v z h m i n' r g]
    obtain ⟨k, hke⟩ : ∃ k : Nat, i.I = k := ⟨i.I.toNat, by omega⟩
    rw [hm] at hmb
    simp only [hke, hm, Int.toNat_natCast, Int.toNat_zero, Nat.sub_zero] at hh hi hmb ⊢
    refine rd_if (fun hlt => ?_) fun hge => ?_
    · have hmu : ((z.L.length : Int) - ((k + 1 : Nat) : Int)).toNat < ((z.L.length : Int) - i.I).toNat := by omega
      rw [wrap_succ (by omega)]
      rw [show z.L.length - k = (z.L.length - (k + 1)) + 1 by omega] at hh
      simp only [refZ] at hh
      have hl := refT_len (secsF n'.I r.L v.L (z.L.getD k [])) (k : Int) h.I.toNat 0 (g.L, false)
      simp only at hl
      refine rd_yes ⟨rfl, hG, by omega, by omega, trivial, hg0, by omega⟩ (rd_again ((need_yes ⟨rfl, hG, by simp only [I_i, L_l]; omega, rfl, by simp only [L_l]; omega, by simp only [I_i]; omega⟩).trans hh) hmu)
    · rw [show z.L.length - k = 0 by omega] at hh
      exact rd_out hh
  · cases hh
theorem ok30 (n : Nat) : FnOK C (n + 5) 30 (mkF s30 G30) := by
  refine fn_ofS hC (sp := sp30) (lp := lp30) (sw := sw30) ⟨ok54 n, trivial⟩ trivial (by kernel_rfl) [3] (by kernel_rfl) (by kernel_rfl) (fun k hk L hL => by simp at hk; subst hk; cases hL; exact ok30_3 n) fun ds rr h => ?_
  unfold G30 at h
  split at h
  · rename_i m r v z t
    obtain ⟨hp, h⟩ := need_some h
    rw [yes_iff] at hp
    refine (congrArg T.run (t30 m r v z t)).trans ?_
    rw [← h]
    simp only [Int.toNat_zero, Nat.sub_zero, Int.toNat_natCast]
    exact go_yes ⟨trivial, hp, by omega, by omega⟩ rfl
  · cases h
end Go.Proofs.Ytgmefblkmidglaa

namespace Go.Proofs.Ytgmefblkmidglaa
open Go.Lite
set_option maxRecDepth 100000
set_option linter.unusedVariables false
/-! ### The last seconds -/
theorem lat_parts {n : Int} {r : List (List D)} {a b : Int} (hN : netB n r = true) (ha : 0 ≤ a ∧ a < n) (hb : 0 ≤ b ∧ b ≤ 1000000) :
    (latF n r a b).length = n.toNat ∧ (∀ u, -9223372036854775807 ≤ rg (latF n r a b) u ∧ rg (latF n r a b) u ≤ b) ∧ ∃ d, Least (edB r) n.toNat a (-b) d ∧ ∀ u, u < n.toNat → rg (latF n r a b) u = -(d u) := by
  obtain ⟨-, hL⟩ := back_ends hN ha (t := -b) (by omega)
  have hlen : (resB n.toNat r (startS n a (-b))).length = n.toNat := by rw [resB_len, len_start]
  obtain ⟨h1, h2⟩ := neg_rg n.toNat 0 (resB n.toNat r (startS n a (-b))) (by omega)
  have hI : INF = 9223372036854775807 := rfl
  have hrg : ∀ u, u < n.toNat → rg (latF n r a b) u = -(rg (resB n.toNat r (startS n a (-b))) u) := fun u hu => by
    unfold latF
    rw [h2, if_pos ⟨Nat.zero_le _, by omega⟩]
  refine ⟨by unfold latF; rw [h1, hlen], fun u => ?_, _, hL, hrg⟩
  by_cases hu : u < n.toNat
  · rw [hrg u hu]
    have h3 := hL.1 u hu
    by_cases hf : rg (resB n.toNat r (startS n a (-b))) u < INF
    · have := walk_lo (edB_ok hN) (hL.2.1 u hu hf)
      omega
    · omega
  · rw [rg_ge (by unfold latF; rw [h1, hlen]; omega)]
    omega
theorem zon_mk {n : Int} {a b c : D} (h : zonB n (mk3 a b c) = true) : (0 ≤ a.I ∧ a.I < n) ∧ (0 ≤ b.I ∧ b.I ≤ 65535) ∧ 0 ≤ c.I ∧ c.I ≤ 10000 := by
  rw [zonB_mk, decide_eq_true_iff] at h
  exact h
theorem zon_parts {n : Int} {z : List D} (h : zonB n z = true) : (0 ≤ ix z 0 ∧ ix z 0 < n) ∧ (0 ≤ ix z 1 ∧ ix z 1 ≤ 65535) ∧ 0 ≤ ix z 2 ∧ ix z 2 ≤ 10000 := of_decide_eq_true h
theorem veh_parts {n : Int} {x : List D} (h : vehB n x = true) : (0 ≤ ix x 0 ∧ ix x 0 < n) ∧ (0 ≤ ix x 1 ∧ ix x 1 ≤ 65535) ∧ (0 ≤ ix x 2 ∧ ix x 2 ≤ ix x 3) ∧ ix x 3 ≤ 100000 := of_decide_eq_true h
theorem mn_parts (a b : Int) : (mn a b ≤ a ∧ mn a b ≤ b) ∧ (mn a b = a ∨ mn a b = b) := by
  unfold mn
  split <;> omega
theorem mx_parts (a b : Int) : (a ≤ mx a b ∧ b ≤ mx a b) ∧ (mx a b = a ∨ mx a b = b) := by
  unfold mx
  split <;> omega
section
variable {n : Int} {r v : List (List D)} {z : List D} {h t : Int}
theorem best_le (hN : netB n r = true) {a to : Int} (ha : 0 ≤ a ∧ a < n) (ht : 0 ≤ t ∧ t ≤ 100000) : -1 ≤ bestF n r a t to ∧ bestF n r a t to ≤ 1099521627776 := by
  have := (arr_ok hN ha ht).1.2 to.toNat
  unfold bestF
  omega
theorem pv_step {x : List D} {s : Pv} (hN : netB n r = true) (hx : vehB n x = true) (hz : zonB n z = true) (ht : 0 ≤ t ∧ t < h) (hh : h ≤ 100000) (hs : okPv t h s) : okPv t h (stV n r z t x s) := by
  obtain ⟨x0, x1, x2, x3⟩ := veh_parts hx
  obtain ⟨s1, s2, s3, s4⟩ := hs
  unfold stV
  split
  · exact ⟨s1, s2, s3, s4⟩
  · rename_i c1
    have c1' : t < ix x 3 := by
      rcases Int.lt_or_le t (ix x 3) with h | h
      · exact h
      · exact absurd (.inr h) c1
    split
    · have := mn_parts s.nx (ix x 2)
      exact ⟨s1, s2, by simp only; omega, by simp only; omega⟩
    · split
      · have m1 := mn_parts (latU n r z t (ix x 0) + 1) (ix x 3)
        have m2 := mx_parts s.to (mn (latU n r z t (ix x 0) + 1) (ix x 3))
        exact ⟨fun _ => by simp only; omega, by simp only; omega, s3, s4⟩
      · split
        · have m1 := mx_parts (t + 1) (bestF n r (ix x 0) t (ix z 0) - ix z 2)
          have m2 := mn_parts s.nx (mx (t + 1) (bestF n r (ix x 0) t (ix z 0) - ix z 2))
          exact ⟨s1, s2, by simp only; omega, by simp only; omega⟩
        · exact ⟨s1, s2, s3, s4⟩
theorem run_pv (hN : netB n r = true) (hv : vehs n v = true) (hz : zonB n z = true) (ht : 0 ≤ t ∧ t < h) (hh : h ≤ 100000) : ∀ (k i : Nat) (s : Pv), i + k ≤ v.length → okPv t h s → okPv t h (runV n r v z t i k s)
  | 0, _, _, _, hs => hs
  | k + 1, i, s, hi, hs => run_pv hN hv hz ht hh k (i + 1) _ (by omega) (pv_step hN (veh_of hv (by omega : i < v.length)) hz ht hh hs)
theorem pv_at (hP : okP n r v z h) (ht : 0 ≤ t ∧ t < h) : okPv t h (pvAt n r v z h t) := by
  obtain ⟨hN, hv, hz, -, h0, h1⟩ := hP
  exact run_pv hN hv hz ht h1 _ _ _ (by omega) ⟨fun e => absurd e (by simp), ⟨Int.le_refl _, by simp only; omega⟩, by simp only; omega, Int.le_refl _⟩
theorem to_gt (hP : okP n r v z h) (ht : 0 ≤ t ∧ t < h) : t < toP n r v z h t ∧ toP n r v z h t ≤ h := by
  obtain ⟨s1, s2, s3, s4⟩ := pv_at hP ht
  unfold toP
  have m1 := mn_parts (if (pvAt n r v z h t).c then (pvAt n r v z h t).to else mx (t + 1) (pvAt n r v z h t).nx) h
  have m2 := mx_parts (t + 1) (pvAt n r v z h t).nx
  cases hc : (pvAt n r v z h t).c with
  | true =>
    have := s1 hc
    rw [hc] at m1
    simp only [if_true] at m1 ⊢
    omega
  | false =>
    rw [hc] at m1
    simp only [Bool.false_eq_true, if_false] at m1 ⊢
    omega
theorem piece_fuel (hP : okP n r v z h) : ∀ (f : Nat) (t : Int), 0 ≤ t → (h - t).toNat ≤ f → pieceL n r v z h f t = pieceL n r v z h (h - t).toNat t
  | 0, t, h0, hf => by rw [show (h - t).toNat = 0 by omega]
  | f + 1, t, h0, hf => by
    by_cases ht : t < h
    · obtain ⟨g1, g2⟩ := to_gt hP ⟨h0, ht⟩
      obtain ⟨e, he⟩ : ∃ e, (h - t).toNat = e + 1 := ⟨(h - t).toNat - 1, by omega⟩
      rw [he]
      simp only [pieceL, if_pos ht]
      rw [piece_fuel hP f _ (by omega) (by omega), piece_fuel hP e _ (by omega) (by omega)]
    · rw [show (h - t).toNat = 0 by omega]
      simp only [pieceL, if_neg ht]
theorem piece_step (hP : okP n r v z h) (ht : 0 ≤ t ∧ t < h) : pieceL n r v z h (h - t).toNat t = [.i t, .i (toP n r v z h t), .b (pvAt n r v z h t).c] :: pieceL n r v z h (h - toP n r v z h t).toNat (toP n r v z h t) := by
  obtain ⟨g1, g2⟩ := to_gt hP ht
  obtain ⟨e, he⟩ : ∃ e, (h - t).toNat = e + 1 := ⟨(h - t).toNat - 1, by omega⟩
  rw [he]
  simp only [pieceL, if_pos ht.2]
  rw [piece_fuel hP e _ (by omega) (by omega)]
theorem piece_len (n : Int) (r v : List (List D)) (z : List D) (h : Int) : ∀ (f : Nat) (t : Int), (pieceL n r v z h f t).length ≤ f
  | 0, _ => Nat.le_refl _
  | f + 1, t => by
    simp only [pieceL]
    split
    · simp only [List.length_cons]
      have := piece_len n r v z h f (toP n r v z h t)
      omega
    · simp
end
theorem ok96_6 (q n : Nat) : LoopSimY C (n + 6) 4 96 (loopOf C.P 96 6) (some y96) q (mkLY 4 l96_6 (G96_6 q)) := by
  refine loop_ofY hC (sp := sp96) (lp := lp96 q) (sw := sw96) (Y := y96) (yOK_mk _ _ _) ⟨ok97 n, ok46 n, trivial⟩ trivial 4 [] (by kernel_rfl) rfl (by kernel_rfl) (fun k hk => by cases hk) (by kernel_rfl) (fun ds => ((ds.getD 5 default).I - (ds.getD 6 default).I).toNat) fun ds rr hh => ?_
  unfold G96_6 at hh
  split at hh
  · rename_i g t m nx v' q' i h n' r a b c v l pf pt pc
    obtain ⟨hp, hh⟩ := need_some hh
    rw [yes_iff] at hp
    obtain ⟨hP, ht, hl, hm, hv', hq', hi, hs⟩ := hp
    have hP' := hP
    obtain ⟨hN, hv, hz, hvl, h0, h1⟩ := hP'
    obtain ⟨z0, z1, z2, z3⟩ := zon_mk hz
    obtain ⟨p1, p2, p3⟩ := net_parts hN
    obtain ⟨l1, l2, -⟩ := lat_parts hN z0 (b := t.I + c.I) (by omega)
    refine ⟨by rw [fuelC]; simp; omega, ?_⟩
    rw [show roundTY C (mkTabY sp96 (lp96 q) sw96 y96 q) 96 (loopOf C.P 96 6) 4 l96_6 [g, t, m, nx, v', q', i, h, n', r, a, b, c, v, l, pf, pt, pc] = _ from t96_6 q g t m nx v' q' i h n' r a b c v l pf pt pc]
    obtain ⟨k, hk⟩ : ∃ k : Nat, i.I = k := ⟨i.I.toNat, by omega⟩
    have hn : (n'.I.toNat : Int) = n'.I := by omega
    simp only [hk, hm, hn, hv', hq', hl, Int.toNat_natCast, Nat.reduceAdd, ix_def] at hh hi ⊢
    refine rd_if (fun hlt => ?_) fun hge => ?_
    · have hkl : k < v.L.length := by omega
      have hx := veh_of hv hkl
      obtain ⟨x0, x1, x2, x3⟩ := veh_parts hx
      have hst := pv_step hN hx hz ht h1 hs
      rw [show v.L.length - k = (v.L.length - (k + 1)) + 1 by omega] at hh
      simp only [runV] at hh
      have hmu : ((v.L.length : Int) - ((k + 1 : Nat) : Int)).toNat < (q'.I - i.I).toNat := by omega
      have hnext : ∀ s' : Pv, stV n'.I r.L (mk3 a b c) t.I (v.L.getD k []) (pvOf pc pt nx) = s' → (G96_6 q [.l g.L, .i t.I, .i n'.I, .i s'.nx, .l v.L, .i v.L.length, .i ((k + 1 : Nat) : Int), .i h.I, .i n'.I, .l r.L, .i a.I, .i b.I, .i c.I, .l v.L, .l (latF n'.I r.L a.I (t.I + c.I)), .i pf.I, .i s'.to, .b s'.c]).run = some rr := fun s' e => by
        rw [e] at hh hst
        exact (need_yes ⟨hP, ht, rfl, rfl, rfl, rfl, by simp only [I_i, L_l]; omega, hst⟩).trans hh
      have hlu : ix ((latF n'.I r.L a.I (t.I + c.I)).getD (ix (v.L.getD k []) 0).toNat []) 0 = latU n'.I r.L (mk3 a b c) t.I (ix (v.L.getD k []) 0) := rfl
      have hbe : ix ((arrF n'.I r.L (ix (v.L.getD k []) 0) t.I).getD a.I.toNat []) 0 = bestF n'.I r.L (ix (v.L.getD k []) 0) t.I (ix (mk3 a b c) 0) := rfl
      have l2' := l2 (ix (v.L.getD k []) 0).toNat
      have hal := (arr_ok hN (v := ix (v.L.getD k []) 0) (t := t.I) x0 (by omega)).1.1
      have hb2 := best_le hN (a := ix (v.L.getD k []) 0) (to := ix (mk3 a b c) 0) (t := t.I) x0 (by omega)
      have hz2 : ix (mk3 a b c) 2 = c.I := rfl
      have hab : ableB (v.L.getD k []) (mk3 a b c) = (andI (ix (v.L.getD k []) 1) b.I == b.I) := rfl
      rw [show rg (latF n'.I r.L a.I (t.I + c.I)) (ix (v.L.getD k []) 0).toNat = latU n'.I r.L (mk3 a b c) t.I (ix (v.L.getD k []) 0) from rfl] at l2'
      simp only [hlu, hbe]
      unfold stV at hnext
      rw [wrap_succ (by omega)]
      refine rd_dec (by omega) (rd_ite (fun c1 => ?_) fun c1 => ?_)
      · have c1 : (andI (ix (v.L.getD k []) 1) b.I == b.I) = false := beq_false_of_ne (bne_iff_ne.1 c1)
        exact rd_again (hnext (pvOf pc pt nx) (by rw [hab, c1, if_pos (.inl rfl)])) hmu
      · have c1 : (andI (ix (v.L.getD k []) 1) b.I == b.I) = true := by
          cases hx : (andI (ix (v.L.getD k []) 1) b.I == b.I) with
          | true => rfl
          | false =>
            have hx : andI (ix (v.L.getD k []) 1) b.I ≠ b.I := ne_of_beq_false hx
            have : (andI (ix (v.L.getD k []) 1) b.I != b.I) = true := bne_iff_ne.2 hx
            exact absurd (this.symm.trans c1) (by simp)
        rw [hab, c1] at hnext
        refine rd_if (fun c2 => rd_again (hnext (pvOf pc pt nx) (by rw [if_pos (.inr (by omega))])) hmu) fun c2 => ?_
        have c2' : ¬ (true = false ∨ ix (v.L.getD k []) 3 ≤ t.I) := fun h => h.elim (fun h => by cases h) fun h => c2 h
        refine rd_if (fun c3 => rd_again (hnext ⟨pc.B, pt.I, mn nx.I (ix (v.L.getD k []) 2)⟩ (by rw [if_neg c2', if_pos c3]; rfl)) hmu) fun c3 => ?_
        refine rd_dec (by omega) (rd_dec (by omega) (rd_if (fun c4 => ?_) fun c4 => ?_))
        · rw [wrap_id (x := latU n'.I r.L (mk3 a b c) t.I (ix (v.L.getD k []) 0) + 1) (by omega) (by omega)]
          exact rd_dec (by omega) (rd_dec (by omega) (rd_again (hnext ⟨true, mx pt.I (mn (latU n'.I r.L (mk3 a b c) t.I (ix (v.L.getD k []) 0) + 1) (ix (v.L.getD k []) 3)), nx.I⟩ (by rw [if_neg c2', if_neg c3, if_pos (by omega)]; rfl)) hmu))
        · refine rd_yes ⟨by omega, by omega, x0.1, x0.2, (search_ends hN x0 (by omega) (by omega)).1⟩ (rd_dec (by omega) (rd_dec (by unfold bestF at hb2; omega) (rd_if (fun c5 => ?_) fun c5 => ?_)))
          · rw [wrap_id (x := bestF n'.I r.L (ix (v.L.getD k []) 0) t.I (ix (mk3 a b c) 0) - c.I) (by omega) (by omega), wrap_id (x := t.I + 1) (by omega) (by omega)]
            exact rd_again (hnext ⟨pc.B, pt.I, mn nx.I (mx (t.I + 1) (bestF n'.I r.L (ix (v.L.getD k []) 0) t.I (ix (mk3 a b c) 0) - c.I))⟩ (by rw [if_neg c2', if_neg c3, if_neg (by omega), if_pos (by omega)]; rfl)) hmu
          · exact rd_again (hnext (pvOf pc pt nx) (by rw [if_neg c2', if_neg c3, if_neg (by omega), if_neg (by omega)])) hmu
    · rw [show v.L.length - k = 0 by omega] at hh
      exact rd_out hh
  · cases hh
theorem ok96_1 (q n : Nat) : LoopSimY C (n + 6) 4 96 (loopOf C.P 96 1) (some y96) q (mkLY 4 l96_1 (G96_1 q)) := by
  refine loop_ofY hC (sp := sp96) (lp := lp96 q) (sw := sw96) (Y := y96) (yOK_mk _ _ _) ⟨ok97 n, ok46 n, trivial⟩ trivial 4 [6] (by kernel_rfl) (by kernel_rfl) (by kernel_rfl) (fun k hk L hL => by simp at hk; subst hk; cases hL; exact ok96_6 q n) (by kernel_rfl) (fun ds => ((ds.getD 2 default).I - (ds.getD 1 default).I).toNat) fun ds rr hh => ?_
  unfold G96_1 at hh
  split at hh
  · rename_i g t h n' r a b c v
    obtain ⟨hp, hh⟩ := need_some hh
    rw [yes_iff] at hp
    obtain ⟨hP, ht0, ht1, hg⟩ := hp
    have hP' := hP
    obtain ⟨hN, hv, hz, hvl, h0, h1⟩ := hP'
    obtain ⟨z0, z1, z2, z3⟩ := zon_mk hz
    obtain ⟨p1, p2, p3⟩ := net_parts hN
    refine ⟨by rw [fuelC]; simp; omega, ?_⟩
    rw [show roundTY C (mkTabY sp96 (lp96 q) sw96 y96 q) 96 (loopOf C.P 96 1) 4 l96_1 [g, t, h, n', r, a, b, c, v] = _ from t96_1 q g t h n' r a b c v]
    have hq : (tab96 q).q = q := rfl
    have hn : (n'.I.toNat : Int) = n'.I := by omega
    refine rd_if (fun hlt => ?_) fun hge => ?_
    · rw [wrap_id (x := t.I + c.I) (by omega) (by omega), wrap_id (x := t.I + 1) (by omega) (by omega)]
      simp only [hn, hq, Int.toNat_zero, Nat.sub_zero]
      rw [piece_step hP ⟨ht0, hlt⟩] at hh
      obtain ⟨g1, g2⟩ := to_gt hP ⟨ht0, hlt⟩
      have hpv : runV n'.I r.L v.L (mk3 a b c) t.I 0 v.L.length (pvOf (.b false) (.i t.I) (.i h.I)) = pvAt n'.I r.L v.L (mk3 a b c) h.I t.I := rfl
      have hmk : mk3 (.i a.I) (.i b.I) (.i c.I) = mk3 a b c := rfl
      simp only [hmk, hpv]
      refine rd_yes ⟨hN, z0, by omega, by omega⟩ (rd_yes ⟨hP, ⟨ht0, hlt⟩, trivial, trivial, trivial, trivial, ⟨by omega, by omega⟩, ⟨fun e => absurd e (by simp [pvOf, B_b]), by simp only [pvOf, I_i]; omega, by simp only [pvOf, I_i]; omega, by simp only [pvOf, I_i]; omega⟩⟩ ?_)
      have hlast : ∀ (X : Int) (b' : Bool), X = toP n'.I r.L v.L (mk3 a b c) h.I t.I → b' = (pvAt n'.I r.L v.L (mk3 a b c) h.I t.I).c →
          RdOK (G96_1 q) (fun ds => ((ds.getD 2 default).I - (ds.getD 1 default).I).toNat) [g, t, h, n', r, a, b, c, v] rr (T.ite (!(!(g.L.length == q))) (T.leaf (Rd.out Ex.ret [.l (g.L ++ [[.i t.I, .i X, .b b']]), .i h.I, .i n'.I, .l r.L, .i a.I, .i b.I, .i c.I, .l v.L])) (T.leaf (Rd.again [.l (g.L ++ [[.i t.I, .i X, .b b']]), .i X, .i h.I, .i n'.I, .l r.L, .i a.I, .i b.I, .i c.I, .l v.L]))).run := fun X b' hX hb' => by
        subst hX hb'
        refine rd_ite (fun c2 => ?_) fun c2 => ?_
        · rw [Bool.not_not] at c2
          have c2 : g.L.length = q := by simpa using c2
          rw [run_ite, if_pos (by simp; omega)] at hh
          rw [show q + 1 - g.L.length = 1 by omega] at hh
          exact rd_out hh
        · rw [Bool.not_not] at c2
          have c2 : g.L.length ≠ q := by
            have : ¬ (g.L.length == q) = true := by rw [show (g.L.length == q) = false from c2]; simp
            simpa using this
          refine rd_again ((need_yes ⟨hP, by simp only [I_i]; omega, by simp only [I_i]; omega, by simp only [L_l, List.length_append, List.length_cons, List.length_nil]; omega⟩).trans ?_) (show (h.I - toP n'.I r.L v.L (mk3 a b c) h.I t.I).toNat < (h.I - t.I).toNat by omega)
          simp only [I_i, L_l, List.length_append, List.length_cons, List.length_nil, List.append_assoc, List.cons_append, List.nil_append, hmk] at hh ⊢
          rw [show q + 1 - g.L.length = (q + 1 - (g.L.length + (0 + 1))) + 1 by omega, List.take_succ_cons] at hh
          rw [show g.L.length + (0 + 1) + (pieceL n'.I r.L v.L (mk3 a b c) h.I (h.I - toP n'.I r.L v.L (mk3 a b c) h.I t.I).toNat (toP n'.I r.L v.L (mk3 a b c) h.I t.I)).length = g.L.length + ((pieceL n'.I r.L v.L (mk3 a b c) h.I (h.I - toP n'.I r.L v.L (mk3 a b c) h.I t.I).toNat (toP n'.I r.L v.L (mk3 a b c) h.I t.I)).length + 1) by omega]
          exact hh
      refine rd_not (fun c1 => ?_) fun c1 => ?_
      · exact hlast _ _ (by unfold toP; rw [c1]; rfl) rfl
      · exact hlast _ _ (by unfold toP; rw [c1]; rfl) rfl
    · rw [show (h.I - t.I).toNat = 0 by omega] at hh
      simp only [pieceL, List.length_nil, List.append_nil] at hh
      rw [run_ite] at hh
      split at hh
      · rename_i hc
        have := of_decide_eq_true hc
        omega
      · exact rd_out hh
  · cases hh
theorem ok96 (n : Nat) : IterOK C (n + 7) 96 y96 (mkFY s96 G96) := by
  refine iter_of hC (sp := sp96) (lp := lp96) (sw := sw96) (Y := y96) (yOK_mk _ _ _) ⟨ok97 n, ok46 n, trivial⟩ trivial (by kernel_rfl) [1] (by kernel_rfl) (by kernel_rfl) (by kernel_rfl) (fun q k hk L hL => by
    simp at hk; subst hk; cases hL; exact ok96_1 q n) fun ds L hh q => ?_
  unfold G96 at hh
  split at hh
  · rename_i h n' r a b c v
    obtain ⟨hp, hh⟩ := need_some hh
    rw [yes_iff] at hp
    cases hh
    have h0 := hp.2.2.2.2
    refine (congrArg T.run (t96 q h n' r a b c v)).trans ?_
    have hmk : mk3 (.i a.I) (.i b.I) (.i c.I) = mk3 a b c := rfl
    rw [Int.sub_zero]
    simp only [hmk]
    refine go_yes ⟨hp, by omega, h0.1, by simp⟩ (go_if (fun hc => ?_) fun hc => ?_)
    · simp only [List.nil_append, List.length_nil, Nat.sub_zero, run_leaf]
    · have hc : ¬ q < (pieceL n'.I r.L v.L (mk3 a b c) h.I h.I.toNat 0).length := fun h => hc (by simpa using h)
      simp only [List.nil_append, run_leaf]
      rw [List.take_of_length_le (by omega)]
  · cases hh
end Go.Proofs.Ytgmefblkmidglaa

namespace Go.Proofs.Ytgmefblkmidglaa
open Go.Lite
set_option linter.unusedVariables false
/-! ### Arrivals, sooner and later -/
section
variable {n : Int} {r : List (List D)} {a w s s' b : Int}
theorem doc_best (hN : netB n r = true) (ha : 0 ≤ a ∧ a < n) (hw : 0 ≤ w ∧ w < n) (hs : 0 ≤ s ∧ s ≤ 100000) : docA n r a s w = bestF n r a s w := ((arr_same hN ha hs).2.2 w.toNat (by omega)).symm
theorem best_d (hN : netB n r = true) (ha : 0 ≤ a ∧ a < n) (hw : 0 ≤ w ∧ w < n) (hs : 0 ≤ s ∧ s ≤ 100000) : ∃ d, Least (edR r) n.toNat a s d ∧ ((0 ≤ bestF n r a s w ∧ bestF n r a s w = d w.toNat ∧ d w.toNat < INF) ∨ (bestF n r a s w < 0 ∧ d w.toNat = INF)) := by
  obtain ⟨o1, d, hL, hd⟩ := arr_ok hN ha hs
  have h1 := hd w.toNat (by omega)
  have h2 := (o1.2 w.toNat).2
  refine ⟨d, hL, ?_⟩
  unfold bestF
  unfold cv at h1
  have hI : INF = 9223372036854775807 := rfl
  split at h1
  · right; omega
  · left; omega
theorem doc_le (hN : netB n r = true) (ha : 0 ≤ a ∧ a < n) (hw : 0 ≤ w ∧ w < n) (hs : 0 ≤ s ∧ s ≤ 100000) (hb : 0 ≤ b ∧ b ≤ 1000000) : (0 ≤ docA n r a s w ∧ docA n r a s w ≤ b) ↔ s ≤ rg (latF n r w b) a.toNat := by
  rw [doc_best hN ha hw hs]
  obtain ⟨d, hL, hd⟩ := best_d hN ha hw hs
  obtain ⟨-, -, d', hL', hd'⟩ := lat_parts hN hw hb
  have hI : INF = 9223372036854775807 := rfl
  rw [hd' a.toNat (by omega), ← least_back (n := n.toNat) (by omega) (by omega) (by omega) (by omega) hL hL']
  omega
end
theorem walk_later_le {E : Ed} {n : Nat} {H : Int} (hE : E.OK n H) {v t t' w s : Int} (h : Walk E v t w s) (ht : t ≤ t') : ∃ s', Walk E v t' w s' ∧ s ≤ s' ∧ s' ≤ max t' H + 10000 * (s - t) := by
  induction h with
  | here => exact ⟨t', .here, ht, by omega⟩
  | @step s0 j hw hj ih =>
    obtain ⟨s', h1, h2, h3⟩ := ih
    have h4 := walk_lo hE hw
    have h5 := hE.up j hj s0
    have h6 := hE.bnd j hj s'
    exact ⟨_, .step h1 hj, hE.mono j hj _ _ h2, by omega⟩
section
variable {n : Int} {r : List (List D)} {a w s s' b : Int}
theorem doc_mono (hN : netB n r = true) (ha : 0 ≤ a ∧ a < n) (hw : 0 ≤ w ∧ w < n) (hs : 0 ≤ s) (hss : s ≤ s') (hs' : s' ≤ 100000) : (bestF n r a s w < 0 ↔ bestF n r a s' w < 0) ∧ (0 ≤ bestF n r a s w → bestF n r a s w ≤ bestF n r a s' w) := by
  obtain ⟨d, hL, hd⟩ := best_d hN ha hw (s := s) (by omega)
  obtain ⟨d', hL', hd'⟩ := best_d hN ha hw (s := s') (by omega)
  have hb := (best_le hN (to := w) ha (t := s) (by omega)).2
  have hI : INF = 9223372036854775807 := rfl
  have hwn : ((w.toNat : Nat) : Int) = w := by omega
  have h1 : d w.toNat < INF → d' w.toNat < INF := fun h => by
    obtain ⟨x, h2, h3, h4⟩ := walk_later_le (edR_ok hN) (hL.2.1 w.toNat (by omega) h) hss
    have h5 := hL'.2.2 _ _ h2
    rw [Int.toNat_natCast] at h5
    omega
  have h2 : d' w.toNat < INF → d w.toNat ≤ d' w.toNat := fun h => by
    obtain ⟨x, h2, h3⟩ := walk_sooner (edR_ok hN) (hL'.2.1 w.toNat (by omega) h) hss
    have h5 := hL.2.2 _ _ h2
    rw [Int.toNat_natCast] at h5
    omega
  omega
end

/-! ### A vehicle and a zone -/
section
variable {n : Int} {r v : List (List D)} {x z : List D} {h t : Int}
theorem cov_iff (hN : netB n r = true) (hx : vehB n x = true) (hz : zonB n z = true) (ht : 0 ≤ t ∧ t ≤ 100000) :
    covB n r x z t = true ↔ (ix x 2 ≤ t ∧ t < ix x 3) ∧ ableB x z = true ∧ 0 ≤ bestF n r (ix x 0) t (ix z 0) ∧ bestF n r (ix x 0) t (ix z 0) ≤ t + ix z 2 := by
  unfold covB
  rw [Bool.and_eq_true, Bool.and_eq_true, decide_eq_true_iff, decide_eq_true_iff, doc_best hN (veh_parts hx).1 (zon_parts hz).1 ht, and_assoc]
/-- What is known of a piece that begins at t. -/
structure PvInv (n : Int) (r v : List (List D)) (z : List D) (h t : Int) (i : Nat) (s : Pv) : Prop where
  no : s.c = false → s.to = t ∧ ∀ j, j < i → covB n r (v.getD j []) z t = false
  yes : s.c = true → ∃ j, j < i ∧ ∀ u, t ≤ u → u < s.to → u < h → covB n r (v.getD j []) z u = true
  nx : ∀ j, j < i → covB n r (v.getD j []) z t = false → ∀ u, t < u → u < s.nx → u < h → covB n r (v.getD j []) z u = false
theorem inv_pv {i : Nat} {s : Pv} (hN : netB n r = true) (hv : vehs n v = true) (hz : zonB n z = true) (ht : 0 ≤ t ∧ t < h) (hh : h ≤ 100000) (hi : i < v.length) (hs : okPv t h s) (I : PvInv n r v z h t i s) : PvInv n r v z h t (i + 1) (stV n r z t (v.getD i []) s) := by
  have hx : vehB n (v.getD i []) = true := veh_of hv hi
  obtain ⟨x0, x1, x2, x3⟩ := veh_parts hx
  obtain ⟨z0, z1, z2⟩ := zon_parts hz
  have hc := fun {u : Int} (hu : 0 ≤ u ∧ u ≤ 100000) => cov_iff hN hx hz hu
  have hle := fun {u b : Int} (hu : 0 ≤ u ∧ u ≤ 100000) (hb : 0 ≤ b ∧ b ≤ 1000000) => doc_le (b := b) hN x0 z0 hu hb
  have hdb := fun {u : Int} (hu : 0 ≤ u ∧ u ≤ 100000) => doc_best hN x0 z0 hu
  have hfalse : ∀ {u : Int}, (0 ≤ u ∧ u ≤ 100000) → ¬ ((ix (v.getD i []) 2 ≤ u ∧ u < ix (v.getD i []) 3) ∧ ableB (v.getD i []) z = true ∧ 0 ≤ bestF n r (ix (v.getD i []) 0) u (ix z 0) ∧ bestF n r (ix (v.getD i []) 0) u (ix z 0) ≤ u + ix z 2) → covB n r (v.getD i []) z u = false := fun hu hn => by
    cases hcv : covB n r (v.getD i []) z _ with
    | false => rfl
    | true => exact absurd ((hc hu).1 hcv) hn
  have keep : ∀ {s' : Pv}, s'.c = s.c → s'.to = s.to → s'.nx ≤ s.nx → covB n r (v.getD i []) z t = false → (∀ u, t < u → u < s'.nx → u < h → covB n r (v.getD i []) z u = false) → PvInv n r v z h t (i + 1) s' := fun {s'} e1 e2 e3 e4 e5 => by
    refine ⟨fun hs0 => ?_, fun hs1 => ?_, fun j hj hjc u hu1 hu2 hu3 => ?_⟩
    · rw [e1] at hs0
      obtain ⟨a1, a2⟩ := I.no hs0
      refine ⟨by rw [e2]; exact a1, fun j hj => ?_⟩
      by_cases e : j = i
      · rw [e]; exact e4
      · exact a2 j (by omega)
    · rw [e1] at hs1
      obtain ⟨j, a1, a2⟩ := I.yes hs1
      exact ⟨j, by omega, fun u u1 u2 u3 => a2 u u1 (by omega) u3⟩
    · by_cases e : j = i
      · rw [e]; exact e5 u hu1 hu2 hu3
      · exact I.nx j (by omega) hjc u hu1 (by omega) hu3
  unfold stV
  split
  · rename_i c1
    exact keep rfl rfl (Int.le_refl _) (hfalse (by omega) fun hn => c1.elim (fun h => by rw [h] at hn; exact absurd hn.2.1 (by simp)) fun h => by omega) fun u u1 u2 u3 => hfalse (by omega) fun hn => c1.elim (fun h => by rw [h] at hn; exact absurd hn.2.1 (by simp)) fun h => by omega
  · rename_i c1
    have c1a : ableB (v.getD i []) z = true := by
      cases ha : ableB (v.getD i []) z with
      | true => rfl
      | false => exact absurd (.inl ha) c1
    have c1b : t < ix (v.getD i []) 3 := by
      rcases Int.lt_or_le t (ix (v.getD i []) 3) with h | h
      · exact h
      · exact absurd (.inr h) c1
    split
    · rename_i c2
      have m := mn_parts s.nx (ix (v.getD i []) 2)
      exact keep rfl rfl (by simp only; omega) (hfalse (by omega) fun hn => by omega) fun u u1 u2 u3 => hfalse (by omega) fun hn => by simp only at u2; omega
    · rename_i c2
      split
      · rename_i c3
        have m1 := mn_parts (latU n r z t (ix (v.getD i []) 0) + 1) (ix (v.getD i []) 3)
        have m2 := mx_parts s.to (mn (latU n r z t (ix (v.getD i []) 0) + 1) (ix (v.getD i []) 3))
        have hcov : ∀ u, t ≤ u → u < mn (latU n r z t (ix (v.getD i []) 0) + 1) (ix (v.getD i []) 3) → u < h → covB n r (v.getD i []) z u = true := fun u u1 u2 u3 => by
          have h1 : u ≤ rg (latF n r (ix z 0) (t + ix z 2)) (ix (v.getD i []) 0).toNat := by
            have : latU n r z t (ix (v.getD i []) 0) = rg (latF n r (ix z 0) (t + ix z 2)) (ix (v.getD i []) 0).toNat := rfl
            omega
          have h2 := (hle (u := u) (b := t + ix z 2) (by omega) (by omega)).2 h1
          rw [hdb (by omega)] at h2
          exact (hc (by omega)).2 ⟨by omega, c1a, by omega, by omega⟩
        refine ⟨(fun h => by cases h), fun _ => ?_, fun j hj hjc u hu1 hu2 hu3 => ?_⟩
        · rcases m2.2 with e | e
          · cases hsc : s.c with
            | true =>
              obtain ⟨j, a1, a2⟩ := I.yes hsc
              exact ⟨j, by omega, fun u u1 u2 u3 => a2 u u1 (by simp only at u2; omega) u3⟩
            | false =>
              have := (I.no hsc).1
              exact ⟨i, by omega, fun u u1 u2 u3 => hcov u u1 (by simp only at u2; omega) u3⟩
          · exact ⟨i, by omega, fun u u1 u2 u3 => hcov u u1 (by simp only at u2; omega) u3⟩
        · by_cases e : j = i
          · rw [e, hcov t (Int.le_refl _) (by omega) (by omega)] at hjc
            cases hjc
          · exact I.nx j (by omega) hjc u hu1 hu2 hu3
      · rename_i c3
        have hnot : covB n r (v.getD i []) z t = false := hfalse (by omega) fun hn => by
          have h1 := (hle (u := t) (b := t + ix z 2) (by omega) (by omega)).1 (by rw [hdb (by omega)]; exact hn.2.2)
          exact c3 h1
        split
        · rename_i c4
          have m1 := mx_parts (t + 1) (bestF n r (ix (v.getD i []) 0) t (ix z 0) - ix z 2)
          have m2 := mn_parts s.nx (mx (t + 1) (bestF n r (ix (v.getD i []) 0) t (ix z 0) - ix z 2))
          refine keep rfl rfl (by simp only; omega) hnot fun u u1 u2 u3 => hfalse (by omega) fun hn => ?_
          simp only at u2
          have := (doc_mono hN x0 z0 ht.1 (by omega : t ≤ u) (by omega)).2 c4
          omega
        · rename_i c4
          refine keep rfl rfl (Int.le_refl _) hnot fun u u1 u2 u3 => hfalse (by omega) fun hn => ?_
          have := (doc_mono hN x0 z0 ht.1 (by omega : t ≤ u) (by omega)).1.1 (by omega)
          omega
theorem inv_run (hN : netB n r = true) (hv : vehs n v = true) (hz : zonB n z = true) (ht : 0 ≤ t ∧ t < h) (hh : h ≤ 100000) : ∀ (k i : Nat) (s : Pv), i + k ≤ v.length → okPv t h s → PvInv n r v z h t i s → PvInv n r v z h t (i + k) (runV n r v z t i k s)
  | 0, _, _, _, _, I => I
  | k + 1, i, s, hi, hs, I => by
    have := inv_run hN hv hz ht hh k (i + 1) _ (by omega) (pv_step hN (veh_of hv (by omega : i < v.length)) hz ht hh hs) (inv_pv hN hv hz ht hh (by omega) hs I)
    rw [show i + (k + 1) = i + 1 + k by omega]
    exact this
theorem secs_iff {u : Int} : secsF n r v z u = true ↔ ∃ j, j < v.length ∧ covB n r (v.getD j []) z u = true := by
  unfold secsF anyC
  rw [Bool.not_eq_true', allFrom_false]
  constructor
  · rintro ⟨j, -, h1, h2⟩
    exact ⟨j, by omega, by simpa using h2⟩
  · rintro ⟨j, h1, h2⟩
    exact ⟨j, Nat.zero_le _, by omega, by rw [h2]; rfl⟩
theorem piece_hom (hP : okP n r v z h) (ht : 0 ≤ t ∧ t < h) : ∀ u, t ≤ u → u < toP n r v z h t → secsF n r v z u = (pvAt n r v z h t).c := by
  obtain ⟨g1, g2⟩ := to_gt hP ht
  have hP' := hP
  obtain ⟨hN, hv, hz, -, h0, h1⟩ := hP'
  obtain ⟨s1, s2, s3, s4⟩ := pv_at hP ht
  have hI := inv_run hN hv hz ht h1 v.length 0 ⟨false, t, h⟩ (by omega) ⟨fun e => absurd e (by simp), ⟨Int.le_refl _, by simp only; omega⟩, by simp only; omega, Int.le_refl _⟩ ⟨fun _ => ⟨rfl, fun j hj => by omega⟩, (fun e => by cases e), fun j hj => by omega⟩
  rw [Nat.zero_add] at hI
  have hI : PvInv n r v z h t v.length (pvAt n r v z h t) := hI
  intro u u1 u2
  unfold toP at u2 g2
  have m1 := mn_parts (if (pvAt n r v z h t).c then (pvAt n r v z h t).to else mx (t + 1) (pvAt n r v z h t).nx) h
  have m2 := mx_parts (t + 1) (pvAt n r v z h t).nx
  cases hc : (pvAt n r v z h t).c with
  | true =>
    rw [hc] at m1 u2
    simp only [if_true] at m1 u2
    obtain ⟨j, a1, a2⟩ := hI.yes hc
    exact secs_iff.2 ⟨j, a1, a2 u u1 (by omega) (by omega)⟩
  | false =>
    rw [hc] at m1 u2
    simp only [Bool.false_eq_true, if_false] at m1 u2
    obtain ⟨-, a2⟩ := hI.no hc
    cases hs : secsF n r v z u with
    | false => rfl
    | true =>
      obtain ⟨j, b1, b2⟩ := secs_iff.1 hs
      by_cases e : u = t
      · rw [e, a2 j b1] at b2; cases b2
      · rw [hI.nx j b1 (a2 j b1) u (by omega) (by omega) (by omega)] at b2; cases b2
end

/-! ### Gaps, piece by piece -/
theorem getD_setTo (g : List (List D)) (x : Int) (hg : 0 < g.length) : (setTo g x).getD (g.length - 1) [] = [(g.getD (g.length - 1) []).getD 0 default, (g.getD (g.length - 1) []).getD 1 default, .i x] := by
  unfold setTo
  rw [List.getD_eq_getElem?_getD, List.getElem?_set_self (by omega)]
  rfl
theorem setTo_setTo (g : List (List D)) (x y : Int) (hg : 0 < g.length) : setTo (setTo g x) y = setTo g y := by
  have e : setTo (setTo g x) y = (setTo g x).set (g.length - 1) [((setTo g x).getD (g.length - 1) []).getD 0 default, ((setTo g x).getD (g.length - 1) []).getD 1 default, .i y] := by
    unfold setTo
    simp only [List.length_set]
  rw [e, getD_setTo _ _ hg]
  unfold setTo
  rw [List.set_set]
  rfl
theorem setTo_app (g : List (List D)) (a b c : D) (y : Int) : setTo (g ++ [[a, b, c]]) y = g ++ [[a, b, .i y]] := by
  unfold setTo
  simp only [List.length_append, List.length_cons, List.length_nil, Nat.zero_add, Nat.add_sub_cancel]
  rw [get_last, set_last]
  rfl
theorem ref_split (p : Int → Bool) (i : Int) : ∀ (k l : Nat) (t : Int) (s : List (List D) × Bool), refT p i (k + l) t s = refT p i l (t + k) (refT p i k t s)
  | 0, l, t, s => by simp [refT]
  | k + 1, l, t, s => by
    rw [show k + 1 + l = (k + l) + 1 by omega]
    simp only [refT]
    rw [ref_split p i k l, show t + 1 + (k : Int) = t + ((k + 1 : Nat) : Int) by omega]
theorem ref_open (p : Int → Bool) (i : Int) : ∀ (k : Nat) (t : Int) (g : List (List D)), 0 < g.length → (∀ u, t ≤ u → u < t + k → p u = false) → 0 < k → refT p i k t (g, true) = (setTo g (t + k), true)
  | 1, t, g, hg, hp, _ => by
    simp only [refT, gapT]
    rw [hp t (Int.le_refl _) (by omega)]
    rfl
  | k + 2, t, g, hg, hp, _ => by
    rw [refT]
    have e : gapT i t (p t) (g, true) = (setTo g (t + 1), true) := by
      unfold gapT
      rw [hp t (Int.le_refl _) (by omega)]
      rfl
    rw [e, ref_open p i (k + 1) (t + 1) _ (by rw [setTo_len]; exact hg) (fun u u1 u2 => hp u (by omega) (by omega)) (by omega), setTo_setTo _ _ _ hg, show t + 1 + ((k + 1 : Nat) : Int) = t + ((k + 2 : Nat) : Int) by omega]
theorem ref_cov (p : Int → Bool) (i : Int) : ∀ (k : Nat) (t : Int) (s : List (List D) × Bool), (∀ u, t ≤ u → u < t + k → p u = true) → 0 < k → refT p i k t s = (s.1, false)
  | 1, t, s, hp, _ => by
    simp only [refT, gapT]
    rw [hp t (Int.le_refl _) (by omega)]
    rfl
  | k + 2, t, s, hp, _ => by
    rw [refT]
    have e : gapT i t (p t) s = (s.1, false) := by
      unfold gapT
      rw [hp t (Int.le_refl _) (by omega)]
      rfl
    rw [e, ref_cov p i (k + 1) (t + 1) _ (fun u u1 u2 => hp u (by omega) (by omega)) (by omega)]
/-- A piece is as good as its seconds. -/
theorem ref_piece (p : Int → Bool) (i : Int) (c : Bool) (k : Nat) (t : Int) (s : List (List D) × Bool) (hk : 0 < k) (hs : s.2 = true → 0 < s.1.length) (hp : ∀ u, t ≤ u → u < t + k → p u = c) : refT p i k t s = gapP i [.i t, .i (t + k), .b c] s := by
  obtain ⟨g, o⟩ := s
  cases c with
  | true =>
    rw [ref_cov p i k t _ hp hk]
    rfl
  | false =>
    cases o with
    | true =>
      rw [ref_open p i k t g (hs rfl) hp hk]
      rfl
    | false =>
      match k, hk with
      | 1, _ =>
        simp only [refT, gapT]
        rw [hp t (Int.le_refl _) (by omega)]
        rfl
      | k + 2, _ =>
        rw [refT]
        have e : gapT i t (p t) (g, false) = (g ++ [[.i i, .i t, .i (t + 1)]], true) := by
          unfold gapT
          rw [hp t (Int.le_refl _) (by omega)]
          rfl
        rw [e, ref_open p i (k + 1) (t + 1) _ (by simp) (fun u u1 u2 => hp u (by omega) (by omega)) (by omega), setTo_app, show t + 1 + ((k + 1 : Nat) : Int) = t + ((k + 2 : Nat) : Int) by omega]
        rfl
theorem gapP_open (i : Int) (e : List D) (s : List (List D) × Bool) (hs : s.2 = true → 0 < s.1.length) : (gapP i e s).2 = true → 0 < (gapP i e s).1.length := by
  unfold gapP
  split
  · intro h; cases h
  · split
    · rename_i h2
      intro _
      simp only [setTo_len]
      exact hs h2
    · intro _
      simp
/-- A zone's gaps. -/
theorem gaps_zone {n : Int} {r v : List (List D)} {z : List D} {h : Int} (i : Int) (hP : okP n r v z h) : ∀ (f : Nat) (t : Int) (s : List (List D) × Bool), 0 ≤ t → t ≤ h → (h - t).toNat ≤ f → (s.2 = true → 0 < s.1.length) → gapsF i (pieceL n r v z h f t) s = refT (secsF n r v z) i (h - t).toNat t s
  | 0, t, s, h0, h1, hf, _ => by
    rw [show (h - t).toNat = 0 by omega]
    rfl
  | f + 1, t, s, h0, h1, hf, hs => by
    by_cases ht : t < h
    · obtain ⟨g1, g2⟩ := to_gt hP ⟨h0, ht⟩
      simp only [pieceL, if_pos ht, gapsF]
      rw [show (h - t).toNat = (toP n r v z h t - t).toNat + (h - toP n r v z h t).toNat by omega, ref_split, show t + ((toP n r v z h t - t).toNat : Int) = toP n r v z h t by omega,
        ref_piece (secsF n r v z) i (pvAt n r v z h t).c (toP n r v z h t - t).toNat t s (by omega) hs (fun u u1 u2 => piece_hom hP ⟨h0, ht⟩ u u1 (by omega)), show t + ((toP n r v z h t - t).toNat : Int) = toP n r v z h t by omega]
      exact gaps_zone i hP f _ _ (by omega) g2 (by omega) (gapP_open i _ s hs)
    · simp only [pieceL, if_neg ht, gapsF]
      rw [show (h - t).toNat = 0 by omega]
      rfl
theorem zon_same (n : Int) (r : List (List D)) (x z : List D) (t : Int) : covB n r x (mk3 (.i (ix z 0)) (.i (ix z 1)) (.i (ix z 2))) t = covB n r x z t := rfl
theorem secs_same (n : Int) (r v : List (List D)) (z : List D) : secsF n r v (mk3 (.i (ix z 0)) (.i (ix z 1)) (.i (ix z 2))) = secsF n r v z := rfl
/-- The program's gaps are the document's. -/
theorem gaps_same {n : Int} {r v z : List (List D)} {h : Int} (hG : okG n r v z h) : ∀ (k i : Nat) (g : List (List D)), i + k ≤ z.length → gapsZ n r v z h i k g = refZ n r v z h i k g
  | 0, _, _, _ => rfl
  | k + 1, i, g, hi => by
    have hG' := hG
    obtain ⟨hN, hv, hz, hvl, hzl, hh0, hh1⟩ := hG'
    simp only [gapsZ, refZ]
    rw [gaps_zone i (h := h) (z := mk3 (.i (ix (z.getD i []) 0)) (.i (ix (z.getD i []) 1)) (.i (ix (z.getD i []) 2))) ⟨hN, hv, zon_of hz (by omega : i < z.length), hvl, hh0, hh1⟩ h.toNat 0 (g, false) (Int.le_refl _) hh0 (by omega) (fun e => by cases e), secs_same, Int.sub_zero]
    exact gaps_same hG k (i + 1) _ (by omega)
end Go.Proofs.Ytgmefblkmidglaa

namespace Go.Proofs.Ytgmefblkmidglaa
open Go.Lite
set_option maxRecDepth 100000
set_option linter.unusedVariables false
theorem ok81 (n : Nat) : FnOKW C (n + 1) 81 (mkFW s81 G81) := by
  refine fn_ofW hC (sp := sp81) (lp := lp81) (sw := sw81) trivial trivial (by kernel_rfl) [] (by kernel_rfl) rfl (fun k hk => by cases hk) fun ds r h => ?_
  unfold G81 at h
  split at h
  · rename_i m r v a b c t
    exact (congrArg T.run (t81 m r v a b c t)).trans h
  · cases h
theorem gapP_len (i : Int) (e : List D) (s : List (List D) × Bool) : s.1.length ≤ (gapP i e s).1.length ∧ (gapP i e s).1.length ≤ s.1.length + 1 := by
  unfold gapP
  split
  · exact ⟨Nat.le_refl _, Nat.le_succ _⟩
  · split
    · simp only [setTo_len]; omega
    · simp only [List.length_append, List.length_cons, List.length_nil]; omega
theorem gapsF_len (i : Int) : ∀ (L : List (List D)) (s : List (List D) × Bool), s.1.length ≤ (gapsF i L s).1.length ∧ (gapsF i L s).1.length ≤ s.1.length + L.length
  | [], s => ⟨Nat.le_refl _, Nat.le_refl _⟩
  | e :: es, s => by
    have h1 := gapsF_len i es (gapP i e s)
    have h2 := gapP_len i e s
    simp only [gapsF, List.length_cons]
    omega
theorem head96 (e : List D) : y96.head e = y96.head [e.getD 0 default, e.getD 1 default, e.getD 2 default] := by
  match e with
  | [] => rfl
  | [_] => rfl
  | [_, _] => rfl
  | _ :: _ :: _ :: _ => rfl
noncomputable def R53 (ds el : List D) : Option (Rd × List D) := (roundRT C tab53 53 (rangeOf C.P 53 10) 0 ((headA h53_10 ds).h.length + (y96.head el).2.length) [1, 3, 4, 8, 9, 10, 12, 14, 15, 16, 25] h53_10 y96 ds el).run
theorem R53_eq {j : D} {n : Int} (r : List D) (e : List D) (h : j.I = n) : R53 (j :: r) e = R53 (.i n :: r) [e.getD 0 default, e.getD 1 default, e.getD 2 default] := by
  unfold R53 roundRT
  rw [headA_head r h (by decide), head96 e]
theorem fold53 (L : List (List D)) : ∀ (ds : List D) (rr : Ex × List D), (G53_10 L ds).run = some rr → FoldR R53 y96.give (fun a b => headA h53_10 a = headA h53_10 b) ds L rr.1 rr.2 := by
  have hby : Try.prog.types[57].bytes = 24 := by kernel_rfl
  induction L with
  | nil =>
    intro ds rr hh
    unfold G53_10 at hh
    split at hh
    · rename_i j v h z q i n r i' o
      obtain ⟨hp, hh⟩ := need_some hh
      rw [yes_iff] at hp
      cases hh
      refine .nil ?_
      rw [headA_head _ hp.1 (by decide)]
      rw [show headA h53_10 [.i 0, v, h, z, q, i, n, r, i', o] = headA h53_10 [.i 0, .l v.L, .i h.I, .l z.L, .i q.I, .i i.I, .i n.I, .l r.L, .i i'.I, .b o.B] from rfl, hp.2.1]
    · rename_i j v h z q i n r m i' o g
      obtain ⟨hp, hh⟩ := need_some hh
      rw [yes_iff] at hp
      cases hh
      refine .nil ?_
      rw [headA_head _ hp.1 (by decide)]
      rw [show headA h53_10 [.i 1, v, h, z, q, i, n, r, m, i', o, g] = headA h53_10 [.i 1, .l v.L, .i h.I, .l z.L, .i q.I, .i i.I, .i n.I, .l r.L, .i m.I, .i i'.I, .b o.B, .l g.L] from rfl, hp.2.1]
      rfl
    · cases hh
  | cons e es ih =>
    intro ds rr hh
    unfold G53_10 at hh
    split at hh
    · rename_i j v h z q i n r i' o
      obtain ⟨hp, hh⟩ := need_some hh
      rw [yes_iff] at hp
      obtain ⟨hj, ho, hl⟩ := hp
      simp only [List.length_cons] at hl
      simp only [gapsF] at hh
      have key : ∃ ds', R53 [.i 0, v, h, z, q, i, n, r, i', o] [e.getD 0 default, e.getD 1 default, e.getD 2 default] = some (.again ds', []) ∧ (G53_10 es ds').run = some rr := by
        rw [show R53 [.i 0, v, h, z, q, i, n, r, i', o] [e.getD 0 default, e.getD 1 default, e.getD 2 default] = _ from congrArg T.run (t53_r10_0 v h z q i n r i' o (e.getD 0 default) (e.getD 1 default) (e.getD 2 default))]
        cases hc : (e.getD 2 default).B with
        | true =>
          have hg : gapP i'.I e ([], false) = ([], false) := by
            have : bx e 2 = true := hc
            unfold gapP
            rw [this]; rfl
          rw [hg] at hh
          exact ⟨_, rfl, (need_yes ⟨rfl, rfl, by omega⟩).trans hh⟩
        | false =>
          have hg : gapP i'.I e ([], false) = ([[.i i'.I, .i (ix e 0), .i (ix e 1)]], true) := by
            have : bx e 2 = false := hc
            unfold gapP
            rw [this]; rfl
          rw [hg] at hh
          have hne := (gapsF_len i'.I es ([[.i i'.I, .i (ix e 0), .i (ix e 1)]], true)).1
          rw [empty_false (Nat.lt_of_lt_of_le (by simp) hne)] at hh
          refine ⟨_, go_false rfl (go_false ho (go_need rfl (go_false rfl (go_need rfl rfl)))), (need_yes ⟨rfl, rfl, by simp only [L_l]; exact Nat.zero_lt_one, by omega, by simp only [I_i]; omega⟩).trans hh⟩
      obtain ⟨ds', k1, k2⟩ := key
      refine .again (x' := []) (ds' := ds') ?_ (fun h => by cases h) (ih _ _ k2)
      rw [R53_eq _ e hj]
      exact k1
    · rename_i j v h z q i n r m i' o g
      obtain ⟨hp, hh⟩ := need_some hh
      rw [yes_iff] at hp
      obtain ⟨hj, hm, hg0, hl, hml⟩ := hp
      simp only [List.length_cons] at hl hml
      simp only [gapsF] at hh
      have hnext : ∀ (x : List (List D)) (b : Bool), gapP i'.I e (g.L, o.B) = (x, b) → (G53_10 es [.i 1, .l v.L, .i h.I, .l z.L, .i q.I, .i i.I, .i n.I, .l r.L, .i x.length, .i i'.I, .b b, .l x]).run = some rr := fun x b hx => by
        have h1 := gapP_len i'.I e (g.L, o.B)
        rw [hx] at hh h1
        simp only at h1
        exact (need_yes ⟨rfl, rfl, by simp only [L_l]; omega, by omega, by simp only [I_i]; omega⟩).trans hh
      have key : ∃ ds', R53 [.i 1, v, h, z, q, i, n, r, m, i', o, g] [e.getD 0 default, e.getD 1 default, e.getD 2 default] = some (.again ds', []) ∧ (G53_10 es ds').run = some rr := by
        rw [show R53 [.i 1, v, h, z, q, i, n, r, m, i', o, g] [e.getD 0 default, e.getD 1 default, e.getD 2 default] = _ from congrArg T.run (t53_r10_1 v h z q i n r m i' o g (e.getD 0 default) (e.getD 1 default) (e.getD 2 default))]
        simp only [hm, Int.toNat_natCast, upd3']
        cases hc : (e.getD 2 default).B with
        | true =>
          have hb : bx e 2 = true := hc
          exact ⟨_, rfl, hnext g.L false (by unfold gapP; rw [hb]; rfl)⟩
        | false =>
          have hb : bx e 2 = false := hc
          cases ho : o.B with
          | true =>
            have hw : IntKind.i64.wrap ((g.L.length : Int) - 1) = (g.L.length : Int) - 1 := wrap_pred (by omega)
            have := hnext (setTo g.L (ix e 1)) true (by unfold gapP; rw [hb, ho]; rfl)
            rw [setTo_len] at this
            simp only [hw, toNat_pred]
            exact ⟨_, go_false rfl (go_true rfl (go_dec (by omega) (go_dec (by omega) rfl))), this⟩
          | false =>
            have := hnext (g.L ++ [[.i i'.I, .i (ix e 0), .i (ix e 1)]]) true (by unfold gapP; rw [hb, ho]; rfl)
            simp only [List.length_append, List.length_cons, List.length_nil, Nat.zero_add] at this
            simp only [List.take_length]
            simp only [List.length_cons, List.length_nil, Nat.zero_add]
            exact ⟨_, go_false rfl (go_false rfl (go_need rfl (go_false rfl (go_dec (by rw [hby]; omega) rfl)))), this⟩
      obtain ⟨ds', k1, k2⟩ := key
      refine .again (x' := []) (ds' := ds') ?_ (fun h => by cases h) (ih _ _ k2)
      rw [R53_eq _ e hj]
      exact k1
    · cases hh
theorem ok53_10 (n : Nat) : CodeSim C (n + 7) 0 53 (rangeOf C.P 53 10).code none 0 (rangeS 0 [1, 3, 4, 8, 9, 10, 12, 14, 15, 16, 25] (rangeOf C.P 53 10).1 it53_10 h53_10 G53_10) :=
  range_of0 hC (sp := sp53) (lp := lp53) (sw := sw53) (rg := rg53) (Y := y96) (yOK_mk _ _ _) trivial ⟨ok81 (n + 6), trivial⟩ 10 0 (by exact ⟨by kernel_rfl, by kernel_rfl⟩) (by exact ⟨by kernel_rfl, by kernel_rfl⟩)
    (by kernel_rfl) (by kernel_rfl) (it := it53_10) ⟨ok96 n, trivial⟩ fun L ds rr h => fold53 L ds rr h
def mu53 : List D → Nat
  | [_, _, _, _, q, i, _, _] => (q.I - i.I).toNat
  | [_, _, _, _, q, i, _, _, _, _] => (q.I - i.I).toNat
  | _ => 0
theorem gapsZ_len (n : Int) (r v z : List (List D)) (h : Int) : ∀ (k i : Nat) (g : List (List D)), g.length ≤ (gapsZ n r v z h i k g).length
  | 0, _, g => Nat.le_refl _
  | k + 1, i, g => by
    simp only [gapsZ]
    exact Nat.le_trans (show g.length ≤ _ from (gapsF_len _ _ (g, false)).1) (gapsZ_len n r v z h k (i + 1) _)
theorem ok53_3 (n : Nat) : LoopSim C (n + 7) 53 (loopOf C.P 53 3) (mkL l53_3 G53_3) := by
  refine loop_ofR hC (sp := sp53) (lp := lp53) (sw := sw53) (rg := rg53) trivial ⟨ok81 (n + 6), trivial⟩ 0 [] [10] (by kernel_rfl) rfl (by kernel_rfl) (by kernel_rfl) (fun k hk => by cases hk)
    (fun k hk L hL => by simp at hk; subst hk; cases hL; exact ok53_10 n) (by kernel_rfl) mu53 fun ds rr hh => ?_
  unfold G53_3 at hh
  split at hh
  · rename_i j v h z q i n' r
    obtain ⟨hp, hh⟩ := need_some hh
    rw [yes_iff] at hp
    obtain ⟨hj, hG, hq, hi0, hi1⟩ := hp
    have hG' := hG
    obtain ⟨hN, hv, hz, hvl, hzl, hh0, hh1⟩ := hG'
    refine ⟨by rw [fuelC]; show (q.I - i.I).toNat < _; omega, ?_⟩
    rw [roundTK_head (j := j) (n := 0) hj (by decide), show roundTK C (mkTabR sp53 lp53 sw53 rg53) 53 (loopOf C.P 53 3) 0 l53_3 [.i 0, v, h, z, q, i, n', r] = _ from t53_3_0 v h z q i n' r]
    obtain ⟨k, hke⟩ : ∃ k : Nat, i.I = k := ⟨i.I.toNat, by omega⟩
    simp only [hke, hq, Int.toNat_natCast, Nat.reduceAdd, ix_def] at hh hi0 hi1 ⊢
    refine rd_if (fun hlt => ?_) fun hge => ?_
    · have hmu : ((z.L.length : Int) - ((k + 1 : Nat) : Int)).toNat < (q.I - i.I).toNat := by omega
      rw [wrap_succ (by omega)]
      rw [show z.L.length - k = (z.L.length - (k + 1)) + 1 by omega] at hh
      simp only [gapsZ] at hh
      have hpl := piece_len n'.I r.L v.L (mk3 (.i (ix (z.L.getD k []) 0)) (.i (ix (z.L.getD k []) 1)) (.i (ix (z.L.getD k []) 2))) h.I h.I.toNat 0
      have hl := (gapsF_len (k : Int) (pieceL n'.I r.L v.L (mk3 (.i (ix (z.L.getD k []) 0)) (.i (ix (z.L.getD k []) 1)) (.i (ix (z.L.getD k []) 2))) h.I h.I.toNat 0) ([], false)).2
      simp only [List.length_nil, Nat.zero_add] at hl
      refine rd_dec (by omega) (rd_yes ⟨hN, hv, zon_of hz (by omega : k < z.L.length), hvl, hh0, hh1⟩ (rd_yes ⟨trivial, trivial, by omega⟩ (rd_ite (fun c => ?_) fun c => ?_)))
      · rw [empty_nil c] at hh
        exact rd_again ((need_yes ⟨rfl, hG, rfl, by simp only [I_i]; omega, by simp only [I_i, L_l]; omega⟩).trans hh) hmu
      · have hpos : 0 < (gapsF (k : Int) (pieceL n'.I r.L v.L (mk3 (.i (ix (z.L.getD k []) 0)) (.i (ix (z.L.getD k []) 1)) (.i (ix (z.L.getD k []) 2))) h.I h.I.toNat 0) ([], false)).1.length := by
          rw [List.length_pos_iff]
          intro he
          rw [he] at c
          cases c
        rw [empty_false (Nat.lt_of_lt_of_le hpos (gapsZ_len n'.I r.L v.L z.L h.I _ _ _))] at hh
        exact rd_again ((need_yes ⟨rfl, hG, rfl, by simp only [I_i, L_l]; omega, rfl, hpos, by simp only [I_i]; omega⟩).trans hh) hmu
    · rw [show z.L.length - k = 0 by omega] at hh
      exact rd_out hh
  · rename_i j v h z q i n' r m g
    obtain ⟨hp, hh⟩ := need_some hh
    rw [yes_iff] at hp
    obtain ⟨hj, hG, hq, hi, hm, hg0, hmb⟩ := hp
    have hG' := hG
    obtain ⟨hN, hv, hz, hvl, hzl, hh0, hh1⟩ := hG'
    refine ⟨by rw [fuelC]; show (q.I - i.I).toNat < _; omega, ?_⟩
    rw [roundTK_head (j := j) (n := 1) hj (by decide), show roundTK C (mkTabR sp53 lp53 sw53 rg53) 53 (loopOf C.P 53 3) 0 l53_3 [.i 1, v, h, z, q, i, n', r, m, g] = _ from t53_3_1 v h z q i n' r m g]
    obtain ⟨k, hke⟩ : ∃ k : Nat, i.I = k := ⟨i.I.toNat, by omega⟩
    rw [hm] at hmb
    simp only [hke, hq, hm, Int.toNat_natCast, Nat.reduceAdd, ix_def] at hh hi hmb ⊢
    refine rd_if (fun hlt => ?_) fun hge => ?_
    · have hmu : ((z.L.length : Int) - ((k + 1 : Nat) : Int)).toNat < (q.I - i.I).toNat := by omega
      rw [wrap_succ (by omega)]
      rw [show z.L.length - k = (z.L.length - (k + 1)) + 1 by omega] at hh
      simp only [gapsZ] at hh
      have hpl := piece_len n'.I r.L v.L (mk3 (.i (ix (z.L.getD k []) 0)) (.i (ix (z.L.getD k []) 1)) (.i (ix (z.L.getD k []) 2))) h.I h.I.toNat 0
      have hl := gapsF_len (k : Int) (pieceL n'.I r.L v.L (mk3 (.i (ix (z.L.getD k []) 0)) (.i (ix (z.L.getD k []) 1)) (.i (ix (z.L.getD k []) 2))) h.I h.I.toNat 0) (g.L, false)
      simp only at hl
      refine rd_dec (by omega) (rd_yes ⟨hN, hv, zon_of hz (by omega : k < z.L.length), hvl, hh0, hh1⟩ (rd_yes ⟨rfl, trivial, hg0, by omega, by omega⟩ (rd_again ((need_yes ⟨rfl, hG, rfl, by simp only [I_i, L_l]; omega, rfl, by simp only [L_l]; omega, by simp only [I_i]; omega⟩).trans hh) hmu)))
    · rw [show z.L.length - k = 0 by omega] at hh
      exact rd_out hh
  · cases hh
theorem ok53 (n : Nat) : FnOK C (n + 8) 53 (mkF s53 G53) := by
  refine fn_ofR hC (sp := sp53) (lp := lp53) (sw := sw53) (rg := rg53) trivial ⟨ok81 (n + 6), trivial⟩ (by kernel_rfl) [3] [] (by kernel_rfl) (by kernel_rfl) (by kernel_rfl) rfl (fun k hk L hL => by
    simp at hk; subst hk; cases hL; exact ok53_3 n) (fun k hk => by cases hk) fun ds rr hh => ?_
  unfold G53 at hh
  split at hh
  · rename_i m r v z t
    obtain ⟨hp, hh⟩ := need_some hh
    rw [yes_iff] at hp
    refine (congrArg T.run (t53 m r v z t)).trans ?_
    rw [← hh]
    simp only [Int.toNat_zero, Nat.sub_zero, Int.toNat_natCast]
    exact go_yes ⟨trivial, hp, trivial, by omega, by omega⟩ rfl
  · cases hh
theorem cover_parts {n : Int} {r v : List (List D)} {most : Int} {z : List (List D)} {h : Int} (hm : most ≤ 1000) (hc : coverB n r v most z h = true) : okG n r v z h := by
  unfold coverB at hc
  rw [Bool.and_eq_true, Bool.and_eq_true, Bool.and_eq_true, decide_eq_true_iff] at hc
  exact ⟨hc.1.1.1, hc.1.2, hc.2, by omega, by omega, by omega, by omega⟩
theorem ok27 (n : Nat) : FnOK C (n + 9) 27 (mkF s27 G27) := by
  refine fn_ofS hC (sp := sp27) (lp := lp27) (sw := sw27) ⟨ok52 (n + 2), ok53 n, trivial⟩ trivial (by kernel_rfl) [] (by kernel_rfl) rfl (fun k hk => by cases hk) fun ds rr hh => ?_
  unfold G27 at hh
  split at hh
  · rename_i m r v z t
    refine (congrArg T.run (t27 m r v z t)).trans ?_
    rw [← hh]
    simp only [Int.toNat_natCast]
    refine go_yes (by omega) (go_not (fun c => by rw [c]; rfl) fun c => ?_)
    rw [c]
    exact go_yes (cover_parts (by omega) c) rfl
  · cases hh
end Go.Proofs.Ytgmefblkmidglaa
