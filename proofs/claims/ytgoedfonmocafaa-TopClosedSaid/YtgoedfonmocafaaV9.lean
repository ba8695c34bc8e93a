/-
 What the claim top_closed rests on, part 9.
-/
import Derived.Test.YtgoedfonmocafaaV8
import Derived.Test.YtgoedfonmocafaaRows
namespace Go.Proofs.Ytgoedfonmocafaa
open Go.Lite Go.ChangeShapes Go.WideShapes Go.ChangeAt Go.RowKit
theorem kids:Kids Try.prog (· < Try.prog.types.size):=kids_rows (by kernel_rfl) (by kernel_rfl)
theorem full:∀ t e,t < Try.prog.types.size → Try.prog.underlying t = some (.slice e) → 0 < Try.prog.cellsOf e:=slices_full_of Try.prog (by kernel_rfl)
set_option maxRecDepth 100000
theorem rd_runR {G:List D → T (Ex × List D)} {μ:List D → Nat} {ds:List D} {r:Ex × List D} {X Y:Option Rd} (e:X = Y) (h:RdOK G μ ds r Y):RdOK G μ ds r X:=e ▸ h
theorem ok33 (n:Nat):FnOK C (n + 7) 33 (mkF s33 G33):=fn_weak (s:=Rs.s33) (Rs.ok33 n) fun ds r h=>by
 unfold G33 at h
 split at h
 ·obtain ⟨hp,h⟩:=need_some h
  rw [yes_iff] at hp
  unfold Rs.G33
  exact go_true (by rw [hp.1,hp.2]; rfl) h
 ·cases h
theorem bytes84:Try.prog.types[84].bytes = 48:=by kernel_rfl
set_option maxRecDepth 100000
theorem rgI_def (t:List (List D)) (j:Nat):((t.getD j []).getD 0 default).I = rgI t j:=rfl
theorem detN_len (de:List (List D)) (j:Nat):(detN de j).length ≤ 2:=by unfold detN; split <;> simp
theorem cutN_len (se de cl op:List (List D)):∀ k,(cutN se de cl op k).length ≤ 3 * k
 | 0=>by simp [cutN]
 | k + 1=>by
   have h1:=cutN_len se de cl op k
   have h2:=detN_len de k
   simp only [cutN,List.length_append,List.length_cons]
   omega
def μ363 (ds:List D):Nat:=match ds with
 | [_,_,_,_,_,_,_,_,_,_,w,_,_,_,_,_,_,_]=>w.L.length + 1
 | _ :: _ :: _ :: i :: _ :: [_,_,_,_,_,w,_,_,_,_,_,_,_,_,_]=>((w.L.length:Int) - i.I).toNat
 | _=>0
theorem cutP_at {w se de cl op:List (List D)} (h:cutP w se de cl op) {k:Nat} (hk:k < w.length) :
    IntKind.i64.wrap (60 * rgI cl k) = 60 * rgI cl k ∧ IntKind.i64.wrap (60 * rgI op k) = 60 * rgI op k ∧ IntKind.i64.wrap ((k:Int) + 1) = ((k + 1:Nat):Int):=by
 obtain ⟨h1,h2,h3⟩:=h.2.2.2.2.2 k hk
 have:=h.1
 exact ⟨wrap_id (by omega) (by omega),wrap_id (by omega) (by omega),wrap_succ (by omega)⟩
set_option maxHeartbeats 1000000 in
theorem ok36_3 (n:Nat):LoopSimK C n 4 36 (loopOf C.P 36 3) (mkLK 4 l36_3 G36_3):=by
 refine loop_ofK hC (sp:=sp36) (lp:=lp36) (sw:=sw36) trivial trivial 4 [] (by kernel_rfl) rfl (fun k hk=>by cases hk) (by kernel_rfl) μ363 fun ds rr h=>?_
 unfold G36_3 at h
 split at h
 ·rename_i z se de i du cl op ch c f w lo n' n1 n2 n3 n8 n9
  obtain ⟨hp,h⟩:=need_some h
  rw [yes_iff] at hp
  obtain ⟨hz,hc,hn1,hn2,hi0⟩:=hp
  obtain ⟨⟨hw1,hw2⟩,hse,hde,hcl,hop,hall⟩:=id hc
  refine ⟨by rw [fuelC]; show w.L.length + 1 < _; omega,?_⟩
  rw [roundTK_head (j:=z) (n:=0) hz (by decide)]
  refine rd_runR (t36_3_0 se de i du cl op ch c f w lo n' n1 n2 n3 n8 n9) ?_
  obtain ⟨w1,w2,w3⟩:=cutP_at hc (k:=0) (by omega)
  have hsn1:n1.I.toNat = w.L.length:=by omega
  have hsn2:n2.I.toNat = w.L.length:=by omega
  have w3':IntKind.i64.wrap ((0:Int) + 1) = 1:=by decide
  simp only [hi0,hsn1,hsn2,Int.toNat_zero,w3',rgI_def,w1,w2] at h ⊢
  refine rd_pos (by omega) (rd_dec (by omega) (rd_dec (by omega) (rd_dec (by omega) (rd_dec (by omega) (rd_dec (by omega) (rd_dec (by omega) ?_))))))
  refine rd_if (fun hd=>?_) fun hd=>?_
  ·have hd:rgI de.L 0 > 0:=hd
   have e1:cutN se.L de.L cl.L op.L 1 = [[D.i 0,D.i 1,D.i (rgI se.L 0),D.l [[D.i (60 * rgI cl.L 0),D.i (60 * rgI op.L 0)]]],[D.i 0,D.i 1,D.i (rgI de.L 0),D.l []],[D.i 1,D.i 0,D.i (rgI de.L 0),D.l []]]:=by
    show [] ++ (roadN se.L cl.L op.L 0 :: detN de.L 0) = _
    unfold detN roadN
    rw [if_pos hd]
    rfl
   refine rd_dec (by omega) (rd_dec (by omega) ?_)
   rw [← e1]
   have e2:(3:Int) = ((cutN se.L de.L cl.L op.L 1).length:Int):=by rw [e1]; rfl
   refine rd_again ((need_yes ⟨rfl,hc,rfl,rfl,by simp only [I_i]; omega,by simp only [I_i,L_l]; omega,e2,rfl⟩).trans h) ?_
   show ((w.L.length:Int) - 1).toNat < w.L.length + 1
   omega
  ·have hd:¬ rgI de.L 0 > 0:=hd
   have e1:cutN se.L de.L cl.L op.L 1 = [[D.i 0,D.i 1,D.i (rgI se.L 0),D.l [[D.i (60 * rgI cl.L 0),D.i (60 * rgI op.L 0)]]]]:=by
    show [] ++ (roadN se.L cl.L op.L 0 :: detN de.L 0) = _
    unfold detN roadN
    rw [if_neg hd]
    rfl
   rw [← e1]
   have e2:(1:Int) = ((cutN se.L de.L cl.L op.L 1).length:Int):=by rw [e1]; rfl
   refine rd_again ((need_yes ⟨rfl,hc,rfl,rfl,by simp only [I_i]; omega,by simp only [I_i,L_l]; omega,e2,rfl⟩).trans h) ?_
   show ((w.L.length:Int) - 1).toNat < w.L.length + 1
   omega
 ·rename_i z se de i du cl op ch c f w lo n' n1 n2 n3 n8 n9 s o
  obtain ⟨hp,h⟩:=need_some h
  rw [yes_iff] at hp
  obtain ⟨hz,hc,hn1,hn2,hi0,hi1,hs,ho⟩:=hp
  obtain ⟨⟨hw1,hw2⟩,hse,hde,hcl,hop,hall⟩:=id hc
  refine ⟨by rw [fuelC]; show ((w.L.length:Int) - i.I).toNat < _; omega,?_⟩
  rw [roundTK_head (j:=z) (n:=1) hz (by decide)]
  refine rd_runR (t36_3_1 se de i du cl op ch c f w lo n' n1 n2 n3 n8 n9 s o) ?_
  obtain ⟨k,hk⟩:∃ k:Nat,i.I = k:=⟨i.I.toNat,by omega⟩
  rw [hk] at hi0 hi1 hs ho
  rw [Int.toNat_natCast] at hs ho
  have hsn1:n1.I.toNat = w.L.length:=by omega
  have hsn2:n2.I.toNat = w.L.length:=by omega
  have hol:=cutN_len se.L de.L cl.L op.L k
  have hsl:s.I.toNat = o.L.length:=by rw [ho]; omega
  rw [← ho] at hol
  have htk:o.L.take o.L.length = o.L:=List.take_length
  have w3:IntKind.i64.wrap ((k:Int) + 1) = ((k + 1:Nat):Int):=wrap_succ (by omega)
  simp only [hk,hsn1,hsn2,hsl,htk,Int.toNat_natCast,w3,rgI_def,bytes84] at h ⊢
  refine rd_if (fun hlt=>?_) fun hge=>?_
  ·have hlt:k < w.L.length:=by omega
   obtain ⟨w1,w2,-⟩:=cutP_at hc (k:=k) hlt
   simp only [w1,w2]
   refine rd_dec (by omega) (rd_dec (by omega) (rd_dec (by omega) (rd_dec (by omega) (rd_dec (by omega) (rd_dec (by omega) (rd_dec (by omega) ?_))))))
   refine rd_if (fun hd=>?_) fun hd=>?_
   ·have hd:rgI de.L k > 0:=hd
    refine rd_dec (by omega) (rd_dec (by omega) ?_)
    refine rd_dec (by simp only [List.length_append,List.length_take,List.length_cons,List.length_nil]; omega) ?_
    have e1:List.take (o.L.length + 1) (o.L ++ [[D.i (k:Int),D.i ((k + 1:Nat):Int),D.i (rgI se.L k),D.l [[D.i (60 * rgI cl.L k),D.i (60 * rgI op.L k)]]]]) ++ [[D.i (k:Int),D.i ((k + 1:Nat):Int),D.i (rgI de.L k),D.l []],[D.i ((k + 1:Nat):Int),D.i (k:Int),D.i (rgI de.L k),D.l []]] = cutN se.L de.L cl.L op.L (k + 1):=by
     rw [List.take_of_length_le (by simp),ho]
     simp only [cutN,detN,if_pos hd,roadN,List.append_assoc,List.cons_append,List.nil_append]
    have e2:=congrArg List.length e1
    have fin:(G36_3 [.i 1,.l se.L,.l de.L,.i ((k + 1:Nat):Int),.l du.L,.l cl.L,.l op.L,.l ch.L,.i c.I,.i f.I,.l w.L,.i (lo.I.toNat:Int),.i (n'.I.toNat:Int),.i (w.L.length:Int),.i (w.L.length:Int),.i (n3.I.toNat:Int),.i n8.I,.i n9.I,.i ((o.L.length + 1 + 2:Nat):Int),.l (cutN se.L de.L cl.L op.L (k + 1))]).run = some rr:=
     (need_yes ⟨rfl,hc,rfl,rfl,by simp only [I_i]; omega,by simp only [I_i,L_l]; omega,by
      simp only [I_i,Int.toNat_natCast,L_l]
      rw [← e2]
      simp only [List.length_append,List.length_take,List.length_cons,List.length_nil]
      omega,by simp only [I_i,Int.toNat_natCast,L_l]⟩).trans h
    refine rd_again ?_ ?_
    ·rw [← e1] at fin
     exact fin
    ·show ((w.L.length:Int) - ((k + 1:Nat):Int)).toNat < ((w.L.length:Int) - i.I).toNat
     omega
   ·have hd:¬ rgI de.L k > 0:=hd
    have e1:o.L ++ [[D.i (k:Int),D.i ((k + 1:Nat):Int),D.i (rgI se.L k),D.l [[D.i (60 * rgI cl.L k),D.i (60 * rgI op.L k)]]]] = cutN se.L de.L cl.L op.L (k + 1):=by
     rw [ho]
     simp only [cutN,detN,if_neg hd,roadN]
    have e2:=congrArg List.length e1
    have fin:(G36_3 [.i 1,.l se.L,.l de.L,.i ((k + 1:Nat):Int),.l du.L,.l cl.L,.l op.L,.l ch.L,.i c.I,.i f.I,.l w.L,.i (lo.I.toNat:Int),.i (n'.I.toNat:Int),.i (w.L.length:Int),.i (w.L.length:Int),.i (n3.I.toNat:Int),.i n8.I,.i n9.I,.i ((o.L.length + 1:Nat):Int),.l (cutN se.L de.L cl.L op.L (k + 1))]).run = some rr:=
     (need_yes ⟨rfl,hc,rfl,rfl,by simp only [I_i]; omega,by simp only [I_i,L_l]; omega,by
      simp only [I_i,Int.toNat_natCast,L_l]
      rw [← e2]
      simp only [List.length_append,List.length_cons,List.length_nil],by simp only [I_i,Int.toNat_natCast,L_l]⟩).trans h
    refine rd_again ?_ ?_
    ·rw [← e1] at fin
     exact fin
    ·show ((w.L.length:Int) - ((k + 1:Nat):Int)).toNat < ((w.L.length:Int) - i.I).toNat
     omega
  ·have hkl:k = w.L.length:=by omega
   rw [hkl] at ho
   rw [ho]
   exact rd_out h
 ·cases h
theorem ok36 (n:Nat):FnOKW C (n + 1) 36 (mkFW s36 G36):=by
 refine fn_ofW hC (sp:=sp36) (lp:=lp36) (sw:=sw36) trivial trivial (by kernel_rfl) [3] (by kernel_rfl) (by kernel_rfl) (fun k hk L hL=>by
  simp at hk; subst hk; cases hL; exact ok36_3 n) fun ds r h=>?_
 unfold G36 at h
 split at h
 ·rename_i c f w lo n' n1 n2 n3 se de du cl op ch
  obtain ⟨hp,h⟩:=need_some h
  rw [yes_iff] at hp
  obtain ⟨hc,hn1,hn2⟩:=hp
  refine (t36 c f w lo n' n1 n2 n3 se de du cl op ch).trans ?_
  refine go_yes ⟨rfl,hc,by omega,by omega,rfl⟩ ?_
  have hw:=hc.1
  rw [wrap_succ (k:=w.L.length) (by omega),Int.toNat_natCast]
  exact h
 ·cases h
end Go.Proofs.Ytgoedfonmocafaa
