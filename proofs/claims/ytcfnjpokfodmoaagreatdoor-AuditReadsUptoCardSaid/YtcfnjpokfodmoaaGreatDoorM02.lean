/- Lemmas for the row: SortA, SortB, SortC, SortD, SortE, SortF, SortG, SortH, OrdPlain, PackPlain. -/
import Derived.Test.YtcfnjpokfodmoaaGreatDoorM01
import Derived.BigRegion
set_option maxRecDepth 100000
set_option linter.unusedVariables false
namespace Go.Proofs.YtcfnjpokfodmoaaGreatDoor
open Go.RowKit
def Dat (w:World) (g:Nat) (xs:List Nat):Prop:=∃ cs,Bk w g 3 cs ∧ ∀ (i x:Nat),xs[i]? = some x → cs[i]? = some (.int .i64 x)
section
variable {w w':World} {g:Nat} {xs:List Nat}
theorem Dat.lt (h:Dat w g xs):g < w.heap.size:=by obtain ⟨_,h,_⟩:=h;exact h.lt
theorem Dat.cell (h:Dat w g xs) {i x:Nat} (hx:xs[i]? = some x):w.cell? ⟨g,i,none⟩ = some (.int .i64 x):=by
 obtain ⟨cs,h,hc⟩:=h;exact (h.cell i).trans (hc i x hx)
theorem Dat.free (h:Dat w g xs) (i:Nat):w.frozen? ⟨g,i,none⟩ = false:=by obtain ⟨cs,h,_⟩:=h;exact h.free i
theorem Dat.drewN (h:Dat w g xs) (n:Nat):Dat (w.drewN n) g xs:=h
theorem Dat.drew (h:Dat w g xs):Dat w.drew g xs:=h
theorem Dat.set_ (h:Dat w g xs) {i:Nat} (hi:i < xs.length) (v:Nat):Dat (w.setCell ⟨g,i,none⟩ (.int .i64 v)) g (xs.set i v):=by
 obtain ⟨cs,h,hc⟩:=h
 refine ⟨_,h.set_ i (.int .i64 v),fun j x hx => ?_⟩
 have hs:i < cs.size:=by
  have:=hc i xs[i] (by simp [hi])
  rcases Nat.lt_or_ge i cs.size with h' | h'
  · exact h'
  · rw [Array.getElem?_eq_none h'] at this;cases this
 by_cases e:i = j
 · subst e
   rw [List.getElem?_set_self hi] at hx
   simp only [Option.some.injEq] at hx
   subst hx
   simp [hs]
 · rw [List.getElem?_set_ne e] at hx
   rw [Array.getElem?_setIfInBounds_ne e]
   exact hc j x hx
end
theorem at_mid {α:Type} (L R:List α) (u:α):(L ++ u :: R)[L.length]? = some u:=by simp
theorem set_mid {α:Type} (L R:List α) (u v:α):(L ++ u :: R).set L.length v = L ++ v :: R:=by simp
theorem two_at {α:Type} (L M R:List α) (u v:α) {i j:Nat} (hi:i = L.length) (hj:j = L.length + 1 + M.length) :
 (L ++ u :: (M ++ v :: R))[i]? = some u ∧ (L ++ u :: (M ++ v :: R))[j]? = some v ∧ i < (L ++ u :: (M ++ v :: R)).length ∧ j < (L ++ u :: (M ++ v :: R)).length ∧
 ((L ++ u :: (M ++ v :: R)).set i v).set j u = L ++ v :: (M ++ u :: R):=by
 subst hi
 have e:∀ z:α,L ++ z :: (M ++ v :: R) = (L ++ z :: M) ++ v :: R:=fun z => by simp
 have hj2:∀ z:α,j = (L ++ z :: M).length:=fun z => by simp;omega
 refine ⟨at_mid _ _ _, ?_,by simp,by simp;omega, ?_⟩
 · rw [e u,hj2 u];exact at_mid _ _ _
 · rw [set_mid,e v,hj2 v,set_mid];simp
theorem Dat.swap {w:World} {g:Nat} {L M R:List Nat} {u v i j:Nat} (h:Dat w g (L ++ u :: (M ++ v :: R))) (hi:i = L.length) (hj:j = L.length + 1 + M.length) :
 Dat ((w.setCell ⟨g,i,none⟩ (.int .i64 v)).setCell ⟨g,j,none⟩ (.int .i64 u)) g (L ++ v :: (M ++ u :: R)):=by
 obtain ⟨h1,h2,h3,h4,h5⟩:=two_at L M R u v hi hj
 have:=(h.set_ h3 v).set_ (i:=j) (by rw [List.length_set];exact h4) u
 rwa [h5] at this
theorem Fr.two {w w':World} {g i j:Nat} (h:Fr (fun k => k = g) w w') (u v:Value):Fr (fun k => k = g) w ((w'.setCell ⟨g,i,none⟩ u).setCell ⟨g,j,none⟩ v):=(h.setCell (.inl rfl) _).setCell (.inl rfl) _
def DatP (g:Nat) (ys:List Nat) (w:World) (e:Ending) (w':World):Prop:=e = .returned (.tuple #[]) ∧ Dat w' g ys ∧ Fr (fun k => k = g) w w'
set_option maxHeartbeats 2000000 in
theorem swapRange_any (g c a b n L:Nat) (P U M V Q:List Nat) (F:Value) (w:World) (h:Dat w g (P ++ (U ++ (M ++ (V ++ Q))))) (hL:L = (P ++ (U ++ (M ++ (V ++ Q)))).length) (hU:U.length = n) (hV:V.length = n) (ha:a = P.length) (hb:b = P.length + n + M.length) (hlen:L ≤ 1000000) :
 Calls Tryz.prog 272 #[.slice (some ⟨g,0,none⟩) L c,.int .i64 a,.int .i64 b,.int .i64 n,F] w (DatP g (P ++ (V ++ (M ++ (U ++ Q)))) w):=by
 have H:=hide h
 have HU:=hide hU
 have HV:=hide hV
 have HA:=hide ha
 have HB:=hide hb
 have hlb:b + n ≤ L:=by simp at hL;omega
 have hab:a + n ≤ b:=by omega
 clear h hL hU hV ha hb
 go_enter Tryz.func272,Tryz.ntmps272
 go_wp2_with fail
 go_loopw [10] (fun i wr => ∃ (k:Nat) (U1 U2 V1 V2:List Nat),k ≤ n ∧ i = .int .i64 k ∧ Hid (U = U1 ++ U2) ∧ Hid (V = V1 ++ V2) ∧ Hid (U1.length = k) ∧ Hid (V1.length = k) ∧ Hid (Dat wr g (P ++ (V1 ++ (U2 ++ (M ++ (U1 ++ (V2 ++ Q))))))) ∧ Hid (Fr (fun k => k = g) w wr)) (fun i _ => n - (intOf i).toNat)
 case atStart => exact ⟨0,[],U,[],V,by omega,rfl,rfl,rfl,rfl,rfl,H.out,Fr.refl _ _⟩
 case round =>
  clear H
  obtain ⟨k,U1,U2,V1,V2,hk,rfl,e1,e2,e3,e4,HD,HF⟩:=hrel
  by_cases hlt:k < n
  · obtain ⟨u,U3,hu⟩:∃ u U3,U2 = u :: U3:=by
     cases U2 with
     | nil => have:=congrArg List.length e1.out;rw [HU.out] at this;simp at this;have:=e3.out;omega
     | cons u U3 => exact ⟨u,U3,rfl⟩
    obtain ⟨v,V3,hv⟩:∃ v V3,V2 = v :: V3:=by
     cases V2 with
     | nil => have:=congrArg List.length e2.out;rw [HV.out] at this;simp at this;have:=e4.out;omega
     | cons v V3 => exact ⟨v,V3,rfl⟩
    subst hu hv
    have hd:=HD.out
    have eq1:P ++ (V1 ++ (u :: U3 ++ (M ++ (U1 ++ (v :: V3 ++ Q))))) = (P ++ V1) ++ u :: ((U3 ++ (M ++ U1)) ++ v :: (V3 ++ Q)):=by simp
    rw [eq1] at hd
    have hi:a + k = (P ++ V1).length:=by have:=HA.out;have:=e4.out;simp;omega
    have hUl:U3.length + 1 + k = n:=by
     have:=congrArg List.length e1.out
     rw [HU.out] at this;have:=e3.out;simp at *;omega
    have hj:b + k = (P ++ V1).length + 1 + (U3 ++ (M ++ U1)).length:=by
     have:=HB.out;have:=e3.out;have:=e4.out
     simp;omega
    obtain ⟨t1,t2,t3,t4,t5⟩:=two_at (P ++ V1) (U3 ++ (M ++ U1)) (V3 ++ Q) u v hi hj
    have c1:=hd.cell t1
    have c2:=hd.cell t2
    have f1:=hd.free (a + k)
    have f2:=hd.free (b + k)
    have hd2:=hd.swap hi hj
    have HD2:=hide hd2
    have c3:(wr.setCell ⟨g,a + k,none⟩ (.int .i64 v)).cell? ⟨g,b + k,none⟩ = some (.int .i64 u) ∨ True:=.inr trivial
    clear hd hd2 t1 t2 t3 t4 t5 hi hj hUl eq1 HD c3
    go_wp2_with fail
    go_region
    go_wp2_with fail
    go_roundw
    case rel =>
     refine ⟨k + 1,U1 ++ [u],U3,V1 ++ [v],V3,by omega,by go_num,hide (by rw [e1.out];simp),hide (by rw [e2.out];simp),hide (by have:=e3.out;simp;omega),hide (by have:=e4.out;simp;omega),hide ?_,hide ((HF.out.two _ _).drew)⟩
     have:=HD2.out.drew
     simpa using this
    case measure => simp [intOf];omega
  · obtain rfl:U2 = []:=by
     have:=congrArg List.length e1.out;rw [HU.out] at this;have:=e3.out
     cases U2 with
     | nil => rfl
     | cons _ _ => simp at *;omega
    obtain rfl:V2 = []:=by
     have:=congrArg List.length e2.out;rw [HV.out] at this;have:=e4.out
     cases V2 with
     | nil => rfl
     | cons _ _ => simp at *;omega
    go_wp2_with fail
    refine bodyPost_ret (results_none rfl _ _ _) rfl ?_
    refine ⟨rfl, ?_,HF.out⟩
    have:=HD.out
    rw [e1.out,e2.out]
    simpa using this
set_option maxHeartbeats 2000000 in
theorem rotate_any (g c a m b L:Nat) (P U V Q:List Nat) (F:Value) (w:World) (h:Dat w g (P ++ (U ++ (V ++ Q)))) (hL:L = (P ++ (U ++ (V ++ Q))).length) (ha:a = P.length) (hm:m = P.length + U.length) (hb:b = P.length + U.length + V.length) (hU:0 < U.length) (hV:0 < V.length) (hlen:L ≤ 1000000) :
 Calls Tryz.prog 268 #[.slice (some ⟨g,0,none⟩) L c,.int .i64 a,.int .i64 m,.int .i64 b,F] w (DatP g (P ++ (V ++ (U ++ Q))) w):=by
 have H:=hide h
 have HL:=hide hL
 have HM:=hide (And.intro ha (And.intro hm hb))
 have h1:a < m:=by omega
 have h2:m < b:=by omega
 have h3:b ≤ L:=by simp at hL;omega
 obtain ⟨X,hX⟩:∃ X,X = P ++ (V ++ (U ++ Q)):=⟨_,rfl⟩
 rw [← hX]
 have HX:=hide hX
 clear h hL ha hm hb hU hV hX
 go_enter Tryz.func268,Tryz.ntmps268
 go_wp2_with fail
 go_loopw [10,11] (fun vi vj wr => ∃ (i j:Nat) (P1 U1 V1 Q1:List Nat),vi = .int .i64 i ∧ vj = .int .i64 j ∧ 0 < i ∧ 0 < j ∧ i ≤ m ∧ m + j ≤ L ∧ Hid (U1.length = i) ∧ Hid (V1.length = j) ∧ Hid (P1.length + i = m) ∧ Hid (L = (P1 ++ (U1 ++ (V1 ++ Q1))).length) ∧ Hid (Dat wr g (P1 ++ (U1 ++ (V1 ++ Q1)))) ∧ Hid (P1 ++ (V1 ++ (U1 ++ Q1)) = X) ∧ Hid (Fr (fun k => k = g) w wr)) (fun i j _ => (intOf i).toNat + (intOf j).toNat)
 case atStart =>
  obtain ⟨ha,hm,hb⟩:=HM.out
  exact ⟨m - a,b - m,P,U,V,Q,v_int (by omega),v_int (by omega),by omega,by omega,by omega,by omega,hide (by omega),hide (by omega),hide (by omega),HL,H,hide HX.out.symm,hide (Fr.refl _ _)⟩
 case round =>
  clear H HL HM HX
  obtain ⟨i,j,P1,U1,V1,Q1,rfl,rfl,hi,hj,him,hjL,e1,e2,e3,HL,HD,HX,HF⟩:=hrel
  rcases Nat.lt_trichotomy i j with g1 | g1 | g1
  · have d1:((i:Int) != (j:Int)) = true:=by simp;omega
    have d2:decide ((j:Int) < (i:Int)) = false:=decide_eq_false (by omega)
    obtain ⟨V2,V3,hv,hl2,hl3⟩:∃ V2 V3,V1 = V2 ++ V3 ∧ V2.length = j - i ∧ V3.length = i:=⟨V1.take (j - i),V1.drop (j - i),(List.take_append_drop _ _).symm,by have:=e2.out;simp;omega,by have:=e2.out;simp;omega⟩
    subst hv
    have sw:=swapRange_any g c (m - i) (m + j - i) i L P1 U1 V2 V3 Q1 F wr (by have:=HD.out;simpa using this) (by rw [HL.out];simp) e1.out hl3 (by have:=e3.out;omega) (by have:=e3.out;omega) hlen
    have n1:((m:Int) - (i:Int)) = ((m - i:Nat):Int):=by omega
    have n2:((m:Int) + (j:Int) - (i:Int)) = ((m + j - i:Nat):Int):=by omega
    rw [← n1,← n2] at sw
    have HS:=hide sw
    have hl2':=hide hl2
    have hl3':=hide hl3
    clear sw n1 n2 hl2 hl3
    go_wp2_with (go_at_call 272;refine (Calls.mono HS.out ?_);rintro e w1 ⟨rfl,hd1,hf1⟩;have HD1:=hide hd1;have HF1:=hide hf1;clear hd1 hf1)
    go_roundw
    case rel =>
     exact ⟨i,j - i,P1,V3,V2,U1 ++ Q1,rfl,v_int (by omega),hi,by omega,him,by omega,hl3',hl2',e3,hide (by rw [HL.out];have:=e1.out;have:=hl3'.out;simp;omega),hide (by have:=HD1.out;simpa using this),hide (by rw [← HX.out];simp),hide (HF.out.trans HF1.out (fun _ h => .inl h))⟩
    case measure => simp [intOf];omega
  · subst g1
    have d1:((i:Int) != (i:Int)) = false:=by simp
    have sw:=swapRange_any g c (m - i) m i L P1 U1 [] V1 Q1 F wr (by have:=HD.out;simpa using this) (by rw [HL.out];simp) e1.out e2.out (by have:=e3.out;omega) (by have:=e3.out;simp;omega) hlen
    have n1:((m:Int) - (i:Int)) = ((m - i:Nat):Int):=by omega
    rw [← n1] at sw
    have HS:=hide sw
    clear sw n1
    go_wp2_with (go_at_call 272;refine (Calls.mono HS.out ?_);rintro e w1 ⟨rfl,hd1,hf1⟩;have HD1:=hide hd1;have HF1:=hide hf1;clear hd1 hf1)
    refine bodyPost_ret (results_none rfl _ _ _) rfl ?_
    exact ⟨rfl,by rw [← HX.out];simpa using HD1.out,HF.out.trans HF1.out (fun _ h => .inl h)⟩
  · have d1:((i:Int) != (j:Int)) = true:=by simp;omega
    have d2:decide ((j:Int) < (i:Int)) = true:=decide_eq_true (by omega)
    obtain ⟨U2,U3,hu,hl2,hl3⟩:∃ U2 U3,U1 = U2 ++ U3 ∧ U2.length = j ∧ U3.length = i - j:=⟨U1.take j,U1.drop j,(List.take_append_drop _ _).symm,by have:=e1.out;simp;omega,by have:=e1.out;simp;omega⟩
    subst hu
    have sw:=swapRange_any g c (m - i) m j L P1 U2 U3 V1 Q1 F wr (by have:=HD.out;simpa using this) (by rw [HL.out];simp) hl2 e2.out (by have:=e3.out;omega) (by have:=e3.out;omega) hlen
    have n1:((m:Int) - (i:Int)) = ((m - i:Nat):Int):=by omega
    rw [← n1] at sw
    have HS:=hide sw
    have hl2':=hide hl2
    have hl3':=hide hl3
    clear sw n1 hl2 hl3
    go_wp2_with (go_at_call 272;refine (Calls.mono HS.out ?_);rintro e w1 ⟨rfl,hd1,hf1⟩;have HD1:=hide hd1;have HF1:=hide hf1;clear hd1 hf1)
    go_roundw
    case rel =>
     exact ⟨i - j,j,P1 ++ V1,U3,U2,Q1,v_int (by omega),rfl,by omega,hj,by omega,hjL,hl3',hl2',hide (by have:=e3.out;have:=e2.out;simp;omega),hide (by rw [HL.out];have:=e2.out;have:=hl2'.out;simp;omega),hide (by have:=HD1.out;simpa using this),hide (by rw [← HX.out];simp),hide (HF.out.trans HF1.out (fun _ h => .inl h))⟩
    case measure => simp [intOf];omega
def Lx (ws:List Int) (x y:Nat):Prop:=ws.getD x 0 < ws.getD y 0 ∨ (ws.getD x 0 = ws.getD y 0 ∧ x < y)
theorem Lx.trans {ws:List Int} {x y z:Nat} (h:Lx ws x y) (k:Lx ws y z):Lx ws x z:=by
 unfold Lx at *;omega
theorem Lx.irrefl {ws:List Int} {x:Nat} (h:Lx ws x x):False:=by
 unfold Lx at h;omega
def CmpAt (g B:Nat) (ws:List Int) (w:World):Prop :=
 ∀ W,Fr (fun k => k = g) w W → ∀ x y:Nat,x < ws.length → y < ws.length →
   Calls Tryz.prog 187 #[.int .i64 x,.int .i64 y,.pointer (some ⟨B,0,none⟩)] W fun e w' => e = .returned (.int .i64 (cmpI (ws.getD x 0) (ws.getD y 0))) ∧ ∃ j,w' = W.drewN j
theorem CmpAt.fr {g B:Nat} {ws:List Int} {w w':World} (h:CmpAt g B ws w) (hf:Fr (fun k => k = g) w w'):CmpAt g B ws w' :=
 fun W hW => h W (hf.trans hW (fun _ h => .inl h))
theorem Dat.swap2 {w:World} {g:Nat} {L M R:List Nat} {u v i j:Nat} (h:Dat w g (L ++ u :: (M ++ v :: R))) (hi:i = L.length) (hj:j = L.length + 1 + M.length) :
 Dat ((w.setCell ⟨g,j,none⟩ (.int .i64 u)).setCell ⟨g,i,none⟩ (.int .i64 v)) g (L ++ v :: (M ++ u :: R)):=by
 obtain ⟨h1,h2,h3,h4,h5⟩:=two_at L M R u v hi hj
 have:=(h.set_ h4 u).set_ (i:=i) (by rw [List.length_set];exact h3) v
 rw [List.set_comm _ _ (by omega)] at this
 rwa [h5] at this
def SortP (ws:List Int) (g:Nat) (P S Q:List Nat) (w:World) (e:Ending) (w':World):Prop :=
 ∃ Z,e = .returned (.tuple #[]) ∧ Z.Perm S ∧ Z.Pairwise (Lx ws) ∧ Dat w' g (P ++ (Z ++ Q)) ∧ Fr (fun k => k = g) w w'
theorem ins_sorted {ws:List Int} {Z1 Z2:List Nat} {x:Nat} (h:(Z1 ++ Z2).Pairwise (Lx ws)) (h1:∀ z,Z1.getLast? = some z → Lx ws z x) (h2:∀ z ∈ Z2,Lx ws x z):(Z1 ++ x :: Z2).Pairwise (Lx ws):=by
 rw [List.pairwise_append] at h ⊢
 obtain ⟨p1,p2,p3⟩:=h
 have h1':∀ z ∈ Z1,Lx ws z x:=by
  intro z hz
  obtain ⟨Z0,l,rfl⟩:∃ Z0 l,Z1 = Z0 ++ [l]:=by
   rcases List.eq_nil_or_concat Z1 with rfl | ⟨Z0,l,rfl⟩
   · simp at hz
   · exact ⟨Z0,l,by simp⟩
  have hl:=h1 l (by simp)
  rcases List.mem_append.1 hz with hz | hz
  · rw [List.pairwise_append] at p1
    exact (p1.2.2 z hz l (by simp)).trans hl
  · simp at hz;subst hz;exact hl
 refine ⟨p1,List.pairwise_cons.2 ⟨h2,p2⟩,fun a ha b hb => ?_⟩
 rcases List.mem_cons.1 hb with rfl | hb
 · exact h1' a ha
 · exact p3 a ha b hb
set_option maxHeartbeats 4000000 in
theorem insertion_any (g B c a b L:Nat) (ws:List Int) (P S Q:List Nat) (w:World) (h:Dat w g (P ++ (S ++ Q))) (hL:L = (P ++ (S ++ Q)).length) (ha:a = P.length) (hb:b = P.length + S.length) (hlen:L ≤ 1000000)
 (hS:S.Pairwise (fun x y => x < y)) (hn:∀ x ∈ S,x < ws.length) (hC:CmpAt g B ws w) :
 Calls Tryz.prog 216 #[.slice (some ⟨g,0,none⟩) L c,.int .i64 a,.int .i64 b,.func (.func 187) #[] #[.pointer (some ⟨B,0,none⟩)]] w (SortP ws g P S Q w):=by
 have H:=hide h
 have hbL:b ≤ L:=by simp at hL;omega
 have hab:a ≤ b:=by omega
 have HC:=hide hC
 have HA:=hide (And.intro ha (And.intro hb hL))
 have HS:=hide (And.intro hS hn)
 clear h hL ha hb hS hn hC
 go_enter Tryz.func216,Tryz.ntmps216
 go_wp2_with fail
 go_loopw [8] (fun vi wr => ∃ (i:Nat) (S1 R Z:List Nat),vi = .int .i64 i ∧ a < i ∧ i ≤ b + 1 ∧ Hid (S = S1 ++ R) ∧ Hid (S1.length = min (i - a) S.length) ∧ Hid (Z.Perm S1) ∧ Hid (Z.Pairwise (Lx ws)) ∧ Hid (Dat wr g (P ++ (Z ++ (R ++ Q)))) ∧ Hid (Fr (fun k => k = g) w wr)) (fun i _ => b + 1 - (intOf i).toNat)
 case atStart =>
  cases hS:S with
  | nil => exact ⟨a + 1,[],[],[],by go_num,by omega,by omega,hide rfl,hide (by simp),hide (List.Perm.refl _),hide List.Pairwise.nil,hide (by have:=H.out;rw [hS] at this;exact this),hide (Fr.refl _ _)⟩
  | cons x R => exact ⟨a + 1,[x],R,[x],by go_num,by omega,by have:=HA.out;rw [hS] at this;simp at this;omega,hide rfl,hide (by simp),hide (List.Perm.refl _),hide (List.pairwise_singleton _ _),hide (by have:=H.out;rw [hS] at this;exact this),hide (Fr.refl _ _)⟩
 case round =>
  clear H
  obtain ⟨i,S1,R,Z,rfl,hai,hib,e1,e2,e3,e4,HD,HF⟩:=hrel
  by_cases hlt:i < b
  · have hltd:decide ((i:Int) < (b:Int)) = true:=decide_eq_true (by omega)
    obtain ⟨x,R1,hx⟩:∃ x R1,R = x :: R1:=by
     cases R with
     | nil =>
       exfalso
       have h1:=congrArg List.length e1.out
       have h2:=e2.out
       have h3:=HA.out
       simp at h1
       omega
     | cons x R1 => exact ⟨x,R1,rfl⟩
    subst hx
    have hzl:Z.length = i - a:=by
     have h2:=e2.out
     have h3:=HA.out
     have h4:=e3.out.length_eq
     omega
    have HZl:=hide hzl
    clear hzl
    go_wp2_with fail
    go_loopw [9] (fun vj wx => ∃ (j:Nat) (Z1 Z2:List Nat),vj = .int .i64 j ∧ a ≤ j ∧ j ≤ i ∧ Hid (Z = Z1 ++ Z2) ∧ Hid (Z1.length = j - a) ∧ Hid (∀ z ∈ Z2,Lx ws x z) ∧ Hid (Dat wx g (P ++ (Z1 ++ (x :: (Z2 ++ (R1 ++ Q)))))) ∧ Hid (Fr (fun k => k = g) w wx)) (fun vj _ => (intOf vj).toNat)
    case atStart => exact ⟨i,Z,[],rfl,by omega,by omega,hide (by simp),HZl,hide (by simp),hide (by have:=HD.out;simpa using this),HF⟩
    case round =>
     clear HD HF
     obtain ⟨j,Z1,Z2,rfl,haj,hji,f1,f2,f3,HD,HF⟩:=hrel
     have fin:(∀ z,Z1.getLast? = some z → Lx ws z x) → ∃ Z',Hid (Z'.Perm (S1 ++ [x])) ∧ Hid (Z'.Pairwise (Lx ws)) ∧ Hid (Dat wr g (P ++ (Z' ++ (R1 ++ Q)))):=by
      intro hlast
      refine ⟨Z1 ++ x :: Z2, ?_, ?_, ?_⟩
      · have:(Z1 ++ x :: Z2).Perm (Z ++ [x]):=by
         rw [f1.out,List.append_assoc]
         exact List.Perm.append_left _ (List.perm_append_singleton x Z2).symm
        exact this.trans (List.Perm.append_right _ e3.out)
      · have h4:=e4.out
        rw [f1.out] at h4
        exact ins_sorted h4 hlast f3.out
      · have:=HD.out
        exact hide (by simpa using this)
     have HFin:=hide fin
     clear fin
     have xn:x < ws.length:=HS.out.2 x (by rw [e1.out];simp)
     by_cases hja:a < j
     · obtain ⟨Z0,z,hz⟩:∃ Z0 z,Z1 = Z0 ++ [z]:=by
        rcases List.eq_nil_or_concat Z1 with e | ⟨Z0,l,e⟩
        · have:=f2.out;rw [e] at this;simp at this;omega
        · exact ⟨Z0,l,by simpa using e⟩
       subst hz
       have zS:z ∈ S1:=e3.out.subset (by rw [f1.out];simp)
       have zn:z < ws.length:=HS.out.2 z (by rw [e1.out];simp [zS])
       have zx:z < x:=by
        have h1:=HS.out.1
        rw [e1.out,List.pairwise_append] at h1
        exact h1.2.2 z zS x (by simp)
       have hd:=HD.out
       have eq1:P ++ (Z0 ++ [z] ++ (x :: (Z2 ++ (R1 ++ Q)))) = (P ++ Z0) ++ z :: ([] ++ x :: (Z2 ++ (R1 ++ Q))):=by simp
       rw [eq1] at hd
       have hi1:j - 1 = (P ++ Z0).length:=by have h1:=f2.out;have h2:=HA.out;simp at h1;simp;omega
       have hj1:j = (P ++ Z0).length + 1 + ([]:List Nat).length:=by have h1:=f2.out;have h2:=HA.out;simp at h1;simp;omega
       obtain ⟨t1,t2,t3,t4,t5⟩:=two_at (P ++ Z0) [] (Z2 ++ (R1 ++ Q)) z x hi1 hj1
       have c1:=hd.cell t1
       have c2:=hd.cell t2
       have v1:=hd.free (j - 1)
       have v2:=hd.free j
       have HD2:=hide hd
       have HI:=hide (And.intro hi1 hj1)
       have hjL:j < L:=by omega
       have cmp:=HC.out
       have call:=fun (n:Nat) => cmp (wr.drewN n) (HF.out.drewN n) x z xn zn
       obtain ⟨K,hK⟩:∃ K,K = cmpI (ws.getD x 0) (ws.getD z 0):=⟨_,rfl⟩
       rw [← hK] at call
       have HCall:=hide call
       have n1:((j:Int) - 1) = ((j - 1:Nat):Int):=by omega
       have hKd:=cmpI_neg (ws.getD x 0) (ws.getD z 0)
       rw [← hK] at hKd
       have dja:decide ((a:Int) < (j:Int)) = true:=decide_eq_true (by omega)
       clear hd t1 t2 t3 t4 t5 eq1 hi1 hj1 cmp call hK HD
       by_cases hK0:K < 0
       · have dk:decide (K < 0) = true:=decide_eq_true hK0
         have hlt2:Lx ws x z:=.inl (of_decide_eq_true (hKd.symm.trans dk))
         have HLt:=hide hlt2
         clear hKd hlt2
         go_wp2_with fail
         go_quiet ((go_at_call 187;exact Calls.quiet_of (HCall.out _)))
         go_wp2_with fail
         go_region
         go_wp2_with fail
         go_roundw
         case rel =>
          obtain ⟨hi1,hj1⟩:=HI.out
          refine ⟨j - 1,Z0,z :: Z2,v_int (by omega),by omega,by omega,hide (by rw [f1.out];simp),hide (by have h1:=f2.out;simp at h1;omega),hide ?_,hide ?_,hide ((HF.out.drewN (nq + 1)).two _ _)⟩
          · intro y hy
            rcases List.mem_cons.1 hy with rfl | hy
            · exact HLt.out
            · exact f3.out y hy
          · have:=(HD2.out.drewN (nq + 1)).swap2 hi1 hj1
            simpa using this
         case measure => simp [intOf];omega
       · have dk:decide (K < 0) = false:=decide_eq_false hK0
         have hlt2:Lx ws z x:=by
          have:=of_decide_eq_false (hKd.symm.trans dk)
          unfold Lx
          omega
         have HLt:=hide hlt2
         clear hKd hlt2
         go_wp2_with fail
         go_quiet ((go_at_call 187;exact Calls.quiet_of (HCall.out _)))
         go_wp2_with fail
         go_roundw
         case rel =>
          obtain ⟨Z',z1,z2,z3⟩:=HFin.out (fun y hy => by simp at hy;subst hy;exact HLt.out)
          exact ⟨i + 1,S1 ++ [x],R1,Z',by go_num,by omega,by omega,hide (by rw [e1.out];simp),hide (by have h2:=e2.out;have h3:=HA.out;have h5:=congrArg List.length e1.out;simp at h5 ⊢;omega),z1,z2,hide (z3.out.drewN _),hide (HF.out.drewN _)⟩
         case measure => simp [intOf];omega
     · have dja:decide ((a:Int) < (j:Int)) = false:=decide_eq_false (by omega)
       have z0:Z1 = []:=List.eq_nil_of_length_eq_zero (by have:=f2.out;omega)
       have HZ0:=hide z0
       clear z0
       go_wp2_with fail
       go_quiet (fail)
       go_wp2_with fail
       go_roundw
       case rel =>
        obtain ⟨Z',z1,z2,z3⟩:=HFin.out (fun y hy => by rw [HZ0.out] at hy;simp at hy)
        exact ⟨i + 1,S1 ++ [x],R1,Z',by go_num,by omega,by omega,hide (by rw [e1.out];simp),hide (by have h2:=e2.out;have h3:=HA.out;have h5:=congrArg List.length e1.out;simp at h5 ⊢;omega),z1,z2,hide (z3.out.drewN _),hide (HF.out.drewN _)⟩
       case measure => simp [intOf];omega
  · go_wp2_with fail
    refine bodyPost_ret (results_none rfl _ _ _) rfl ?_
    have hR:R = []:=by
     have h1:=congrArg List.length e1.out
     have h2:=e2.out
     have h3:=HA.out
     simp at h1
     cases R with
     | nil => rfl
     | cons _ _ => simp at h1;omega
    refine ⟨Z,rfl, ?_,e4.out, ?_,HF.out⟩
    · rw [e1.out,hR,List.append_nil];exact e3.out
    · have:=HD.out
      rwa [hR] at this
theorem sorted_at {ws:List Int} {Y:List Nat} (h:Y.Pairwise (Lx ws)) {i j x y:Nat} (hx:Y[i]? = some x) (hy:Y[j]? = some y) (hij:i < j):Lx ws x y:=by
 obtain ⟨hi,rfl⟩:=List.getElem?_eq_some_iff.1 hx
 obtain ⟨hj,rfl⟩:=List.getElem?_eq_some_iff.1 hy
 exact List.pairwise_iff_getElem.1 h i j hi hj hij
set_option maxHeartbeats 4000000 in
theorem sym_left (g B c a m b L x:Nat) (ws:List Int) (P Y Q:List Nat) (w:World) (h:Dat w g (P ++ (x :: (Y ++ Q)))) (hL:L = (P ++ (x :: (Y ++ Q))).length) (ha:a = P.length) (hm:m = P.length + 1) (hb:b = P.length + 1 + Y.length) (hlen:L ≤ 1000000)
 (hY:Y.Pairwise (Lx ws)) (hxy:∀ y ∈ Y,x < y) (hxn:x < ws.length) (hn:∀ y ∈ Y,y < ws.length) (hC:CmpAt g B ws w) :
 Calls Tryz.prog 259 #[.slice (some ⟨g,0,none⟩) L c,.int .i64 a,.int .i64 m,.int .i64 b,.func (.func 187) #[] #[.pointer (some ⟨B,0,none⟩)]] w (SortP ws g P (x :: Y) Q w):=by
 have H:=hide h
 have hbL:b ≤ L:=by simp at hL;omega
 have hmb:m ≤ b:=by omega
 have ham1:a < m:=by omega
 have ham2:m ≤ a + 1:=by omega
 have HC:=hide hC
 have HA:=hide (And.intro ha (And.intro hb hL))
 have HY:=hide (And.intro hY (And.intro hxy hn))
 have d0:((m:Int) - (a:Int)) = 1:=by omega
 clear h hL ha hb hY hxy hn hC hm
 go_enter Tryz.func259,Tryz.ntmps259
 go_wp2_with fail
 go_loopw [10,11] (fun vi vj wr => ∃ (i j:Nat),vi = .int .i64 i ∧ vj = .int .i64 j ∧ m ≤ i ∧ i ≤ j ∧ j ≤ b ∧ Hid (∀ y ∈ Y.take (i - m),Lx ws y x) ∧ Hid (∀ y ∈ Y.drop (j - m),Lx ws x y) ∧ Hid (Dat wr g (P ++ (x :: (Y ++ Q)))) ∧ Hid (Fr (fun k => k = g) w wr)) (fun i j _ => (intOf j).toNat - (intOf i).toNat)
 case atStart => exact ⟨m,b,rfl,rfl,by omega,hmb,by omega,hide (by simp),hide (by have:=HA.out;rw [List.drop_eq_nil_of_le (by omega)];simp),H,hide (Fr.refl _ _)⟩
 case round =>
  clear H
  obtain ⟨i,j,rfl,rfl,hai,hij,hjb,e1,e2,H,HF⟩:=hrel
  by_cases hlt:i < j
  · obtain ⟨q,hq⟩:∃ q,q = (i + j) / 2:=⟨_,rfl⟩
    have hq1:i ≤ q ∧ q < j:=by omega
    have hqI:((i:Int) + (j:Int)) / 2 = (q:Int):=by omega
    have hqL:q < L:=by omega
    have haL:a < L:=by omega
    have HQ:=hide hq
    clear hq
    obtain ⟨y,hy⟩:∃ y,Y[q - m]? = some y:=⟨Y[q - m]'(by have:=HA.out;omega),by simp⟩
    have hyY:y ∈ Y:=List.mem_of_getElem? hy
    have c0:wr.cell? ⟨g,a,none⟩ = some (.int .i64 x):=H.out.cell (by rw [HA.out.1];exact at_mid _ _ _)
    have c1:wr.cell? ⟨g,q,none⟩ = some (.int .i64 y):=H.out.cell (by
     have h3:=HA.out
     rw [List.getElem?_append_right (by omega),show q - P.length = (q - m) + 1 by omega,List.getElem?_cons_succ,List.getElem?_append_left (by omega)]
     exact hy)
    have yn:=HY.out.2.2 y hyY
    have call:=fun (k:Nat) => HC.out (wr.drewN k) (HF.out.drewN k) y x yn hxn
    obtain ⟨K,hK⟩:∃ K,K = cmpI (ws.getD y 0) (ws.getD x 0):=⟨_,rfl⟩
    rw [← hK] at call
    have HCall:=hide call
    have hKd:=cmpI_neg (ws.getD y 0) (ws.getD x 0)
    rw [← hK] at hKd
    have HY1:=hide hy
    have HYY:=hide hyY
    clear call hK hy hyY
    by_cases hK0:K < 0
    · have dk:decide (K < 0) = true:=decide_eq_true hK0
      have hlt2:ws.getD y 0 < ws.getD x 0:=of_decide_eq_true (hKd.symm.trans dk)
      have HLt:=hide hlt2
      clear hKd hlt2
      go_wp2_with fail
      clear hqI
      go_quiet ((go_at_call 187;exact Calls.quiet_of (HCall.out _)))
      go_wp2_with fail
      go_roundw
      case rel =>
       refine ⟨q + 1,j,by go_num,rfl,by omega,by omega,hjb,hide ?_,e2,hide (H.out.drewN _),hide (HF.out.drewN _)⟩
       intro z hz
       rw [show q + 1 - m = q - m + 1 by omega,List.take_add_one,HY1.out] at hz
       rcases List.mem_append.1 hz with hz | hz
       · obtain ⟨k,hk⟩:=List.mem_iff_getElem?.1 hz
         have hkl:k < q - m:=by
          have:=(List.getElem?_eq_some_iff.1 hk).1
          rw [List.length_take] at this;omega
         rw [List.getElem?_take_of_lt hkl] at hk
         have:=sorted_at HY.out.1 hk HY1.out hkl
         have:=HLt.out
         unfold Lx at *
         omega
       · simp at hz;subst hz;exact .inl HLt.out
      case measure => simp [intOf];omega
    · have dk:decide (K < 0) = false:=decide_eq_false hK0
      have hlt2:¬ ws.getD y 0 < ws.getD x 0:=of_decide_eq_false (hKd.symm.trans dk)
      have HLt:=hide hlt2
      clear hKd hlt2
      go_wp2_with fail
      clear hqI
      go_quiet ((go_at_call 187;exact Calls.quiet_of (HCall.out _)))
      go_wp2_with fail
      go_roundw
      case rel =>
       refine ⟨i,q,rfl,rfl,hai,hq1.1,by omega,e1,hide ?_,hide (H.out.drewN _),hide (HF.out.drewN _)⟩
       have hxy:Lx ws x y:=by
        have:=HLt.out
        have:=HY.out.2.1 y HYY.out
        unfold Lx;omega
       intro z hz
       obtain ⟨k,hk⟩:=List.mem_iff_getElem?.1 hz
       rw [List.getElem?_drop] at hk
       rcases Nat.eq_zero_or_pos k with e | e
       · subst e
         rw [Nat.add_zero,HY1.out] at hk
         simp at hk;subst hk;exact hxy
       · exact hxy.trans (sorted_at HY.out.1 HY1.out hk (by omega))
      case measure => simp [intOf];omega
  · obtain rfl:i = j:=by omega
    go_wp2_with fail
    go_loopw [13] (fun vk wx => ∃ (k:Nat),vk = .int .i64 k ∧ a ≤ k ∧ k + 1 ≤ i ∧ Hid (Dat wx g (P ++ (Y.take (k - a) ++ (x :: (Y.drop (k - a) ++ Q))))) ∧ Hid (Fr (fun k => k = g) w wx)) (fun vk _ => i - (intOf vk).toNat)
    case atStart => exact ⟨a,rfl,by omega,by omega,hide (by have:=H.out;simpa using this),HF⟩
    case round =>
     clear H HF
     obtain ⟨k,rfl,hak,hki,HD,HF⟩:=hrel
     by_cases hlt2:k + 1 < i
     · have dlt:decide ((k:Int) < (i:Int) - 1) = true:=decide_eq_true (by omega)
       obtain ⟨y,hy⟩:∃ y,Y[k - a]? = some y:=⟨Y[k - a]'(by have:=HA.out;omega),by simp⟩
       have ht:Y.take (k + 1 - a) = Y.take (k - a) ++ [y]:=by rw [show k + 1 - a = (k - a) + 1 by omega,List.take_add_one,hy];rfl
       have hdr:Y.drop (k - a) = y :: Y.drop (k + 1 - a):=by
        obtain ⟨h1,h2⟩:=List.getElem?_eq_some_iff.1 hy
        rw [List.drop_eq_getElem_cons h1,h2,show k + 1 - a = k - a + 1 by omega]
       have hd:=HD.out
       rw [hdr] at hd
       have eq1:P ++ (Y.take (k - a) ++ (x :: (y :: Y.drop (k + 1 - a) ++ Q))) = (P ++ Y.take (k - a)) ++ x :: ([] ++ y :: (Y.drop (k + 1 - a) ++ Q)):=by simp
       rw [eq1] at hd
       have hi1:k = (P ++ Y.take (k - a)).length:=by have h2:=HA.out;simp;omega
       have hj1:k + 1 = (P ++ Y.take (k - a)).length + 1 + ([]:List Nat).length:=by have h2:=HA.out;simp;omega
       obtain ⟨t1,t2,t3,t4,t5⟩:=two_at (P ++ Y.take (k - a)) [] (Y.drop (k + 1 - a) ++ Q) x y hi1 hj1
       have v1:=hd.cell t1
       have v2:=hd.cell t2
       have u1:=hd.free k
       have u2:=hd.free (k + 1)
       have HD2:=hide (hd.swap hi1 hj1)
       have HT:=hide (And.intro ht hdr)
       have hkL:k + 1 < L:=by omega
       clear hd t1 t2 t3 t4 t5 eq1 hi1 hj1 ht hdr hy HD
       go_wp2_with fail
       go_region
       go_wp2_with fail
       go_roundw
       case rel =>
        refine ⟨k + 1,by go_num,by omega,by omega,hide ?_,hide ((HF.out.two _ _).drew)⟩
        have:=HD2.out.drew
        rw [HT.out.1]
        simpa using this
       case measure => simp [intOf];omega
     · have dlt:decide ((k:Int) < (i:Int) - 1) = false:=decide_eq_false (by omega)
       go_wp2_with fail
       refine bodyPost_ret (results_none rfl _ _ _) rfl ?_
       have hk:k - a = i - m:=by omega
       refine ⟨Y.take (k - a) ++ x :: Y.drop (k - a),rfl, ?_, ?_,by have:=HD.out;simpa using this,HF.out⟩
       · conv => rhs;rw [← List.take_append_drop (k - a) Y]
         exact List.perm_middle
       · refine ins_sorted (by rw [List.take_append_drop];exact HY.out.1) (fun z hz => ?_) (by rw [hk];exact e2.out)
         exact e1.out z (by rw [← hk];exact List.mem_of_getLast? hz)
set_option maxHeartbeats 4000000 in
theorem sym_right (g B c a m b L y:Nat) (ws:List Int) (P X Q:List Nat) (w:World) (h:Dat w g (P ++ (X ++ (y :: Q)))) (hL:L = (P ++ (X ++ (y :: Q))).length) (ha:a = P.length) (hm:m = P.length + X.length) (hb:b = P.length + X.length + 1) (hX1:1 < X.length) (hlen:L ≤ 1000000)
 (hX:X.Pairwise (Lx ws)) (hxy:∀ x ∈ X,x < y) (hyn:y < ws.length) (hn:∀ x ∈ X,x < ws.length) (hC:CmpAt g B ws w) :
 Calls Tryz.prog 259 #[.slice (some ⟨g,0,none⟩) L c,.int .i64 a,.int .i64 m,.int .i64 b,.func (.func 187) #[] #[.pointer (some ⟨B,0,none⟩)]] w (SortP ws g P (X ++ [y]) Q w):=by
 have H:=hide h
 have hbL:b ≤ L:=by simp at hL;omega
 have ham:a + 1 < m:=by omega
 have hmb1:m < b:=by omega
 have hmb2:b ≤ m + 1:=by omega
 have HC:=hide hC
 have HA:=hide (And.intro ha (And.intro hm hL))
 have HX:=hide (And.intro hX (And.intro hxy hn))
 have d0:(((m:Int) - (a:Int)) == 1) = false:=by simp;omega
 have d1:((b:Int) - (m:Int)) = 1:=by omega
 have hmL:m < L:=by omega
 clear h hL ha hb hX hxy hn hC hm hX1
 go_enter Tryz.func259,Tryz.ntmps259
 go_wp2_with fail
 go_loopw [14,15] (fun vi vj wr => ∃ (i j:Nat),vi = .int .i64 i ∧ vj = .int .i64 j ∧ a ≤ i ∧ i ≤ j ∧ j ≤ m ∧ Hid (∀ x ∈ X.take (i - a),Lx ws x y) ∧ Hid (∀ x ∈ X.drop (j - a),Lx ws y x) ∧ Hid (Dat wr g (P ++ (X ++ (y :: Q)))) ∧ Hid (Fr (fun k => k = g) w wr)) (fun i j _ => (intOf j).toNat - (intOf i).toNat)
 case atStart => exact ⟨a,m,rfl,rfl,by omega,by omega,by omega,hide (by simp),hide (by have:=HA.out;rw [List.drop_eq_nil_of_le (by omega)];simp),H,hide (Fr.refl _ _)⟩
 case round =>
  clear H
  obtain ⟨i,j,rfl,rfl,hai,hij,hjb,e1,e2,H,HF⟩:=hrel
  by_cases hlt:i < j
  · obtain ⟨q,hq⟩:∃ q,q = (i + j) / 2:=⟨_,rfl⟩
    have hq1:i ≤ q ∧ q < j:=by omega
    have hqI:((i:Int) + (j:Int)) / 2 = (q:Int):=by omega
    have hqL:q < L:=by omega
    have HQ:=hide hq
    clear hq
    obtain ⟨x,hx⟩:∃ x,X[q - a]? = some x:=⟨X[q - a]'(by have:=HA.out;omega),by simp⟩
    have hxX:x ∈ X:=List.mem_of_getElem? hx
    have c0:wr.cell? ⟨g,m,none⟩ = some (.int .i64 y):=H.out.cell (by
     have h3:=HA.out
     rw [← List.append_assoc,h3.2.1,← List.length_append];exact at_mid _ _ _)
    have c1:wr.cell? ⟨g,q,none⟩ = some (.int .i64 x):=H.out.cell (by
     have h3:=HA.out
     rw [List.getElem?_append_right (by omega),← h3.1,List.getElem?_append_left (by omega)]
     exact hx)
    have xn:=HX.out.2.2 x hxX
    have call:=fun (k:Nat) => HC.out (wr.drewN k) (HF.out.drewN k) y x hyn xn
    obtain ⟨K,hK⟩:∃ K,K = cmpI (ws.getD y 0) (ws.getD x 0):=⟨_,rfl⟩
    rw [← hK] at call
    have HCall:=hide call
    have hKd:=cmpI_neg (ws.getD y 0) (ws.getD x 0)
    rw [← hK] at hKd
    have HX1:=hide hx
    have HXX:=hide hxX
    clear call hK hx hxX
    by_cases hK0:K < 0
    · have dk:decide (K < 0) = true:=decide_eq_true hK0
      have hlt2:ws.getD y 0 < ws.getD x 0:=of_decide_eq_true (hKd.symm.trans dk)
      have HLt:=hide hlt2
      clear hKd hlt2
      go_wp2_with fail
      clear hqI
      go_quiet ((go_at_call 187;exact Calls.quiet_of (HCall.out _)))
      go_wp2_with fail
      go_roundw
      case rel =>
       refine ⟨i,q,rfl,rfl,hai,hq1.1,by omega,e1,hide ?_,hide (H.out.drewN _),hide (HF.out.drewN _)⟩
       intro z hz
       obtain ⟨k,hk⟩:=List.mem_iff_getElem?.1 hz
       rw [List.getElem?_drop] at hk
       rcases Nat.eq_zero_or_pos k with e | e
       · subst e
         rw [Nat.add_zero,HX1.out] at hk
         simp at hk;subst hk;exact .inl HLt.out
       · have:=sorted_at HX.out.1 HX1.out hk (by omega)
         have:=HLt.out
         unfold Lx at *
         omega
      case measure => simp [intOf];omega
    · have dk:decide (K < 0) = false:=decide_eq_false hK0
      have hlt2:¬ ws.getD y 0 < ws.getD x 0:=of_decide_eq_false (hKd.symm.trans dk)
      have HLt:=hide hlt2
      clear hKd hlt2
      go_wp2_with fail
      clear hqI
      go_quiet ((go_at_call 187;exact Calls.quiet_of (HCall.out _)))
      go_wp2_with fail
      go_roundw
      case rel =>
       refine ⟨q + 1,j,by go_num,rfl,by omega,by omega,hjb,hide ?_,e2,hide (H.out.drewN _),hide (HF.out.drewN _)⟩
       have hxy:Lx ws x y:=by
        have:=HLt.out
        have:=HX.out.2.1 x HXX.out
        unfold Lx;omega
       intro z hz
       rw [show q + 1 - a = q - a + 1 by omega,List.take_add_one,HX1.out] at hz
       rcases List.mem_append.1 hz with hz | hz
       · obtain ⟨k,hk⟩:=List.mem_iff_getElem?.1 hz
         have hkl:k < q - a:=by
          have:=(List.getElem?_eq_some_iff.1 hk).1
          rw [List.length_take] at this;omega
         rw [List.getElem?_take_of_lt hkl] at hk
         exact (sorted_at HX.out.1 hk HX1.out hkl).trans hxy
       · simp at hz;subst hz;exact hxy
      case measure => simp [intOf];omega
  · obtain rfl:i = j:=by omega
    go_wp2_with fail
    go_loopw [17] (fun vk wx => ∃ (k:Nat),vk = .int .i64 k ∧ i ≤ k ∧ k ≤ m ∧ Hid (Dat wx g (P ++ (X.take (k - a) ++ (y :: (X.drop (k - a) ++ Q))))) ∧ Hid (Fr (fun k => k = g) w wx)) (fun vk _ => (intOf vk).toNat)
    case atStart => exact ⟨m,rfl,by omega,by omega,hide (by have:=H.out;have h3:=HA.out;rw [List.take_of_length_le (by omega),List.drop_eq_nil_of_le (by omega)];simpa using this),HF⟩
    case round =>
     clear H HF
     obtain ⟨k,rfl,hik,hkm,HD,HF⟩:=hrel
     by_cases hlt2:i < k
     · have dlt:decide ((i:Int) < (k:Int)) = true:=decide_eq_true (by omega)
       obtain ⟨x,hx⟩:∃ x,X[k - 1 - a]? = some x:=⟨X[k - 1 - a]'(by have:=HA.out;omega),by simp⟩
       have ht:X.take (k - a) = X.take (k - 1 - a) ++ [x]:=by rw [show k - a = (k - 1 - a) + 1 by omega,List.take_add_one,hx];rfl
       have hdr:X.drop (k - 1 - a) = x :: X.drop (k - a):=by
        obtain ⟨h1,h2⟩:=List.getElem?_eq_some_iff.1 hx
        rw [List.drop_eq_getElem_cons h1,h2,show k - 1 - a + 1 = k - a by omega]
       have hd:=HD.out
       rw [ht] at hd
       have eq1:P ++ (X.take (k - 1 - a) ++ [x] ++ (y :: (X.drop (k - a) ++ Q))) = (P ++ X.take (k - 1 - a)) ++ x :: ([] ++ y :: (X.drop (k - a) ++ Q)):=by simp
       rw [eq1] at hd
       have hi1:k - 1 = (P ++ X.take (k - 1 - a)).length:=by have h2:=HA.out;simp;omega
       have hj1:k = (P ++ X.take (k - 1 - a)).length + 1 + ([]:List Nat).length:=by have h2:=HA.out;simp;omega
       obtain ⟨t1,t2,t3,t4,t5⟩:=two_at (P ++ X.take (k - 1 - a)) [] (X.drop (k - a) ++ Q) x y hi1 hj1
       have v1:=hd.cell t1
       have v2:=hd.cell t2
       have u1:=hd.free (k - 1)
       have u2:=hd.free k
       have HD2:=hide (hd.swap2 hi1 hj1)
       have HT:=hide (And.intro ht hdr)
       have hkL:k < L:=by omega
       have n1:((k:Int) - 1) = ((k - 1:Nat):Int):=by omega
       clear hd t1 t2 t3 t4 t5 eq1 hi1 hj1 ht hdr hx HD
       go_wp2_with fail
       go_region
       go_wp2_with fail
       go_roundw
       case rel =>
        refine ⟨k - 1,v_int (by omega),by omega,by omega,hide ?_,hide ((HF.out.two _ _).drew)⟩
        have:=HD2.out.drew
        rw [HT.out.2]
        simpa using this
       case measure => simp [intOf];omega
     · have dlt:decide ((i:Int) < (k:Int)) = false:=decide_eq_false (by omega)
       obtain rfl:i = k:=by omega
       go_wp2_with fail
       refine bodyPost_ret (results_none rfl _ _ _) rfl ?_
       refine ⟨X.take (i - a) ++ y :: X.drop (i - a),rfl, ?_, ?_,by have:=HD.out;simpa using this,HF.out⟩
       · have h1:(X.take (i - a) ++ y :: X.drop (i - a)).Perm (y :: (X.take (i - a) ++ X.drop (i - a))):=List.perm_middle
         rw [List.take_append_drop] at h1
         exact h1.trans (List.perm_append_singleton y X).symm
       · refine ins_sorted (by rw [List.take_append_drop];exact HX.out.1) (fun z hz => ?_) e2.out
         exact e1.out z (List.mem_of_getLast? hz)
def PX (ws:List Int) (X Y:List Nat) (a m n c:Nat):Prop:=∃ x y,X[c - a]? = some x ∧ Y[n - 1 - c - m]? = some y ∧ ws.getD y 0 < ws.getD x 0
def NX (ws:List Int) (X Y:List Nat) (a m n c:Nat):Prop:=∃ x y,X[c - a]? = some x ∧ Y[n - 1 - c - m]? = some y ∧ ¬ ws.getD y 0 < ws.getD x 0
theorem sym_part {ws:List Int} {X Y:List Nat} {a m b s n e:Nat} (hX:X.Pairwise (Lx ws)) (hY:Y.Pairwise (Lx ws)) (hxy:∀ x ∈ X,∀ y ∈ Y,x < y) (hm:m = a + X.length) (hb:b = m + Y.length)
 (h1:a ≤ s) (h3:m ≤ e) (hn:n = s + e) (lo:s = a ∨ e = b ∨ NX ws X Y a m n (s - 1)) (hi:s = m ∨ e = m ∨ PX ws X Y a m n s) :
 ∀ z1 ∈ X.take (s - a) ++ Y.take (e - m),∀ z2 ∈ X.drop (s - a) ++ Y.drop (e - m),Lx ws z1 z2:=by
 have tk:∀ {l:List Nat} {k z:Nat},z ∈ l.take k → ∃ i,i < k ∧ l[i]? = some z:=fun {l k z} hz => by
  obtain ⟨i,hi⟩:=List.mem_iff_getElem?.1 hz
  have hk:i < k:=by
   have:=(List.getElem?_eq_some_iff.1 hi).1
   rw [List.length_take] at this;omega
  exact ⟨i,hk,by rwa [List.getElem?_take_of_lt hk] at hi⟩
 have dp:∀ {l:List Nat} {k z:Nat},z ∈ l.drop k → ∃ i,k ≤ i ∧ l[i]? = some z:=fun {l k z} hz => by
  obtain ⟨i,hi⟩:=List.mem_iff_getElem?.1 hz
  rw [List.getElem?_drop] at hi
  exact ⟨k + i,by omega,hi⟩
 have le:∀ {l:List Nat} {i j x y:Nat},l.Pairwise (Lx ws) → l[i]? = some x → l[j]? = some y → i ≤ j → Lx ws x y ∨ x = y:=fun {l i j x y} hl hx hy hij => by
  rcases Nat.lt_or_ge i j with h | h
  · exact .inl (sorted_at hl hx hy h)
  · obtain rfl:i = j:=by omega
    exact .inr (by rw [hx] at hy;simpa using hy)
 intro z1 hz1 z2 hz2
 rcases List.mem_append.1 hz1 with hz1 | hz1 <;> rcases List.mem_append.1 hz2 with hz2 | hz2 <;> obtain ⟨i,hik,hzi⟩:=tk hz1 <;> obtain ⟨j,hjk,hzj⟩:=dp hz2
 · exact sorted_at hX hzi hzj (by omega)
 · have hil:=(List.getElem?_eq_some_iff.1 hzi).1
   have hjl:=(List.getElem?_eq_some_iff.1 hzj).1
   have hlt:=hxy z1 (List.mem_of_getElem? hzi) z2 (List.mem_of_getElem? hzj)
   rcases lo with h | h | ⟨x,y,hx,hy,hk⟩
   · omega
   · omega
   · have k1:=le hX hzi hx (by omega)
     have k2:=le hY hy hzj (by omega)
     unfold Lx at *
     rcases k1 with k1 | rfl <;> rcases k2 with k2 | rfl <;> omega
 · have hil:=(List.getElem?_eq_some_iff.1 hzi).1
   have hjl:=(List.getElem?_eq_some_iff.1 hzj).1
   rcases hi with h | h | ⟨x,y,hx,hy,hk⟩
   · omega
   · omega
   · have k1:=le hY hzi hy (by omega)
     have k2:=le hX hx hzj (by omega)
     unfold Lx at *
     rcases k1 with k1 | rfl <;> rcases k2 with k2 | rfl <;> omega
 · exact sorted_at hY hzi hzj (by omega)
def SymOK (g B c L:Nat) (ws:List Int) (N:Nat):Prop :=
 ∀ (a m b:Nat) (P X Y Q:List Nat) (w:World),X.length + Y.length ≤ N → 0 < X.length → 0 < Y.length → Dat w g (P ++ (X ++ (Y ++ Q))) → L = (P ++ (X ++ (Y ++ Q))).length → a = P.length → m = P.length + X.length → b = P.length + X.length + Y.length →
   X.Pairwise (Lx ws) → Y.Pairwise (Lx ws) → (∀ x ∈ X,∀ y ∈ Y,x < y) → (∀ x ∈ X,x < ws.length) → (∀ y ∈ Y,y < ws.length) → CmpAt g B ws w →
   Calls Tryz.prog 259 #[.slice (some ⟨g,0,none⟩) L c,.int .i64 a,.int .i64 m,.int .i64 b,.func (.func 187) #[] #[.pointer (some ⟨B,0,none⟩)]] w (SortP ws g P (X ++ Y) Q w)
theorem pairwise_four {ws:List Int} {Z1 Z2 W1 W2:List Nat} (h1:Z1.Pairwise (Lx ws)) (h2:Z2.Pairwise (Lx ws)) (p1:Z1.Perm W1) (p2:Z2.Perm W2) (h:∀ a ∈ W1,∀ b ∈ W2,Lx ws a b):(Z1 ++ Z2).Pairwise (Lx ws) :=
 List.pairwise_append.2 ⟨h1,h2,fun a ha b hb => h a (p1.subset ha) b (p2.subset hb)⟩
set_option maxHeartbeats 8000000 in
theorem sym_hi (g B c L N:Nat) (ws:List Int) (hlen:L ≤ 1000000) (ih:SymOK g B c L ws N) (a m b:Nat) (P X Y Q:List Nat) (w:World) (hN:X.length + Y.length ≤ N + 1) (hX2:1 < X.length) (hY2:1 < Y.length) (hg:(a + b) / 2 < m) (h:Dat w g (P ++ (X ++ (Y ++ Q)))) (hL:L = (P ++ (X ++ (Y ++ Q))).length) (ha:a = P.length) (hm:m = P.length + X.length) (hb:b = P.length + X.length + Y.length)
 (hX:X.Pairwise (Lx ws)) (hY:Y.Pairwise (Lx ws)) (hxy:∀ x ∈ X,∀ y ∈ Y,x < y) (hxn:∀ x ∈ X,x < ws.length) (hyn:∀ y ∈ Y,y < ws.length) (hC:CmpAt g B ws w) :
 Calls Tryz.prog 259 #[.slice (some ⟨g,0,none⟩) L c,.int .i64 a,.int .i64 m,.int .i64 b,.func (.func 187) #[] #[.pointer (some ⟨B,0,none⟩)]] w (SortP ws g P (X ++ Y) Q w):=by
 have H:=hide h
 have hbL:b ≤ L:=by simp at hL;omega
 have ham:a + 1 < m:=by omega
 have hmb:m + 1 < b:=by omega
 have HC:=hide hC
 have HA:=hide (And.intro ha (And.intro hm (And.intro hb hL)))
 have HX:=hide (And.intro hX (And.intro hY (And.intro hxy (And.intro hxn hyn))))
 have HI:=hide ih
 have HN:=hide hN
 have d0:(((m:Int) - (a:Int)) == 1) = false:=by simp;omega
 have d1:(((b:Int) - (m:Int)) == 1) = false:=by simp;omega
 obtain ⟨mid,hmid⟩:∃ mid,mid = (a + b) / 2:=⟨_,rfl⟩
 have hmidI:((a:Int) + (b:Int)) / 2 = (mid:Int):=by omega
 have hm1:a < mid:=by omega
 have hm2:mid < b:=by omega
 have hm3:a + b ≤ 2 * mid + 1:=by omega
 have hm4:2 * mid ≤ a + b:=by omega
 obtain ⟨n,hn⟩:∃ n,n = mid + m:=⟨_,rfl⟩
 have hnI:(mid:Int) + (m:Int) = (n:Int):=by omega
 have hn1:n ≤ mid + m:=by omega
 have hn2:mid + m ≤ n:=by omega
 replace hg:mid < m:=by rw [hmid];exact hg
 clear h hL ha hm hb hX hY hxy hxn hyn hC hX2 hY2 ih hN hmid hn
 have dg:decide ((mid:Int) < (m:Int)) = true:=decide_eq_true (by omega)
 obtain ⟨s0,hs0⟩:∃ s0,s0 = n - b:=⟨_,rfl⟩
 obtain ⟨r0,hr0⟩:∃ r0,r0 = mid:=⟨_,rfl⟩
 have hsI:(n:Int) - (b:Int) = (s0:Int):=by omega
 have b1:a ≤ s0:=by omega
 have b2:r0 ≤ m:=by omega
 have b3:n ≤ s0 + b:=by omega
 have b4:r0 ≤ mid:=by omega
 have b5:s0 ≤ r0:=by omega
 have b6:s0 = a ∨ s0 + b = n:=.inr (by omega)
 have b7:r0 = m ∨ r0 = mid:=.inr hr0
 have HB:=hide (And.intro b6 b7)
 have start:(Value.int .i64 s0 = .int .i64 s0 ∧ Value.int .i64 mid = .int .i64 r0):=⟨rfl,by rw [hr0]⟩
 have HS:=hide start
 clear start b6 b7 hs0 hr0
 go_enter Tryz.func259,Tryz.ntmps259
 go_wp2_with fail
 go_loopw [20,21] (fun vi vj wr => ∃ (i j:Nat),vi = .int .i64 i ∧ vj = .int .i64 j ∧ s0 ≤ i ∧ i ≤ j ∧ j ≤ r0 ∧ Hid (i = s0 ∨ NX ws X Y a m n (i - 1)) ∧ Hid (j = r0 ∨ PX ws X Y a m n j) ∧ Hid (Dat wr g (P ++ (X ++ (Y ++ Q)))) ∧ Hid (Fr (fun k => k = g) w wr)) (fun i j _ => (intOf j).toNat - (intOf i).toNat)
 case atStart => exact ⟨s0,r0,by first | exact HS.out.1 | rfl,by first | exact HS.out.2 | rfl,by omega,b5,by omega,hide (.inl rfl),hide (.inl rfl),H,hide (Fr.refl _ _)⟩
 case round =>
  clear H HS
  obtain ⟨i,j,rfl,rfl,hsi,hij,hjr,e1,e2,H,HF⟩:=hrel
  by_cases hlt:i < j
  · obtain ⟨q,hq⟩:∃ q,q = (i + j) / 2:=⟨_,rfl⟩
    have hq1:i ≤ q ∧ q < j:=by omega
    have hqI:((i:Int) + (j:Int)) / 2 = (q:Int):=by omega
    obtain ⟨r,hr⟩:∃ r,r = n - 1 - q:=⟨_,rfl⟩
    have hrI:((n:Int) - 1) - (q:Int) = (r:Int):=by omega
    have hr1:m ≤ r ∧ r < b:=by omega
    have hrL:r < L:=by omega
    have hqL:q < L:=by omega
    obtain ⟨x,hx⟩:∃ x,X[q - a]? = some x:=⟨X[q - a]'(by have:=HA.out;omega),by simp⟩
    obtain ⟨y,hy⟩:∃ y,Y[r - m]? = some y:=⟨Y[r - m]'(by have:=HA.out;omega),by simp⟩
    have c0:wr.cell? ⟨g,q,none⟩ = some (.int .i64 x):=H.out.cell (by
     have h3:=HA.out
     rw [List.getElem?_append_right (by omega),← h3.1,List.getElem?_append_left (by omega)]
     exact hx)
    have c1:wr.cell? ⟨g,r,none⟩ = some (.int .i64 y):=H.out.cell (by
     have h3:=HA.out
     rw [← List.append_assoc,List.getElem?_append_right (by rw [List.length_append];omega),List.length_append,← h3.2.1,List.getElem?_append_left (by omega)]
     exact hy)
    have xn:=HX.out.2.2.2.1 x (List.mem_of_getElem? hx)
    have yn:=HX.out.2.2.2.2 y (List.mem_of_getElem? hy)
    have call:=fun (k:Nat) => HC.out (wr.drewN k) (HF.out.drewN k) y x yn xn
    obtain ⟨K,hK⟩:∃ K,K = cmpI (ws.getD y 0) (ws.getD x 0):=⟨_,rfl⟩
    rw [← hK] at call
    have HCall:=hide call
    have hKd:=cmpI_neg (ws.getD y 0) (ws.getD x 0)
    rw [← hK] at hKd
    have HXY:=hide (And.intro hx (And.intro hy hr))
    clear call hK hx hy hr hq
    by_cases hK0:K < 0
    · have dk:decide (K < 0) = true:=decide_eq_true hK0
      have hlt2:ws.getD y 0 < ws.getD x 0:=of_decide_eq_true (hKd.symm.trans dk)
      have HLt:=hide hlt2
      clear hKd hlt2
      go_wp2_with fail
      clear hqI
      go_quiet ((go_at_call 187;exact Calls.quiet_of (HCall.out _)))
      go_wp2_with fail
      go_roundw
      case rel =>
       refine ⟨i,q,rfl,rfl,hsi,hq1.1,by omega,e1,hide (.inr ⟨x,y,HXY.out.1, ?_,HLt.out⟩),hide (H.out.drewN _),hide (HF.out.drewN _)⟩
       rw [← HXY.out.2.2];exact HXY.out.2.1
      case measure => simp [intOf];omega
    · have dk:decide (K < 0) = false:=decide_eq_false hK0
      have hlt2:¬ ws.getD y 0 < ws.getD x 0:=of_decide_eq_false (hKd.symm.trans dk)
      have HLt:=hide hlt2
      clear hKd hlt2
      go_wp2_with fail
      clear hqI
      go_quiet ((go_at_call 187;exact Calls.quiet_of (HCall.out _)))
      go_wp2_with fail
      go_roundw
      case rel =>
       refine ⟨q + 1,j,by go_num,rfl,by omega,by omega,hjr,hide (.inr ⟨x,y, ?_, ?_,by have:=HLt.out;omega⟩),e2,hide (H.out.drewN _),hide (HF.out.drewN _)⟩
       · rw [Nat.add_sub_cancel];exact HXY.out.1
       · rw [Nat.add_sub_cancel,← HXY.out.2.2];exact HXY.out.2.1
      case measure => simp [intOf];omega
  · obtain rfl:i = j:=by omega
    obtain ⟨e,he⟩:∃ e,e = n - i:=⟨_,rfl⟩
    have heI:(n:Int) - (i:Int) = (e:Int):=by omega
    have h1:a ≤ i:=by omega
    have h2:i ≤ m:=by omega
    have h3:m ≤ e:=by omega
    have h4:e ≤ b:=by omega
    have h5:i + e ≤ n:=by omega
    have h6:n ≤ i + e:=by omega
    have part:∀ z1 ∈ X.take (i - a) ++ Y.take (e - m),∀ z2 ∈ X.drop (i - a) ++ Y.drop (e - m),Lx ws z1 z2:=by
     have h7:=HA.out
     refine sym_part HX.out.1 HX.out.2.1 HX.out.2.2.1 (by omega) (by omega) h1 h3 (n:=n) (b:=b) (by omega) ?_ ?_
     · rcases e1.out with h | h
       · rcases HB.out.1 with h' | h'
         · exact .inl (by omega)
         · exact .inr (.inl (by omega))
       · exact .inr (.inr h)
     · rcases e2.out with h | h
       · rcases HB.out.2 with h' | h'
         · exact .inl (by omega)
         · exact .inr (.inl (by omega))
       · exact .inr (.inr h)
    obtain ⟨X1,X2,hX12,x1,x2,x3,x4⟩:∃ X1 X2,X = X1 ++ X2 ∧ X.take (i - a) = X1 ∧ X.drop (i - a) = X2 ∧ X1.length = i - a ∧ X2.length = m - i:=⟨X.take (i - a),X.drop (i - a),(List.take_append_drop _ _).symm,rfl,rfl,by have:=HA.out;simp;omega,by have:=HA.out;simp;omega⟩
    obtain ⟨Y1,Y2,hY12,y1,y2,y3,y4⟩:∃ Y1 Y2,Y = Y1 ++ Y2 ∧ Y.take (e - m) = Y1 ∧ Y.drop (e - m) = Y2 ∧ Y1.length = e - m ∧ Y2.length = b - e:=⟨Y.take (e - m),Y.drop (e - m),(List.take_append_drop _ _).symm,rfl,rfl,by have:=HA.out;simp;omega,by have:=HA.out;simp;omega⟩
    rw [x1,x2,y1,y2] at part
    have HP:=hide part
    subst hX12 hY12
    have HXl:=hide (And.intro x3 (And.intro x4 (And.intro y3 y4)))
    have hXs:=HX.out.1
    have hYs:=HX.out.2.1
    rw [List.pairwise_append] at hXs hYs
    have HXs:=hide (And.intro hXs.1 (And.intro hXs.2.1 (And.intro hYs.1 hYs.2.1)))
    clear part x1 x2 x3 x4 y1 y2 y3 y4 hXs hYs he e1 e2 HB
    go_upto_region 39 with (fail)
    go_cut [185] from 178 to 185 (fun sc wx => ∃ bc:Bool,sc = .bool bc ∧ Hid (bc = (decide (i < m) && decide (m < e))) ∧ wr = wx)
    case first =>
     by_cases gA:i < m
     · have dA:decide ((i:Int) < (m:Int)) = true:=decide_eq_true (by omega)
       by_cases gB:m < e
       · have dB:decide ((m:Int) < (e:Int)) = true:=decide_eq_true (by omega)
         go_wp2_with fail
         go_meet
         exact ⟨true,rfl,hide (by simp [gA,gB]),rfl⟩
       · have dB:decide ((m:Int) < (e:Int)) = false:=decide_eq_false (by omega)
         go_wp2_with fail
         go_meet
         exact ⟨false,rfl,hide (by simp [gB]),rfl⟩
     · have dA:decide ((i:Int) < (m:Int)) = false:=decide_eq_false (by omega)
       go_wp2_with fail
       go_meet
       exact ⟨false,rfl,hide (by simp [gA]),rfl⟩
    case rest =>
    obtain ⟨bR,rfl,HbR,hwc⟩:=hcut
    subst hwc
    go_upto_if 185 with (fail)
    go_cut [] from 186 to 191 (fun wx => Hid (Dat wx g (P ++ (X1 ++ (Y1 ++ (X2 ++ (Y2 ++ Q)))))) ∧ Hid (Fr (fun k => k = g) w wx))
    case first =>
     cases bR with
     | true =>
       have hR:=HbR.out
       simp only [Bool.true_eq,Bool.and_eq_true,decide_eq_true_eq] at hR
       have gA:=hR.1
       have gB:=hR.2
       clear hR
       have rot:=rotate_any g c i m e L (P ++ X1) X2 Y1 (Y2 ++ Q) (.func (.func 187) #[] #[.pointer (some ⟨B,0,none⟩)]) wr (by have:=H.out;simpa using this) (by have:=HA.out.2.2.2;simpa using this) (by have:=HXl.out;have:=HA.out;simp;omega) (by have:=HXl.out;have:=HA.out;simp;omega) (by have:=HXl.out;have:=HA.out;simp;omega) (by have:=HXl.out;omega) (by have:=HXl.out;omega) hlen
       have HRot:=hide rot
       clear rot
       go_wp2_with (go_at_call 268;refine (Calls.mono HRot.out ?_);rintro e9 w9 ⟨rfl,hd9,hf9⟩;have HD9:=hide hd9;have HF9:=hide hf9;clear hd9 hf9)
       go_meet
       exact ⟨hide (by have:=HD9.out;simpa using this),hide (HF.out.trans HF9.out (fun _ h => .inl h))⟩
     | false =>
       have hR:=HbR.out
       go_wp2_with fail
       go_meet
       refine ⟨hide ?_,HF⟩
       have:=H.out
       by_cases gA:i < m
       · have gB:¬ m < e:=fun h => by simp [gA,h] at hR
         have hz:Y1 = []:=List.eq_nil_of_length_eq_zero (by have:=HXl.out;omega)
         rw [hz] at this ⊢;simpa using this
       · have hz:X2 = []:=List.eq_nil_of_length_eq_zero (by have:=HXl.out;omega)
         rw [hz] at this ⊢;simpa using this
    case rest =>
    obtain ⟨HD2,HF2⟩:=hcut
    clear H HF HbR
    go_upto_region 41 with (fail)
    go_cut [199] from 192 to 199 (fun sc wx => ∃ bc:Bool,sc = .bool bc ∧ Hid (bc = (decide (a < i) && decide (i < mid))) ∧ wc = wx)
    case first =>
     by_cases gA:a < i
     · have dA:decide ((a:Int) < (i:Int)) = true:=decide_eq_true (by omega)
       by_cases gB:i < mid
       · have dB:decide ((i:Int) < (mid:Int)) = true:=decide_eq_true (by omega)
         go_wp2_with fail
         go_meet
         exact ⟨true,rfl,hide (by simp [gA,gB]),rfl⟩
       · have dB:decide ((i:Int) < (mid:Int)) = false:=decide_eq_false (by omega)
         go_wp2_with fail
         go_meet
         exact ⟨false,rfl,hide (by simp [gB]),rfl⟩
     · have dA:decide ((a:Int) < (i:Int)) = false:=decide_eq_false (by omega)
       go_wp2_with fail
       go_meet
       exact ⟨false,rfl,hide (by simp [gA]),rfl⟩
    case rest =>
    obtain ⟨bS,rfl,HbS,hwc⟩:=hcut
    subst hwc
    go_upto_if 199 with (fail)
    go_cut [] from 200 to 205 (fun wx => ∃ Z1,Hid (Z1.Perm (X1 ++ Y1)) ∧ Hid (Z1.Pairwise (Lx ws)) ∧ Hid (Dat wx g (P ++ (Z1 ++ (X2 ++ (Y2 ++ Q))))) ∧ Hid (Fr (fun k => k = g) w wx))
    case first =>
     cases bS with
     | true =>
       have hR:=HbS.out
       simp only [Bool.true_eq,Bool.and_eq_true,decide_eq_true_eq] at hR
       have gA:=hR.1
       have gB:=hR.2
       clear hR
       have rc:=HI.out a i mid P X1 Y1 (X2 ++ (Y2 ++ Q)) _ (by have h9:=HN.out;rw [List.length_append,List.length_append] at h9;have:=HXl.out;omega) (by have:=HXl.out;omega) (by have:=HXl.out;omega) (by have:=HD2.out;simpa using this) (by have:=HA.out.2.2.2;simp at this ⊢;omega) (by have:=HA.out;omega) (by have:=HA.out;have:=HXl.out;omega) (by have:=HA.out;have:=HXl.out;omega) HXs.out.1 HXs.out.2.2.1 (fun x hx y hy => HX.out.2.2.1 x (List.mem_append_left _ hx) y (List.mem_append_left _ hy)) (fun x hx => HX.out.2.2.2.1 x (List.mem_append_left _ hx)) (fun y hy => HX.out.2.2.2.2 y (List.mem_append_left _ hy)) (HC.out.fr HF2.out)
       have HRec:=hide rc
       clear rc
       go_wp2_with (go_at_call 259;refine (Calls.mono HRec.out ?_);rintro e9 w9 ⟨Z1,rfl,hp9,hs9,hd9,hf9⟩;have HP9:=hide hp9;have HS9:=hide hs9;have HD9:=hide hd9;have HF9:=hide hf9;clear hp9 hs9 hd9 hf9)
       go_meet
       exact ⟨Z1,HP9,HS9,HD9,hide (HF2.out.trans HF9.out (fun _ h => .inl h))⟩
     | false =>
       have hR:=HbS.out
       go_wp2_with fail
       go_meet
       refine ⟨X1 ++ Y1,hide (List.Perm.refl _),hide ?_,hide (by have:=HD2.out;simpa using this),HF2⟩
       by_cases gA:a < i
       · have gB:¬ i < mid:=fun h => by simp [gA,h] at hR
         have hz:Y1 = []:=List.eq_nil_of_length_eq_zero (by have:=HXl.out;omega)
         rw [hz,List.append_nil];exact HXs.out.1
       · have hz:X1 = []:=List.eq_nil_of_length_eq_zero (by have:=HXl.out;omega)
         rw [hz];exact HXs.out.2.2.1
    case rest =>
    obtain ⟨Z1,HP1,HS1,HD3,HF3⟩:=hcut
    clear HD2 HF2 HbS
    go_upto_region 43 with (fail)
    go_cut [213] from 206 to 213 (fun sc wx => ∃ bc:Bool,sc = .bool bc ∧ Hid (bc = (decide (mid < e) && decide (e < b))) ∧ wc = wx)
    case first =>
     by_cases gA:mid < e
     · have dA:decide ((mid:Int) < (e:Int)) = true:=decide_eq_true (by omega)
       by_cases gB:e < b
       · have dB:decide ((e:Int) < (b:Int)) = true:=decide_eq_true (by omega)
         go_wp2_with fail
         go_meet
         exact ⟨true,rfl,hide (by simp [gA,gB]),rfl⟩
       · have dB:decide ((e:Int) < (b:Int)) = false:=decide_eq_false (by omega)
         go_wp2_with fail
         go_meet
         exact ⟨false,rfl,hide (by simp [gB]),rfl⟩
     · have dA:decide ((mid:Int) < (e:Int)) = false:=decide_eq_false (by omega)
       go_wp2_with fail
       go_meet
       exact ⟨false,rfl,hide (by simp [gA]),rfl⟩
    case rest =>
    obtain ⟨bT,rfl,HbT,hwc⟩:=hcut
    subst hwc
    have hz1:Z1.length = mid - a:=by have:=HP1.out.length_eq;have:=HXl.out;simp at *;omega
    have fin:∀ (e9:Ending) (w9:World) (Z2:List Nat),e9 = .returned (.tuple #[]) → Z2.Perm (X2 ++ Y2) → Z2.Pairwise (Lx ws) → Dat w9 g (P ++ (Z1 ++ (Z2 ++ Q))) → Fr (fun k => k = g) w w9 → SortP ws g P (X1 ++ X2 ++ (Y1 ++ Y2)) Q w e9 w9:=by
     intro e9 w9 Z2 he hp hs hd hf
     refine ⟨Z1 ++ Z2,he, ?_,pairwise_four HS1.out hs HP1.out hp HP.out,by simpa using hd,hf⟩
     refine (HP1.out.append hp).trans ?_
     have h1:(X1 ++ Y1 ++ (X2 ++ Y2)) = X1 ++ ((Y1 ++ X2) ++ Y2):=by simp
     have h2:(X1 ++ X2 ++ (Y1 ++ Y2)) = X1 ++ ((X2 ++ Y1) ++ Y2):=by simp
     rw [h1,h2]
     exact List.Perm.append_left _ (List.Perm.append_right _ List.perm_append_comm)
    have HFin:=hide fin
    have HZ1:=hide hz1
    clear fin hz1
    cases bT with
    | true =>
      have hR:=HbT.out
      simp only [Bool.true_eq,Bool.and_eq_true,decide_eq_true_eq] at hR
      have gA:=hR.1
      have gB:=hR.2
      clear hR
      have rc:=HI.out mid e b (P ++ Z1) X2 Y2 Q _ (by have h9:=HN.out;rw [List.length_append,List.length_append] at h9;have:=HXl.out;omega) (by have:=HXl.out;omega) (by have:=HXl.out;omega) (by have:=HD3.out;simpa using this) (by have:=HA.out.2.2.2;have:=HZ1.out;have:=HXl.out;simp at *;omega) (by have:=HA.out;have:=HZ1.out;simp;omega) (by have:=HA.out;have:=HXl.out;have:=HZ1.out;simp;omega) (by have:=HA.out;have:=HXl.out;have:=HZ1.out;simp;omega) HXs.out.2.1 HXs.out.2.2.2 (fun x hx y hy => HX.out.2.2.1 x (List.mem_append_right _ hx) y (List.mem_append_right _ hy)) (fun x hx => HX.out.2.2.2.1 x (List.mem_append_right _ hx)) (fun y hy => HX.out.2.2.2.2 y (List.mem_append_right _ hy)) (HC.out.fr HF3.out)
      have HRec:=hide rc
      clear rc
      go_wp2_with (go_at_call 259;refine (Calls.mono HRec.out ?_);rintro e9 w9 ⟨Z2,rfl,hp9,hs9,hd9,hf9⟩;have HP9:=hide hp9;have HS9:=hide hs9;have HD9:=hide hd9;have HF9:=hide hf9;clear hp9 hs9 hd9 hf9)
      refine bodyPost_ret (results_none rfl _ _ _) rfl ?_
      exact HFin.out _ _ Z2 rfl HP9.out HS9.out (by have:=HD9.out;simpa using this) (HF3.out.trans HF9.out (fun _ h => .inl h))
    | false =>
      have hR:=HbT.out
      go_wp2_with fail
      refine bodyPost_ret (results_none rfl _ _ _) rfl ?_
      refine HFin.out _ _ (X2 ++ Y2) rfl (List.Perm.refl _) ?_ (by have:=HD3.out;simpa using this) HF3.out
      by_cases gA:mid < e
      · have gB:¬ e < b:=fun h => by simp [gA,h] at hR
        have hz:Y2 = []:=List.eq_nil_of_length_eq_zero (by have:=HXl.out;omega)
        rw [hz,List.append_nil];exact HXs.out.2.1
      · have hz:X2 = []:=List.eq_nil_of_length_eq_zero (by have:=HXl.out;omega)
        rw [hz];exact HXs.out.2.2.2
set_option maxHeartbeats 8000000 in
theorem sym_lo (g B c L N:Nat) (ws:List Int) (hlen:L ≤ 1000000) (ih:SymOK g B c L ws N) (a m b:Nat) (P X Y Q:List Nat) (w:World) (hN:X.length + Y.length ≤ N + 1) (hX2:1 < X.length) (hY2:1 < Y.length) (hg:¬ (a + b) / 2 < m) (h:Dat w g (P ++ (X ++ (Y ++ Q)))) (hL:L = (P ++ (X ++ (Y ++ Q))).length) (ha:a = P.length) (hm:m = P.length + X.length) (hb:b = P.length + X.length + Y.length)
 (hX:X.Pairwise (Lx ws)) (hY:Y.Pairwise (Lx ws)) (hxy:∀ x ∈ X,∀ y ∈ Y,x < y) (hxn:∀ x ∈ X,x < ws.length) (hyn:∀ y ∈ Y,y < ws.length) (hC:CmpAt g B ws w) :
 Calls Tryz.prog 259 #[.slice (some ⟨g,0,none⟩) L c,.int .i64 a,.int .i64 m,.int .i64 b,.func (.func 187) #[] #[.pointer (some ⟨B,0,none⟩)]] w (SortP ws g P (X ++ Y) Q w):=by
 have H:=hide h
 have hbL:b ≤ L:=by simp at hL;omega
 have ham:a + 1 < m:=by omega
 have hmb:m + 1 < b:=by omega
 have HC:=hide hC
 have HA:=hide (And.intro ha (And.intro hm (And.intro hb hL)))
 have HX:=hide (And.intro hX (And.intro hY (And.intro hxy (And.intro hxn hyn))))
 have HI:=hide ih
 have HN:=hide hN
 have d0:(((m:Int) - (a:Int)) == 1) = false:=by simp;omega
 have d1:(((b:Int) - (m:Int)) == 1) = false:=by simp;omega
 obtain ⟨mid,hmid⟩:∃ mid,mid = (a + b) / 2:=⟨_,rfl⟩
 have hmidI:((a:Int) + (b:Int)) / 2 = (mid:Int):=by omega
 have hm1:a < mid:=by omega
 have hm2:mid < b:=by omega
 have hm3:a + b ≤ 2 * mid + 1:=by omega
 have hm4:2 * mid ≤ a + b:=by omega
 obtain ⟨n,hn⟩:∃ n,n = mid + m:=⟨_,rfl⟩
 have hnI:(mid:Int) + (m:Int) = (n:Int):=by omega
 have hn1:n ≤ mid + m:=by omega
 have hn2:mid + m ≤ n:=by omega
 replace hg:¬ mid < m:=by rw [hmid];exact hg
 clear h hL ha hm hb hX hY hxy hxn hyn hC hX2 hY2 ih hN hmid hn
 have dg:decide ((mid:Int) < (m:Int)) = false:=decide_eq_false (by omega)
 obtain ⟨s0,hs0⟩:∃ s0,s0 = a:=⟨_,rfl⟩
 obtain ⟨r0,hr0⟩:∃ r0,r0 = m:=⟨_,rfl⟩
 have b1:a ≤ s0:=by omega
 have b2:r0 ≤ m:=by omega
 have b3:n ≤ s0 + b:=by omega
 have b4:r0 ≤ mid:=by omega
 have b5:s0 ≤ r0:=by omega
 have b6:s0 = a ∨ s0 + b = n:=.inl hs0
 have b7:r0 = m ∨ r0 = mid:=.inl hr0
 have HB:=hide (And.intro b6 b7)
 have start:(Value.int .i64 a = .int .i64 s0 ∧ Value.int .i64 m = .int .i64 r0):=⟨by rw [hs0],by rw [hr0]⟩
 have HS:=hide start
 clear start b6 b7 hs0 hr0
 go_enter Tryz.func259,Tryz.ntmps259
 go_wp2_with fail
 go_loopw [20,21] (fun vi vj wr => ∃ (i j:Nat),vi = .int .i64 i ∧ vj = .int .i64 j ∧ s0 ≤ i ∧ i ≤ j ∧ j ≤ r0 ∧ Hid (i = s0 ∨ NX ws X Y a m n (i - 1)) ∧ Hid (j = r0 ∨ PX ws X Y a m n j) ∧ Hid (Dat wr g (P ++ (X ++ (Y ++ Q)))) ∧ Hid (Fr (fun k => k = g) w wr)) (fun i j _ => (intOf j).toNat - (intOf i).toNat)
 case atStart => exact ⟨s0,r0,by first | exact HS.out.1 | rfl,by first | exact HS.out.2 | rfl,by omega,b5,by omega,hide (.inl rfl),hide (.inl rfl),H,hide (Fr.refl _ _)⟩
 case round =>
  clear H HS
  obtain ⟨i,j,rfl,rfl,hsi,hij,hjr,e1,e2,H,HF⟩:=hrel
  by_cases hlt:i < j
  · obtain ⟨q,hq⟩:∃ q,q = (i + j) / 2:=⟨_,rfl⟩
    have hq1:i ≤ q ∧ q < j:=by omega
    have hqI:((i:Int) + (j:Int)) / 2 = (q:Int):=by omega
    obtain ⟨r,hr⟩:∃ r,r = n - 1 - q:=⟨_,rfl⟩
    have hrI:((n:Int) - 1) - (q:Int) = (r:Int):=by omega
    have hr1:m ≤ r ∧ r < b:=by omega
    have hrL:r < L:=by omega
    have hqL:q < L:=by omega
    obtain ⟨x,hx⟩:∃ x,X[q - a]? = some x:=⟨X[q - a]'(by have:=HA.out;omega),by simp⟩
    obtain ⟨y,hy⟩:∃ y,Y[r - m]? = some y:=⟨Y[r - m]'(by have:=HA.out;omega),by simp⟩
    have c0:wr.cell? ⟨g,q,none⟩ = some (.int .i64 x):=H.out.cell (by
     have h3:=HA.out
     rw [List.getElem?_append_right (by omega),← h3.1,List.getElem?_append_left (by omega)]
     exact hx)
    have c1:wr.cell? ⟨g,r,none⟩ = some (.int .i64 y):=H.out.cell (by
     have h3:=HA.out
     rw [← List.append_assoc,List.getElem?_append_right (by rw [List.length_append];omega),List.length_append,← h3.2.1,List.getElem?_append_left (by omega)]
     exact hy)
    have xn:=HX.out.2.2.2.1 x (List.mem_of_getElem? hx)
    have yn:=HX.out.2.2.2.2 y (List.mem_of_getElem? hy)
    have call:=fun (k:Nat) => HC.out (wr.drewN k) (HF.out.drewN k) y x yn xn
    obtain ⟨K,hK⟩:∃ K,K = cmpI (ws.getD y 0) (ws.getD x 0):=⟨_,rfl⟩
    rw [← hK] at call
    have HCall:=hide call
    have hKd:=cmpI_neg (ws.getD y 0) (ws.getD x 0)
    rw [← hK] at hKd
    have HXY:=hide (And.intro hx (And.intro hy hr))
    clear call hK hx hy hr hq
    by_cases hK0:K < 0
    · have dk:decide (K < 0) = true:=decide_eq_true hK0
      have hlt2:ws.getD y 0 < ws.getD x 0:=of_decide_eq_true (hKd.symm.trans dk)
      have HLt:=hide hlt2
      clear hKd hlt2
      go_wp2_with fail
      clear hqI
      go_quiet ((go_at_call 187;exact Calls.quiet_of (HCall.out _)))
      go_wp2_with fail
      go_roundw
      case rel =>
       refine ⟨i,q,rfl,rfl,hsi,hq1.1,by omega,e1,hide (.inr ⟨x,y,HXY.out.1, ?_,HLt.out⟩),hide (H.out.drewN _),hide (HF.out.drewN _)⟩
       rw [← HXY.out.2.2];exact HXY.out.2.1
      case measure => simp [intOf];omega
    · have dk:decide (K < 0) = false:=decide_eq_false hK0
      have hlt2:¬ ws.getD y 0 < ws.getD x 0:=of_decide_eq_false (hKd.symm.trans dk)
      have HLt:=hide hlt2
      clear hKd hlt2
      go_wp2_with fail
      clear hqI
      go_quiet ((go_at_call 187;exact Calls.quiet_of (HCall.out _)))
      go_wp2_with fail
      go_roundw
      case rel =>
       refine ⟨q + 1,j,by go_num,rfl,by omega,by omega,hjr,hide (.inr ⟨x,y, ?_, ?_,by have:=HLt.out;omega⟩),e2,hide (H.out.drewN _),hide (HF.out.drewN _)⟩
       · rw [Nat.add_sub_cancel];exact HXY.out.1
       · rw [Nat.add_sub_cancel,← HXY.out.2.2];exact HXY.out.2.1
      case measure => simp [intOf];omega
  · obtain rfl:i = j:=by omega
    obtain ⟨e,he⟩:∃ e,e = n - i:=⟨_,rfl⟩
    have heI:(n:Int) - (i:Int) = (e:Int):=by omega
    have h1:a ≤ i:=by omega
    have h2:i ≤ m:=by omega
    have h3:m ≤ e:=by omega
    have h4:e ≤ b:=by omega
    have h5:i + e ≤ n:=by omega
    have h6:n ≤ i + e:=by omega
    have part:∀ z1 ∈ X.take (i - a) ++ Y.take (e - m),∀ z2 ∈ X.drop (i - a) ++ Y.drop (e - m),Lx ws z1 z2:=by
     have h7:=HA.out
     refine sym_part HX.out.1 HX.out.2.1 HX.out.2.2.1 (by omega) (by omega) h1 h3 (n:=n) (b:=b) (by omega) ?_ ?_
     · rcases e1.out with h | h
       · rcases HB.out.1 with h' | h'
         · exact .inl (by omega)
         · exact .inr (.inl (by omega))
       · exact .inr (.inr h)
     · rcases e2.out with h | h
       · rcases HB.out.2 with h' | h'
         · exact .inl (by omega)
         · exact .inr (.inl (by omega))
       · exact .inr (.inr h)
    obtain ⟨X1,X2,hX12,x1,x2,x3,x4⟩:∃ X1 X2,X = X1 ++ X2 ∧ X.take (i - a) = X1 ∧ X.drop (i - a) = X2 ∧ X1.length = i - a ∧ X2.length = m - i:=⟨X.take (i - a),X.drop (i - a),(List.take_append_drop _ _).symm,rfl,rfl,by have:=HA.out;simp;omega,by have:=HA.out;simp;omega⟩
    obtain ⟨Y1,Y2,hY12,y1,y2,y3,y4⟩:∃ Y1 Y2,Y = Y1 ++ Y2 ∧ Y.take (e - m) = Y1 ∧ Y.drop (e - m) = Y2 ∧ Y1.length = e - m ∧ Y2.length = b - e:=⟨Y.take (e - m),Y.drop (e - m),(List.take_append_drop _ _).symm,rfl,rfl,by have:=HA.out;simp;omega,by have:=HA.out;simp;omega⟩
    rw [x1,x2,y1,y2] at part
    have HP:=hide part
    subst hX12 hY12
    have HXl:=hide (And.intro x3 (And.intro x4 (And.intro y3 y4)))
    have hXs:=HX.out.1
    have hYs:=HX.out.2.1
    rw [List.pairwise_append] at hXs hYs
    have HXs:=hide (And.intro hXs.1 (And.intro hXs.2.1 (And.intro hYs.1 hYs.2.1)))
    clear part x1 x2 x3 x4 y1 y2 y3 y4 hXs hYs he e1 e2 HB
    go_upto_region 39 with (fail)
    go_cut [185] from 178 to 185 (fun sc wx => ∃ bc:Bool,sc = .bool bc ∧ Hid (bc = (decide (i < m) && decide (m < e))) ∧ wr = wx)
    case first =>
     by_cases gA:i < m
     · have dA:decide ((i:Int) < (m:Int)) = true:=decide_eq_true (by omega)
       by_cases gB:m < e
       · have dB:decide ((m:Int) < (e:Int)) = true:=decide_eq_true (by omega)
         go_wp2_with fail
         go_meet
         exact ⟨true,rfl,hide (by simp [gA,gB]),rfl⟩
       · have dB:decide ((m:Int) < (e:Int)) = false:=decide_eq_false (by omega)
         go_wp2_with fail
         go_meet
         exact ⟨false,rfl,hide (by simp [gB]),rfl⟩
     · have dA:decide ((i:Int) < (m:Int)) = false:=decide_eq_false (by omega)
       go_wp2_with fail
       go_meet
       exact ⟨false,rfl,hide (by simp [gA]),rfl⟩
    case rest =>
    obtain ⟨bR,rfl,HbR,hwc⟩:=hcut
    subst hwc
    go_upto_if 185 with (fail)
    go_cut [] from 186 to 191 (fun wx => Hid (Dat wx g (P ++ (X1 ++ (Y1 ++ (X2 ++ (Y2 ++ Q)))))) ∧ Hid (Fr (fun k => k = g) w wx))
    case first =>
     cases bR with
     | true =>
       have hR:=HbR.out
       simp only [Bool.true_eq,Bool.and_eq_true,decide_eq_true_eq] at hR
       have gA:=hR.1
       have gB:=hR.2
       clear hR
       have rot:=rotate_any g c i m e L (P ++ X1) X2 Y1 (Y2 ++ Q) (.func (.func 187) #[] #[.pointer (some ⟨B,0,none⟩)]) wr (by have:=H.out;simpa using this) (by have:=HA.out.2.2.2;simpa using this) (by have:=HXl.out;have:=HA.out;simp;omega) (by have:=HXl.out;have:=HA.out;simp;omega) (by have:=HXl.out;have:=HA.out;simp;omega) (by have:=HXl.out;omega) (by have:=HXl.out;omega) hlen
       have HRot:=hide rot
       clear rot
       go_wp2_with (go_at_call 268;refine (Calls.mono HRot.out ?_);rintro e9 w9 ⟨rfl,hd9,hf9⟩;have HD9:=hide hd9;have HF9:=hide hf9;clear hd9 hf9)
       go_meet
       exact ⟨hide (by have:=HD9.out;simpa using this),hide (HF.out.trans HF9.out (fun _ h => .inl h))⟩
     | false =>
       have hR:=HbR.out
       go_wp2_with fail
       go_meet
       refine ⟨hide ?_,HF⟩
       have:=H.out
       by_cases gA:i < m
       · have gB:¬ m < e:=fun h => by simp [gA,h] at hR
         have hz:Y1 = []:=List.eq_nil_of_length_eq_zero (by have:=HXl.out;omega)
         rw [hz] at this ⊢;simpa using this
       · have hz:X2 = []:=List.eq_nil_of_length_eq_zero (by have:=HXl.out;omega)
         rw [hz] at this ⊢;simpa using this
    case rest =>
    obtain ⟨HD2,HF2⟩:=hcut
    clear H HF HbR
    go_upto_region 41 with (fail)
    go_cut [199] from 192 to 199 (fun sc wx => ∃ bc:Bool,sc = .bool bc ∧ Hid (bc = (decide (a < i) && decide (i < mid))) ∧ wc = wx)
    case first =>
     by_cases gA:a < i
     · have dA:decide ((a:Int) < (i:Int)) = true:=decide_eq_true (by omega)
       by_cases gB:i < mid
       · have dB:decide ((i:Int) < (mid:Int)) = true:=decide_eq_true (by omega)
         go_wp2_with fail
         go_meet
         exact ⟨true,rfl,hide (by simp [gA,gB]),rfl⟩
       · have dB:decide ((i:Int) < (mid:Int)) = false:=decide_eq_false (by omega)
         go_wp2_with fail
         go_meet
         exact ⟨false,rfl,hide (by simp [gB]),rfl⟩
     · have dA:decide ((a:Int) < (i:Int)) = false:=decide_eq_false (by omega)
       go_wp2_with fail
       go_meet
       exact ⟨false,rfl,hide (by simp [gA]),rfl⟩
    case rest =>
    obtain ⟨bS,rfl,HbS,hwc⟩:=hcut
    subst hwc
    go_upto_if 199 with (fail)
    go_cut [] from 200 to 205 (fun wx => ∃ Z1,Hid (Z1.Perm (X1 ++ Y1)) ∧ Hid (Z1.Pairwise (Lx ws)) ∧ Hid (Dat wx g (P ++ (Z1 ++ (X2 ++ (Y2 ++ Q))))) ∧ Hid (Fr (fun k => k = g) w wx))
    case first =>
     cases bS with
     | true =>
       have hR:=HbS.out
       simp only [Bool.true_eq,Bool.and_eq_true,decide_eq_true_eq] at hR
       have gA:=hR.1
       have gB:=hR.2
       clear hR
       have rc:=HI.out a i mid P X1 Y1 (X2 ++ (Y2 ++ Q)) _ (by have h9:=HN.out;rw [List.length_append,List.length_append] at h9;have:=HXl.out;omega) (by have:=HXl.out;omega) (by have:=HXl.out;omega) (by have:=HD2.out;simpa using this) (by have:=HA.out.2.2.2;simp at this ⊢;omega) (by have:=HA.out;omega) (by have:=HA.out;have:=HXl.out;omega) (by have:=HA.out;have:=HXl.out;omega) HXs.out.1 HXs.out.2.2.1 (fun x hx y hy => HX.out.2.2.1 x (List.mem_append_left _ hx) y (List.mem_append_left _ hy)) (fun x hx => HX.out.2.2.2.1 x (List.mem_append_left _ hx)) (fun y hy => HX.out.2.2.2.2 y (List.mem_append_left _ hy)) (HC.out.fr HF2.out)
       have HRec:=hide rc
       clear rc
       go_wp2_with (go_at_call 259;refine (Calls.mono HRec.out ?_);rintro e9 w9 ⟨Z1,rfl,hp9,hs9,hd9,hf9⟩;have HP9:=hide hp9;have HS9:=hide hs9;have HD9:=hide hd9;have HF9:=hide hf9;clear hp9 hs9 hd9 hf9)
       go_meet
       exact ⟨Z1,HP9,HS9,HD9,hide (HF2.out.trans HF9.out (fun _ h => .inl h))⟩
     | false =>
       have hR:=HbS.out
       go_wp2_with fail
       go_meet
       refine ⟨X1 ++ Y1,hide (List.Perm.refl _),hide ?_,hide (by have:=HD2.out;simpa using this),HF2⟩
       by_cases gA:a < i
       · have gB:¬ i < mid:=fun h => by simp [gA,h] at hR
         have hz:Y1 = []:=List.eq_nil_of_length_eq_zero (by have:=HXl.out;omega)
         rw [hz,List.append_nil];exact HXs.out.1
       · have hz:X1 = []:=List.eq_nil_of_length_eq_zero (by have:=HXl.out;omega)
         rw [hz];exact HXs.out.2.2.1
    case rest =>
    obtain ⟨Z1,HP1,HS1,HD3,HF3⟩:=hcut
    clear HD2 HF2 HbS
    go_upto_region 43 with (fail)
    go_cut [213] from 206 to 213 (fun sc wx => ∃ bc:Bool,sc = .bool bc ∧ Hid (bc = (decide (mid < e) && decide (e < b))) ∧ wc = wx)
    case first =>
     by_cases gA:mid < e
     · have dA:decide ((mid:Int) < (e:Int)) = true:=decide_eq_true (by omega)
       by_cases gB:e < b
       · have dB:decide ((e:Int) < (b:Int)) = true:=decide_eq_true (by omega)
         go_wp2_with fail
         go_meet
         exact ⟨true,rfl,hide (by simp [gA,gB]),rfl⟩
       · have dB:decide ((e:Int) < (b:Int)) = false:=decide_eq_false (by omega)
         go_wp2_with fail
         go_meet
         exact ⟨false,rfl,hide (by simp [gB]),rfl⟩
     · have dA:decide ((mid:Int) < (e:Int)) = false:=decide_eq_false (by omega)
       go_wp2_with fail
       go_meet
       exact ⟨false,rfl,hide (by simp [gA]),rfl⟩
    case rest =>
    obtain ⟨bT,rfl,HbT,hwc⟩:=hcut
    subst hwc
    have hz1:Z1.length = mid - a:=by have:=HP1.out.length_eq;have:=HXl.out;simp at *;omega
    have fin:∀ (e9:Ending) (w9:World) (Z2:List Nat),e9 = .returned (.tuple #[]) → Z2.Perm (X2 ++ Y2) → Z2.Pairwise (Lx ws) → Dat w9 g (P ++ (Z1 ++ (Z2 ++ Q))) → Fr (fun k => k = g) w w9 → SortP ws g P (X1 ++ X2 ++ (Y1 ++ Y2)) Q w e9 w9:=by
     intro e9 w9 Z2 he hp hs hd hf
     refine ⟨Z1 ++ Z2,he, ?_,pairwise_four HS1.out hs HP1.out hp HP.out,by simpa using hd,hf⟩
     refine (HP1.out.append hp).trans ?_
     have h1:(X1 ++ Y1 ++ (X2 ++ Y2)) = X1 ++ ((Y1 ++ X2) ++ Y2):=by simp
     have h2:(X1 ++ X2 ++ (Y1 ++ Y2)) = X1 ++ ((X2 ++ Y1) ++ Y2):=by simp
     rw [h1,h2]
     exact List.Perm.append_left _ (List.Perm.append_right _ List.perm_append_comm)
    have HFin:=hide fin
    have HZ1:=hide hz1
    clear fin hz1
    cases bT with
    | true =>
      have hR:=HbT.out
      simp only [Bool.true_eq,Bool.and_eq_true,decide_eq_true_eq] at hR
      have gA:=hR.1
      have gB:=hR.2
      clear hR
      have rc:=HI.out mid e b (P ++ Z1) X2 Y2 Q _ (by have h9:=HN.out;rw [List.length_append,List.length_append] at h9;have:=HXl.out;omega) (by have:=HXl.out;omega) (by have:=HXl.out;omega) (by have:=HD3.out;simpa using this) (by have:=HA.out.2.2.2;have:=HZ1.out;have:=HXl.out;simp at *;omega) (by have:=HA.out;have:=HZ1.out;simp;omega) (by have:=HA.out;have:=HXl.out;have:=HZ1.out;simp;omega) (by have:=HA.out;have:=HXl.out;have:=HZ1.out;simp;omega) HXs.out.2.1 HXs.out.2.2.2 (fun x hx y hy => HX.out.2.2.1 x (List.mem_append_right _ hx) y (List.mem_append_right _ hy)) (fun x hx => HX.out.2.2.2.1 x (List.mem_append_right _ hx)) (fun y hy => HX.out.2.2.2.2 y (List.mem_append_right _ hy)) (HC.out.fr HF3.out)
      have HRec:=hide rc
      clear rc
      go_wp2_with (go_at_call 259;refine (Calls.mono HRec.out ?_);rintro e9 w9 ⟨Z2,rfl,hp9,hs9,hd9,hf9⟩;have HP9:=hide hp9;have HS9:=hide hs9;have HD9:=hide hd9;have HF9:=hide hf9;clear hp9 hs9 hd9 hf9)
      refine bodyPost_ret (results_none rfl _ _ _) rfl ?_
      exact HFin.out _ _ Z2 rfl HP9.out HS9.out (by have:=HD9.out;simpa using this) (HF3.out.trans HF9.out (fun _ h => .inl h))
    | false =>
      have hR:=HbT.out
      go_wp2_with fail
      refine bodyPost_ret (results_none rfl _ _ _) rfl ?_
      refine HFin.out _ _ (X2 ++ Y2) rfl (List.Perm.refl _) ?_ (by have:=HD3.out;simpa using this) HF3.out
      by_cases gA:mid < e
      · have gB:¬ e < b:=fun h => by simp [gA,h] at hR
        have hz:Y2 = []:=List.eq_nil_of_length_eq_zero (by have:=HXl.out;omega)
        rw [hz,List.append_nil];exact HXs.out.2.1
      · have hz:X2 = []:=List.eq_nil_of_length_eq_zero (by have:=HXl.out;omega)
        rw [hz];exact HXs.out.2.2.2
theorem sym_ok (g B c L:Nat) (ws:List Int) (hlen:L ≤ 1000000):∀ N,SymOK g B c L ws N:=by
 intro N
 induction N with
 | zero => intro a m b P X Y Q w hN hX;omega
 | succ N ih =>
   intro a m b P X Y Q w hN hX hY h hL ha hm hb sX sY hxy hxn hyn hC
   by_cases h1:X.length = 1
   · obtain ⟨x,rfl⟩:=List.length_eq_one_iff.1 h1
     have:=sym_left g B c a m b L x ws P Y Q w (by simpa using h) (by simpa using hL) ha (by simpa using hm) (by simpa using hb) hlen sY (fun y hy => hxy x (by simp) y hy) (hxn x (by simp)) hyn hC
     simpa using this
   · by_cases h2:Y.length = 1
     · obtain ⟨y,rfl⟩:=List.length_eq_one_iff.1 h2
       exact sym_right g B c a m b L y ws P X Q w (by simpa using h) (by simpa using hL) ha hm (by simpa using hb) (by omega) hlen sX (fun x hx => hxy x hx y (by simp)) (hyn y (by simp)) hxn hC
     · by_cases hg:(a + b) / 2 < m
       · exact sym_hi g B c L N ws hlen ih a m b P X Y Q w hN (by omega) (by omega) hg h hL ha hm hb sX sY hxy hxn hyn hC
       · exact sym_lo g B c L N ws hlen ih a m b P X Y Q w hN (by omega) (by omega) hg h hL ha hm hb sX sY hxy hxn hyn hC
inductive Full (ws:List Int) (k:Nat):List Nat → List Nat → Prop
 | nil:Full ws k [] []
 | snoc {Zd Sd Z S:List Nat}:Full ws k Zd Sd → Z.length = k → Z.Perm S → Z.Pairwise (Lx ws) → Full ws k (Zd ++ Z) (Sd ++ S)
inductive Blk (ws:List Int) (k:Nat):List Nat → List Nat → Prop
 | last {Z S:List Nat}:Z.length ≤ k → Z.Perm S → Z.Pairwise (Lx ws) → Blk ws k Z S
 | cons {Z S Zr Sr:List Nat}:Z.length = k → Z.Perm S → Z.Pairwise (Lx ws) → Blk ws k Zr Sr → Blk ws k (Z ++ Zr) (S ++ Sr)
theorem Blk.all {ws:List Int} {k:Nat} {Zr Sr:List Nat} (h:Blk ws k Zr Sr) {Zd Sd:List Nat} (hf:Full ws k Zd Sd):Blk ws k (Zd ++ Zr) (Sd ++ Sr):=by
 induction hf generalizing Zr Sr with
 | nil => exact h
 | snoc _ h1 h2 h3 ih =>
   rw [List.append_assoc,List.append_assoc]
   exact ih (.cons h1 h2 h3 h)
theorem Full.perm {ws:List Int} {k:Nat} {Z S:List Nat} (h:Full ws k Z S):Z.Perm S:=by
 induction h with
 | nil => exact List.Perm.refl _
 | snoc _ _ h2 _ ih => exact ih.append h2
theorem Blk.perm {ws:List Int} {k:Nat} {Z S:List Nat} (h:Blk ws k Z S):Z.Perm S:=by
 induction h with
 | last _ h _ => exact h
 | cons _ h _ _ ih => exact h.append ih
theorem Blk.one {ws:List Int} {k:Nat} {Z S:List Nat} (h:Blk ws k Z S) (hl:Z.length ≤ k):Z.Pairwise (Lx ws):=by
 cases h with
 | last _ _ h => exact h
 | cons h1 h2 h3 h4 =>
   rename_i Z1 S1 Zr Sr
   have:Zr = []:=List.eq_nil_of_length_eq_zero (by rw [List.length_append] at hl;omega)
   rw [this,List.append_nil];exact h3
theorem Blk.first {ws:List Int} {k:Nat} {Z S:List Nat} (h:Blk ws k Z S) (hl:k ≤ Z.length):∃ Z1 Zr S1 Sr,Z = Z1 ++ Zr ∧ S = S1 ++ Sr ∧ Z1.length = k ∧ Z1.Perm S1 ∧ Z1.Pairwise (Lx ws) ∧ Blk ws k Zr Sr:=by
 cases h with
 | last h1 h2 h3 => exact ⟨Z,[],S,[],by simp,by simp,by omega,h2,h3,.last (by simp) (List.Perm.refl _) List.Pairwise.nil⟩
 | cons h1 h2 h3 h4 => exact ⟨_,_,_,_,rfl,rfl,h1,h2,h3,h4⟩
theorem ltS {S S1 S2 A C Z1 Z2:List Nat} (h:S.Pairwise (fun x y => x < y)) (e:S = A ++ (S1 ++ (S2 ++ C))) (p1:Z1.Perm S1) (p2:Z2.Perm S2):∀ x ∈ Z1,∀ y ∈ Z2,x < y:=by
 intro x hx y hy
 rw [e,List.pairwise_append] at h
 have h2:=List.pairwise_append.1 h.2.1
 exact h2.2.2 x (p1.subset hx) y (List.mem_append_left _ (p2.subset hy))
set_option maxHeartbeats 8000000 in
theorem stable_any (g B c L:Nat) (ws:List Int) (S:List Nat) (w:World) (h:Dat w g S) (hL:L = S.length) (hlen:L ≤ 1000000) (hS:S.Pairwise (fun x y => x < y)) (hn:∀ x ∈ S,x < ws.length) (hC:CmpAt g B ws w) :
 Calls Tryz.prog 233 #[.slice (some ⟨g,0,none⟩) L c,.int .i64 L,.func (.func 187) #[] #[.pointer (some ⟨B,0,none⟩)]] w (SortP ws g [] S [] w):=by
 have H:=hide h
 have HL:=hide hL
 have HS:=hide (And.intro hS hn)
 have HC:=hide hC
 clear h hL hS hn hC
 go_enter Tryz.func233,Tryz.ntmps233
 go_wp2_with fail
 go_loopw [7,8] (fun va vb wr => ∃ (a b:Nat) (Zd Sd R:List Nat),va = .int .i64 a ∧ vb = .int .i64 b ∧ a ≤ L ∧ b ≤ a + 20 ∧ a + 20 ≤ b ∧ Hid (S = Sd ++ R) ∧ Hid (Full ws 20 Zd Sd) ∧ Hid (Zd.length = a) ∧ Hid (Dat wr g (Zd ++ R)) ∧ Hid (Fr (fun k => k = g) w wr)) (fun a _ _ => L - (intOf a).toNat)
 case atStart => exact ⟨0,20,[],[],S,rfl,rfl,by omega,by omega,by omega,hide rfl,hide .nil,hide rfl,H,hide (Fr.refl _ _)⟩
 case round =>
  clear H
  obtain ⟨a,b,Zd,Sd,R,rfl,rfl,haL,hb1,hb2,e1,e2,e3,HD,HF⟩:=hrel
  have hRl:R.length = L - a:=by
   have h1:=congrArg List.length e1.out
   have h2:=e2.out.perm.length_eq
   have h3:=e3.out
   have h4:=HL.out
   rw [List.length_append] at h1;omega
  have HR:=hide hRl
  clear hRl
  by_cases hb:b ≤ L
  · have db:decide ((b:Int) ≤ (L:Int)) = true:=decide_eq_true (by omega)
    obtain ⟨R1,R2,hr,hr1,hr2⟩:∃ R1 R2,R = R1 ++ R2 ∧ R1.length = 20 ∧ R2.length = L - b:=⟨R.take 20,R.drop 20,(List.take_append_drop _ _).symm,by have:=HR.out;simp;omega,by have:=HR.out;simp;omega⟩
    subst hr
    have hpw:=HS.out.1
    rw [e1.out,List.pairwise_append] at hpw
    have ins:=insertion_any g B c a b L ws Zd R1 R2 wr HD.out (by have:=HR.out;have:=e3.out;rw [List.length_append];omega) e3.out.symm (by have:=e3.out;omega) hlen (List.pairwise_append.1 hpw.2.1).1 (fun x hx => HS.out.2 x (by rw [e1.out];simp [hx])) (HC.out.fr HF.out)
    have HI:=hide ins
    have HR12:=hide (And.intro hr1 hr2)
    clear ins hpw hr1 hr2
    go_wp2_with (go_at_call 216;refine (Calls.mono HI.out ?_);rintro e9 w9 ⟨Z9,rfl,hp9,hs9,hd9,hf9⟩;have HP9:=hide hp9;have HS9:=hide hs9;have HD9:=hide hd9;have HF9:=hide hf9;clear hp9 hs9 hd9 hf9)
    go_roundw
    case rel =>
     have hz:=HP9.out.length_eq
     exact ⟨b,b + 20,Zd ++ Z9,Sd ++ R1,R2,rfl,by go_num,hb,by omega,by omega,hide (by rw [e1.out];simp),hide (.snoc e2.out (by rw [hz];exact HR12.out.1) HP9.out HS9.out),hide (by have:=HR12.out;have:=e3.out;rw [List.length_append];omega),hide (by have:=HD9.out;simpa using this),hide (HF.out.trans HF9.out (fun _ h => .inl h))⟩
    case measure => simp [intOf];omega
  · have db:decide ((b:Int) ≤ (L:Int)) = false:=decide_eq_false (by omega)
    have hpw:=HS.out.1
    rw [e1.out,List.pairwise_append] at hpw
    have ins:=insertion_any g B c a L L ws Zd R [] wr (by have:=HD.out;simpa using this) (by have:=HR.out;have:=e3.out;simp;omega) e3.out.symm (by have:=e3.out;have:=HR.out;omega) hlen hpw.2.1 (fun x hx => HS.out.2 x (by rw [e1.out];simp [hx])) (HC.out.fr HF.out)
    have HI:=hide ins
    clear ins hpw
    go_wp2_with (go_at_call 216;refine (Calls.mono HI.out ?_);rintro e9 w9 ⟨Z9,rfl,hp9,hs9,hd9,hf9⟩;have HP9:=hide hp9;have HS9:=hide hs9;have HD9:=hide hd9;have HF9:=hide hf9;clear hp9 hs9 hd9 hf9)
    have blk:Blk ws 20 (Zd ++ Z9) S:=by
     rw [e1.out]
     refine Blk.all (.last ?_ HP9.out HS9.out) e2.out
     have:=HP9.out.length_eq;have:=HR.out;omega
    have HBl:=hide blk
    have HF2:=hide (HF.out.trans HF9.out (fun _ h => .inl h))
    have HD2:Hid (Dat w9 g (Zd ++ Z9)):=hide (by have:=HD9.out;simpa using this)
    clear blk HD HF HD9 HF9 HI HP9 HS9 HR e1 e2 e3
    go_loopw [6] (fun vk wr => ∃ (k:Nat) (Z:List Nat),vk = .int .i64 k ∧ 20 ≤ k ∧ k ≤ 2000000 ∧ Hid (Blk ws k Z S) ∧ Hid (Dat wr g Z) ∧ Hid (Fr (fun k => k = g) w wr)) (fun k _ => L - (intOf k).toNat)
    case atStart => exact ⟨20,Zd ++ Z9,rfl,by omega,by omega,HBl,HD2,HF2⟩
    case round =>
     clear HBl HD2 HF2
     obtain ⟨k,Z,rfl,hk1,hk2,HBl,HD,HF⟩:=hrel
     have hzl:Z.length = L:=by have:=HBl.out.perm.length_eq;have:=HL.out;omega
     have HZl:=hide hzl
     clear hzl
     by_cases hkL:k < L
     · have dk:decide ((k:Int) < (L:Int)) = true:=decide_eq_true (by omega)
       go_wp2_with fail
       go_loopw [7,8] (fun va vb wx => ∃ (a b:Nat) (Zd Sd Zr Sr:List Nat),va = .int .i64 a ∧ vb = .int .i64 b ∧ a ≤ L ∧ b ≤ a + 2 * k ∧ a + 2 * k ≤ b ∧ Hid (S = Sd ++ Sr) ∧ Hid (Full ws (2 * k) Zd Sd) ∧ Hid (Blk ws k Zr Sr) ∧ Hid (Zd.length = a) ∧ Hid (Zr.length = L - a) ∧ Hid (Dat wx g (Zd ++ Zr)) ∧ Hid (Fr (fun k => k = g) w wx)) (fun a _ _ => L - (intOf a).toNat)
       case atStart => exact ⟨0,2 * k,[],[],Z,S,rfl,v_int (by omega),by omega,by omega,by omega,hide rfl,hide .nil,HBl,hide rfl,hide (by have:=HZl.out;omega),HD,HF⟩
       case round =>
        clear HBl HD HF HZl
        obtain ⟨a,b,Zd,Sd,Zr,Sr,rfl,rfl,haL,hb1,hb2,e1,e2,e3,e4,e5,HD,HF⟩:=hrel
        by_cases hb:b ≤ L
        · have db:decide ((b:Int) ≤ (L:Int)) = true:=decide_eq_true (by omega)
          obtain ⟨Z1,Zs,S1,Ss,hz1,hs1,hl1,hp1,ho1,hB1⟩:=e3.out.first (by have:=e5.out;omega)
          obtain ⟨Z2,Zt,S2,St,hz2,hs2,hl2,hp2,ho2,hB2⟩:=hB1.first (by have:=e5.out;rw [hz1,List.length_append] at this;omega)
          subst hz1 hs1 hz2 hs2
          have hm:a + k ≤ L:=by omega
          have hIn:∀ x ∈ S1 ++ S2,x < ws.length:=fun x hx => HS.out.2 x (by rw [e1.out];simp only [List.mem_append] at hx ⊢;rcases hx with h | h <;> simp [h])
          have sym:=sym_ok g B c L ws hlen _ a (a + k) b Zd Z1 Z2 Zt wr (Nat.le_refl _) (by omega) (by omega) HD.out (by have:=e5.out;have:=e4.out;simp only [List.length_append] at *;omega) e4.out.symm (by have:=e4.out;omega) (by have:=e4.out;omega) ho1 ho2 (ltS HS.out.1 e1.out hp1 hp2) (fun x hx => hIn x (List.mem_append_left _ (hp1.subset hx))) (fun x hx => hIn x (List.mem_append_right _ (hp2.subset hx))) (HC.out.fr HF.out)
          have HSy:=hide sym
          have HP12:=hide (hp1.append hp2)
          have HL12:=hide (And.intro hl1 hl2)
          have HB2:=hide hB2
          clear sym hp1 hp2 ho1 ho2 hIn hB1 hB2 hl1 hl2
          go_wp2_with (go_at_call 259;refine (Calls.mono HSy.out ?_);rintro e9 w9 ⟨Z9,rfl,hp9,hs9,hd9,hf9⟩;have HP9:=hide hp9;have HS9:=hide hs9;have HD9:=hide hd9;have HF9:=hide hf9;clear hp9 hs9 hd9 hf9)
          go_roundw
          case rel =>
           have hl9:Z9.length = 2 * k:=by have:=HP9.out.length_eq;have:=HL12.out;rw [List.length_append] at *;omega
           refine ⟨b,b + 2 * k,Zd ++ Z9,Sd ++ (S1 ++ S2),Zt,St,rfl,v_int (by omega),hb,by omega,by omega,hide (by rw [e1.out];simp),hide (.snoc e2.out hl9 (HP9.out.trans HP12.out) HS9.out),HB2,hide (by have:=e4.out;rw [List.length_append];omega),hide ?_,hide (by have:=HD9.out;simpa using this),hide (HF.out.trans HF9.out (fun _ h => .inl h))⟩
           have:=e5.out
           have:=HL12.out
           simp only [List.length_append] at *
           omega
          case measure => simp [intOf];omega
        · have db:decide ((b:Int) ≤ (L:Int)) = false:=decide_eq_false (by omega)
          by_cases hm:a + k < L
          · have dm:decide ((a:Int) + (k:Int) < (L:Int)) = true:=decide_eq_true (by omega)
            obtain ⟨Z1,Z2,S1,S2,hz1,hs1,hl1,hp1,ho1,hB1⟩:=e3.out.first (by have:=e5.out;omega)
            subst hz1 hs1
            have hl2:Z2.length = L - a - k:=by have:=e5.out;rw [List.length_append] at this;omega
            have ho2:=hB1.one (by omega)
            have hp2:=hB1.perm
            have hIn:∀ x ∈ S1 ++ S2,x < ws.length:=fun x hx => HS.out.2 x (by rw [e1.out];exact List.mem_append_right _ hx)
            have sym:=sym_ok g B c L ws hlen _ a (a + k) L Zd Z1 Z2 [] wr (Nat.le_refl _) (by omega) (by omega) (by have:=HD.out;simpa using this) (by have:=e4.out;simp only [List.length_append,List.length_nil];omega) e4.out.symm (by have:=e4.out;omega) (by have:=e4.out;omega) ho1 ho2 (ltS (C:=[]) HS.out.1 (by simpa using e1.out) hp1 hp2) (fun x hx => hIn x (List.mem_append_left _ (hp1.subset hx))) (fun x hx => hIn x (List.mem_append_right _ (hp2.subset hx))) (HC.out.fr HF.out)
            have HSy:=hide sym
            have HP12:=hide (hp1.append hp2)
            have HL12:=hide (And.intro hl1 hl2)
            clear sym hp1 hp2 ho1 ho2 hIn hB1 hl1 hl2
            go_wp2_with (go_at_call 259;refine (Calls.mono HSy.out ?_);rintro e9 w9 ⟨Z9,rfl,hp9,hs9,hd9,hf9⟩;have HP9:=hide hp9;have HS9:=hide hs9;have HD9:=hide hd9;have HF9:=hide hf9;clear hp9 hs9 hd9 hf9)
            go_roundw
            case rel =>
             have hl9:Z9.length ≤ 2 * k:=by have:=HP9.out.length_eq;have:=HL12.out;rw [List.length_append] at *;omega
             exact ⟨2 * k,Zd ++ Z9,v_int (by omega),by omega,by omega,hide (by rw [e1.out];exact Blk.all (.last hl9 (HP9.out.trans HP12.out) HS9.out) e2.out),hide (by have:=HD9.out;simpa using this),hide (HF.out.trans HF9.out (fun _ h => .inl h))⟩
            case measure => simp [intOf];omega
          · have dm:decide ((a:Int) + (k:Int) < (L:Int)) = false:=decide_eq_false (by omega)
            go_wp2_with fail
            go_roundw
            case rel =>
             have hl9:Zr.length ≤ k:=by have:=e5.out;omega
             exact ⟨2 * k,Zd ++ Zr,v_int (by omega),by omega,by omega,hide (by rw [e1.out];exact Blk.all (.last (by omega) e3.out.perm (e3.out.one hl9)) e2.out),HD,HF⟩
            case measure => simp [intOf];omega
     · have dk:decide ((k:Int) < (L:Int)) = false:=decide_eq_false (by omega)
       go_wp2_with fail
       refine bodyPost_ret (results_none rfl _ _ _) rfl ?_
       exact ⟨Z,rfl,HBl.out.perm,HBl.out.one (by have:=HZl.out;omega),by have:=HD.out;simpa using this,HF.out⟩
theorem sortStable_any (g B c L:Nat) (ws:List Int) (S:List Nat) (w:World) (h:Dat w g S) (hL:L = S.length) (hlen:L ≤ 1000000) (hS:S.Pairwise (fun x y => x < y)) (hn:∀ x ∈ S,x < ws.length) (hC:CmpAt g B ws w) :
 Calls Tryz.prog 186 #[.slice (some ⟨g,0,none⟩) L c,.func (.func 187) #[] #[.pointer (some ⟨B,0,none⟩)]] w (SortP ws g [] S [] w):=by
 have st:=stable_any g B c L ws S w h hL hlen hS hn hC
 have HSt:=hide st
 clear st h hL hS hn hC
 go_enter Tryz.func186,Tryz.ntmps186
 go_wp2_with (go_at_call 233;refine (Calls.mono HSt.out ?_);rintro e9 w9 ⟨Z9,rfl,hp9,hs9,hd9,hf9⟩;have HP9:=hide hp9;have HS9:=hide hs9;have HD9:=hide hd9;have HF9:=hide hf9;clear hp9 hs9 hd9 hf9)
 refine bodyPost_ret (results_none rfl _ _ _) rfl ?_
 exact ⟨Z9,rfl,HP9.out,HS9.out,HD9.out,HF9.out⟩
def symK (ws:List Int) (k:Nat):List Nat:=(List.range k).filter fun i => decide (0 < ws.getD i 0)
def symL (ws:List Int):List Nat:=symK ws ws.length
def putL (ws:List Int) (x:Nat):List Nat → List Nat
 | [] => [x]
 | y :: l => if ws.getD x 0 < ws.getD y 0 then x :: y :: l else y :: putL ws x l
def ordL (ws:List Int):List Nat:=(symL ws).foldl (fun l x => putL ws x l) []
theorem symK_step (ws:List Int) (k:Nat):symK ws (k + 1) = symK ws k ++ (if 0 < ws.getD k 0 then [k] else []):=by
 unfold symK
 rw [List.range_succ,List.filter_append]
 congr 1
 by_cases h:0 < ws.getD k 0
 · rw [if_pos h,List.filter_cons,if_pos (decide_eq_true h),List.filter_nil]
 · rw [if_neg h,List.filter_cons,if_neg (by rw [decide_eq_false h];decide),List.filter_nil]
theorem symK_lt {ws:List Int} {k x:Nat} (h:x ∈ symK ws k):x < k ∧ 0 < ws.getD x 0:=by
 unfold symK at h
 rw [List.mem_filter] at h
 exact ⟨List.mem_range.1 h.1,by simpa using h.2⟩
theorem symK_mem {ws:List Int} {k x:Nat} (hx:x < k) (h:0 < ws.getD x 0):x ∈ symK ws k:=by
 unfold symK
 rw [List.mem_filter]
 exact ⟨List.mem_range.2 hx,by simpa using h⟩
theorem symK_sorted (ws:List Int) (k:Nat):(symK ws k).Pairwise (fun x y => x < y) :=
 List.Pairwise.filter _ List.pairwise_lt_range
theorem symK_length (ws:List Int) (k:Nat):(symK ws k).length ≤ k:=by
 unfold symK
 exact Nat.le_trans (List.length_filter_le _ _) (by simp)
theorem putL_perm (ws:List Int) (x:Nat) (l:List Nat):(putL ws x l).Perm (x :: l):=by
 induction l with
 | nil => exact List.Perm.refl _
 | cons y l ih =>
   rw [putL]
   split
   · exact List.Perm.refl _
   · exact (List.Perm.cons y ih).trans (List.Perm.swap x y l)
theorem putL_sorted {ws:List Int} {x:Nat} {l:List Nat} (h:l.Pairwise (Lx ws)) (hx:∀ y ∈ l,y < x):(putL ws x l).Pairwise (Lx ws):=by
 induction l with
 | nil => exact List.pairwise_singleton _ _
 | cons y l ih =>
   rw [List.pairwise_cons] at h
   have hy:=hx y (by simp)
   rw [putL]
   split
   · rename_i hlt
     refine List.pairwise_cons.2 ⟨fun z hz => ?_,List.pairwise_cons.2 h⟩
     have hxy:Lx ws x y:=.inl hlt
     rcases List.mem_cons.1 hz with rfl | hz
     · exact hxy
     · exact hxy.trans (h.1 z hz)
   · rename_i hlt
     refine List.pairwise_cons.2 ⟨fun z hz => ?_,ih h.2 (fun z hz => hx z (List.mem_cons_of_mem _ hz))⟩
     rcases List.mem_cons.1 ((putL_perm ws x l).subset hz) with rfl | hz
     · unfold Lx;omega
     · exact h.1 z hz
theorem foldl_put {ws:List Int}:∀ (s l:List Nat),l.Pairwise (Lx ws) → s.Pairwise (fun x y => x < y) → (∀ x ∈ l,∀ y ∈ s,x < y) → ((s.foldl (fun l x => putL ws x l) l).Perm (l ++ s) ∧ (s.foldl (fun l x => putL ws x l) l).Pairwise (Lx ws)):=by
 intro s
 induction s with
 | nil => intro l h _ _;exact ⟨by simp,h⟩
 | cons x s ih =>
   intro l h hs hl
   rw [List.pairwise_cons] at hs
   rw [List.foldl_cons]
   have hp:=putL_perm ws x l
   obtain ⟨p,q⟩:=ih (putL ws x l) (putL_sorted h (fun y hy => hl y hy x (by simp))) hs.2 (fun z hz y hy => by
    rcases List.mem_cons.1 (hp.subset hz) with rfl | hz
    · exact hs.1 y hy
    · exact hl z hz y (List.mem_cons_of_mem _ hy))
   refine ⟨p.trans ?_,q⟩
   have:=hp.append_right s
   exact this.trans (by simpa using List.perm_middle.symm)
theorem ordL_perm (ws:List Int):(ordL ws).Perm (symL ws):=by
 have:=(foldl_put (ws:=ws) (symL ws) [] List.Pairwise.nil (symK_sorted ws _) (by simp)).1
 rwa [List.nil_append] at this
theorem ordL_sorted (ws:List Int):(ordL ws).Pairwise (Lx ws) :=
 (foldl_put (ws:=ws) (symL ws) [] List.Pairwise.nil (symK_sorted ws _) (by simp)).2
theorem order_one {ws:List Int}:∀ {l m:List Nat},l.Perm m → l.Pairwise (Lx ws) → m.Pairwise (Lx ws) → l = m:=by
 intro l
 induction l with
 | nil => intro m h _ _;exact (List.Perm.nil_eq h)
 | cons x l ih =>
   intro m h hl hm
   cases m with
   | nil => exact absurd h.length_eq (by simp)
   | cons y m =>
     rw [List.pairwise_cons] at hl hm
     have hxy:x = y:=by
      rcases List.mem_cons.1 (h.subset (List.mem_cons_self)) with e | e
      · exact e
      · rcases List.mem_cons.1 (h.symm.subset (List.mem_cons_self)) with e2 | e2
        · exact e2.symm
        · exact absurd ((hm.1 x e).trans (hl.1 y e2)) Lx.irrefl
     subst hxy
     rw [ih ((List.perm_cons x).1 h) hl.2 hm.2]
theorem ordL_lt {ws:List Int} {x:Nat} (h:x ∈ ordL ws):x < ws.length ∧ 0 < ws.getD x 0:=symK_lt ((ordL_perm ws).subset h)
theorem ordL_length (ws:List Int):(ordL ws).length ≤ ws.length:=by rw [(ordL_perm ws).length_eq];exact symK_length _ _
structure It where
 w:Nat
 leaf:Int
 first:Nat
deriving DecidableEq
def itV (x:It):List Value:=[.int .u64 x.w,.int .i64 x.leaf,.int .i64 x.first]
def flatV (l:List It):List Value:=l.flatMap itV
theorem flatV_length (l:List It):(flatV l).length = l.length * 3:=by
 unfold flatV
 induction l with
 | nil => rfl
 | cons x l ih => rw [List.flatMap_cons,List.length_append,ih,List.length_cons];simp [itV];omega
theorem flatV_append (a b:List It):flatV (a ++ b) = flatV a ++ flatV b:=by unfold flatV;rw [List.flatMap_append]
theorem flatV_get {l:List It} {j:Nat} {x:It} (h:l[j]? = some x):(flatV l)[j * 3]? = some (.int .u64 x.w) ∧ (flatV l)[j * 3 + 1]? = some (.int .i64 x.leaf) ∧ (flatV l)[j * 3 + 2]? = some (.int .i64 x.first):=by
 obtain ⟨hj,rfl⟩:=List.getElem?_eq_some_iff.1 h
 have e:flatV l = flatV (l.take j) ++ (itV l[j] ++ flatV (l.drop (j + 1))):=by
  conv => lhs;rw [← List.take_append_drop j l,List.drop_eq_getElem_cons hj]
  rw [flatV_append];rfl
 have hl:(flatV (l.take j)).length = j * 3:=by rw [flatV_length,List.length_take];congr 1;omega
 rw [e]
 refine ⟨?_, ?_, ?_⟩
 · rw [List.getElem?_append_right (by omega),hl,Nat.sub_self];rfl
 · rw [List.getElem?_append_right (by omega),hl,Nat.add_sub_cancel_left];rfl
 · rw [List.getElem?_append_right (by omega),hl,Nat.add_sub_cancel_left];rfl
def insM (l:It) (f:List It → List It):List It → List It
 | [] => l :: f []
 | p :: ps => if l.w ≤ p.w then l :: f (p :: ps) else p :: insM l f ps
def mrg:List It → List It → List It
 | [],ps => ps
 | l :: ls,ps => insM l (mrg ls) ps
theorem mrg_nil (ls:List It):mrg ls [] = ls:=by
 induction ls with
 | nil => rfl
 | cons l ls ih => rw [mrg,insM,ih]
theorem mrg_le {l p:It} {ls ps:List It} (h:l.w ≤ p.w):mrg (l :: ls) (p :: ps) = l :: mrg ls (p :: ps):=by rw [mrg,insM,if_pos h]
theorem mrg_gt {l p:It} {ls ps:List It} (h:¬ l.w ≤ p.w):mrg (l :: ls) (p :: ps) = p :: mrg (l :: ls) ps:=by rw [mrg,insM,if_neg h,mrg]
theorem mrg_length (ls ps:List It):(mrg ls ps).length = ls.length + ps.length:=by
 induction ls generalizing ps with
 | nil => rw [mrg];simp
 | cons l ls ih =>
   induction ps with
   | nil => rw [mrg_nil];simp
   | cons p ps ih2 =>
     by_cases h:l.w ≤ p.w
     · rw [mrg_le h,List.length_cons,ih];simp;omega
     · rw [mrg_gt h,List.length_cons,ih2];simp;omega
def leafIts (k:Nat):List Nat → List It
 | [] => []
 | w :: l => ⟨w,k,0⟩ :: leafIts (k + 1) l
def pkgs (i:Nat):List It → List It
 | a :: b :: r => ⟨a.w + b.w,-1,i⟩ :: pkgs (i + 2) r
 | _ => []
theorem leafIts_length (k:Nat) (l:List Nat):(leafIts k l).length = l.length:=by
 induction l generalizing k with
 | nil => rfl
 | cons w l ih => rw [leafIts,List.length_cons,ih,List.length_cons]
theorem pkgs_length:∀ (n i:Nat) (l:List It),l.length ≤ n → (pkgs i l).length = l.length / 2:=by
 intro n
 induction n with
 | zero => intro i l h;have:l = []:=List.eq_nil_of_length_eq_zero (by omega);subst this;rfl
 | succ n ih =>
   intro i l h
   match l,h with
   | [],_ => rfl
   | [_],_ => simp [pkgs]
   | a :: b :: r,h => rw [pkgs,List.length_cons,ih _ r (by simp at h;omega)];simp only [List.length_cons];omega
def nxtL (lw:List Nat) (lv:List It):List It:=mrg (leafIts 0 lw) (pkgs 0 lv)
theorem nxtL_length (lw:List Nat) (lv:List It):(nxtL lw lv).length = lw.length + lv.length / 2:=by
 unfold nxtL
 rw [mrg_length,leafIts_length,pkgs_length _ _ _ (Nat.le_refl _)]
def lwL (ws:List Int):List Nat:=(ordL ws).map fun i => (ws.getD i 0).toNat
theorem lwL_length (ws:List Int):(lwL ws).length = (ordL ws).length:=by unfold lwL;rw [List.length_map]
def lvlL (lw:List Nat):Nat → List It
 | 0 => nxtL lw []
 | j + 1 => nxtL lw (lvlL lw j)
theorem mrg_mem {x:It}:∀ {ls ps:List It},x ∈ mrg ls ps → x ∈ ls ∨ x ∈ ps:=by
 intro ls
 induction ls with
 | nil => intro ps h;rw [mrg] at h;exact .inr h
 | cons l ls ih =>
   intro ps
   induction ps with
   | nil => intro h;rw [mrg_nil] at h;exact .inl h
   | cons p ps ih2 =>
     intro h
     by_cases g:l.w ≤ p.w
     · rw [mrg_le g] at h
       rcases List.mem_cons.1 h with rfl | h
       · exact .inl (by simp)
       · rcases ih h with h | h
         · exact .inl (List.mem_cons_of_mem _ h)
         · exact .inr h
     · rw [mrg_gt g] at h
       rcases List.mem_cons.1 h with rfl | h
       · exact .inr (by simp)
       · rcases ih2 h with h | h
         · exact .inl h
         · exact .inr (List.mem_cons_of_mem _ h)
theorem leafIts_w {x:It} {k:Nat} {l:List Nat} (h:x ∈ leafIts k l):x.w ∈ l:=by
 induction l generalizing k with
 | nil => simp [leafIts] at h
 | cons w l ih =>
   rw [leafIts] at h
   rcases List.mem_cons.1 h with rfl | h
   · simp
   · exact List.mem_cons_of_mem _ (ih h)
theorem pkgs_w {B:Nat}:∀ (n i:Nat) (l:List It),l.length ≤ n → (∀ x ∈ l,x.w ≤ B) → ∀ x ∈ pkgs i l,x.w ≤ 2 * B:=by
 intro n
 induction n with
 | zero => intro i l h _;have:l = []:=List.eq_nil_of_length_eq_zero (by omega);subst this;intro x hx;simp [pkgs] at hx
 | succ n ih =>
   intro i l h hB
   match l,h,hB with
   | [],_,_ => intro x hx;simp [pkgs] at hx
   | [_],_,_ => intro x hx;simp [pkgs] at hx
   | a :: b :: r,h,hB =>
     intro x hx
     rw [pkgs] at hx
     rcases List.mem_cons.1 hx with rfl | hx
     · have h1:=hB a (by simp)
       have h2:=hB b (by simp)
       show a.w + b.w ≤ 2 * B
       omega
     · exact ih _ r (by simp at h;omega) (fun y hy => hB y (by simp [hy])) x hx
theorem nxtL_w {lw:List Nat} {lv:List It} {B:Nat} (h1:∀ x ∈ lw,x ≤ 2 * B) (h2:∀ x ∈ lv,x.w ≤ B):∀ x ∈ nxtL lw lv,x.w ≤ 2 * B:=by
 intro x hx
 rcases mrg_mem hx with h | h
 · exact h1 _ (leafIts_w h)
 · exact pkgs_w _ _ lv (Nat.le_refl _) h2 x h
theorem lvlL_w {lw:List Nat} {B:Nat} (h:∀ x ∈ lw,x ≤ B) (j:Nat):∀ x ∈ lvlL lw j,x.w ≤ B * 2 ^ (j + 1):=by
 induction j with
 | zero =>
   intro x hx
   have:=nxtL_w (B:=B) (fun x hx => by have:=h x hx;omega) (lv:=[]) (by simp) x hx
   rw [Nat.pow_one];omega
 | succ j ih =>
   intro x hx
   have h2:1 ≤ 2 ^ (j + 1):=Nat.one_le_two_pow
   have:=nxtL_w (B:=B * 2 ^ (j + 1)) (fun x hx => by
    have:=h x hx
    have:=Nat.le_mul_of_pos_right B (show 0 < 2 ^ (j + 1) by omega)
    omega) ih x hx
   rw [Nat.pow_succ]
   have e:B * (2 ^ (j + 1) * 2) = 2 * (B * 2 ^ (j + 1)):=by rw [← Nat.mul_assoc,Nat.mul_comm]
   rw [e];exact this
theorem lvlL_length (lw:List Nat) (j:Nat):(lvlL lw j).length ≤ 2 * lw.length:=by
 induction j with
 | zero => rw [lvlL,nxtL_length];simp;omega
 | succ j ih => rw [lvlL,nxtL_length];omega
end Go.Proofs.YtcfnjpokfodmoaaGreatDoor
