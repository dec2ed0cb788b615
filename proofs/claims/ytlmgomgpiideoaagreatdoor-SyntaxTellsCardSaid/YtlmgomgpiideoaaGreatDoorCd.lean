import Derived.Test.YtlmgomgpiideoaaGreatDoorCc
import Derived.Test.YtlmgomgpiideoaaGreatDoorLc
import Derived.Test.YtlmgomgpiideoaaGreatDoorLd
import Derived.Lay
import Derived.Lib.LaidTab
import Derived.LaidLaws
import Derived.KernelRfl
import Derived.Test.YtlmgomgpiideoaaGreatDoorRows
namespace Go.Proofs.YtlmgomgpiideoaaGreatDoor
open Go.Own
set_option maxHeartbeats 4000000
theorem rightE_okE {e:Exp} (h:rightE e=true):OkE e:=((rightE_iff e).1 h).1.okE
theorem Rt.okX {x:Ind} (h:Rt x):OkX x:=by
 have n1:∀ l:List (List UInt8),uniqB l 20=true→l.length≤20∧∀ s∈l,s.length≤20:=fun l hl=>by
  obtain ⟨a,b,c⟩:=(uniq_iff l 20).1 hl
  exact ⟨by omega,fun s hs=>name_len20 (a s hs)⟩
 obtain ⟨l1,l2⟩:=n1 _ h.ulets
 obtain ⟨c1,c2⟩:=n1 _ h.ucov
 obtain ⟨f1,f2⟩:=n1 _ h.fav
 rw [List.length_map] at l1 c1
 have:=name_len20 h.name
 have:=name_len20 h.issuer
 have:=h.ncalls
 have i:∀ n a b:Int,a≤n∧n≤b→-9223372036854775808≤a→b≤9223372036854775807→in64 n:=fun n a b h1 h2 h3=>⟨by omega,by omega⟩
 exact ⟨by omega,by omega,rightE_okE h.coupon,by omega,fun l hl=>⟨by have:=l2 l.name (List.mem_map_of_mem hl);omega,rightE_okE (h.lets l hl)⟩,by omega,
  fun c hc=>⟨by have:=c2 c.name (List.mem_map_of_mem hc);omega,rightE_okE (h.cov c hc).1,i _ _ _ (h.cov c hc).2 (by omega) (by omega)⟩,
  by omega,fun s hs=>by have:=f2 s hs;omega,by omega,fun c hc=>⟨i _ _ _ (h.calls c hc).1 (by omega) (by omega),i _ _ _ (h.calls c hc).2 (by omega) (by omega)⟩,
  i _ _ _ h.face (by omega) (by omega),i _ _ _ h.frm (by omega) (by omega),i _ _ _ h.to (by omega) (by omega),i _ _ _ h.every (by omega) (by omega),i _ _ _ h.count (by omega) (by omega),i _ _ _ h.adjust (by omega) (by omega),i _ _ _ h.record (by omega) (by omega),i _ _ _ h.rank (by omega) (by omega),i _ _ _ h.cap (by omega) (by omega),i _ _ _ h.cross (by omega) (by omega),i _ _ _ h.notice (by omega) (by omega),i _ _ _ h.sink (by omega) (by omega),i _ _ _ h.majority (by omega) (by omega),i _ _ _ h.fast (by omega) (by omega)⟩
theorem ind_rt {T r r':List Tok} {x:Ind} (h:PSt T r) (e:indP r=.ok (x,r')):Rt x:=by
 rcases e1:wantP [105,115,115,117,101] r with er | r1
 ·have hi:indP r=.error er:=by simp only [indP,wantsP,e1,ok_bind,er_bind]
  rw [hi] at e
  cases e
 have q1:PSt T r1:=PSt.to h (wantP_suf e1)
 rcases e2:nameP r1 with er | ⟨x2,r2⟩
 ·have hi:indP r=.error er:=by simp only [indP,wantsP,e1,e2,ok_bind,er_bind]
  rw [hi] at e
  cases e
 have b2:=nameP_le q1 e2
 have q2:PSt T r2:=PSt.to q1 (nameP_suf e2)
 rcases e3:wantP [111,102] r2 with er | r3
 ·have hi:indP r=.error er:=by simp only [indP,wantsP,e1,e2,e3,ok_bind,er_bind]
  rw [hi] at e
  cases e
 have q3:PSt T r3:=PSt.to q2 (wantP_suf e3)
 rcases e4:nameP r3 with er | ⟨x4,r4⟩
 ·have hi:indP r=.error er:=by simp only [indP,wantsP,e1,e2,e3,e4,ok_bind,er_bind]
  rw [hi] at e
  cases e
 have b4:=nameP_le q3 e4
 have q4:PSt T r4:=PSt.to q3 (nameP_suf e4)
 rcases e5:wantP [59] r4 with er | r5
 ·have hi:indP r=.error er:=by simp only [indP,wantsP,e1,e2,e3,e4,e5,ok_bind,er_bind]
  rw [hi] at e
  cases e
 have q5:PSt T r5:=PSt.to q4 (wantP_suf e5)
 rcases e6:partP [102,97,99,101] 1 1000000000000000 r5 with er | ⟨x6,r6⟩
 ·have hi:indP r=.error er:=by simp only [indP,wantsP,e1,e2,e3,e4,e5,e6,ok_bind,er_bind]
  rw [hi] at e
  cases e
 have b6:=partP_bnd q5 e6
 have q6:PSt T r6:=PSt.to q5 (partP_suf e6)
 rcases e7:wantP [102,114,111,109] r6 with er | r7
 ·have hi:indP r=.error er:=by simp only [indP,wantsP,e1,e2,e3,e4,e5,e6,e7,ok_bind,er_bind]
  rw [hi] at e
  cases e
 have q7:PSt T r7:=PSt.to q6 (wantP_suf e7)
 rcases e8:dateP (-1) r7 with er | ⟨x8,r8⟩
 ·have hi:indP r=.error er:=by simp only [indP,wantsP,e1,e2,e3,e4,e5,e6,e7,e8,ok_bind,er_bind]
  rw [hi] at e
  cases e
 have b8:=dateP_bnd e8
 have q8:PSt T r8:=PSt.to q7 (dateP_suf e8)
 rcases e9:wantP [116,111] r8 with er | r9
 ·have hi:indP r=.error er:=by simp only [indP,wantsP,e1,e2,e3,e4,e5,e6,e7,e8,e9,ok_bind,er_bind]
  rw [hi] at e
  cases e
 have q9:PSt T r9:=PSt.to q8 (wantP_suf e9)
 rcases e10:dateP x8 r9 with er | ⟨x10,r10⟩
 ·have hi:indP r=.error er:=by simp only [indP,wantsP,e1,e2,e3,e4,e5,e6,e7,e8,e9,e10,ok_bind,er_bind]
  rw [hi] at e
  cases e
 have b10:=dateP_bnd e10
 have q10:PSt T r10:=PSt.to q9 (dateP_suf e10)
 rcases e11:wantP [101,118,101,114,121] r10 with er | r11
 ·have hi:indP r=.error er:=by simp only [indP,wantsP,e1,e2,e3,e4,e5,e6,e7,e8,e9,e10,e11,ok_bind,er_bind]
  rw [hi] at e
  cases e
 have q11:PSt T r11:=PSt.to q10 (wantP_suf e11)
 rcases e12:numP 1 120 r11 with er | ⟨x12,r12⟩
 ·have hi:indP r=.error er:=by simp only [indP,wantsP,e1,e2,e3,e4,e5,e6,e7,e8,e9,e10,e11,e12,ok_bind,er_bind]
  rw [hi] at e
  cases e
 have b12:=(numP_le q11 e12).2
 have q12:PSt T r12:=PSt.to q11 ((numP_suf e12).1)
 rcases e13:wantP [109,111,110,116,104,115] r12 with er | r13
 ·have hi:indP r=.error er:=by simp only [indP,wantsP,e1,e2,e3,e4,e5,e6,e7,e8,e9,e10,e11,e12,e13,ok_bind,er_bind]
  rw [hi] at e
  cases e
 have q13:PSt T r13:=PSt.to q12 (wantP_suf e13)
 rcases e14:wantP [59] r13 with er | r14
 ·have hi:indP r=.error er:=by simp only [indP,wantsP,e1,e2,e3,e4,e5,e6,e7,e8,e9,e10,e11,e12,e13,e14,ok_bind,er_bind]
  rw [hi] at e
  cases e
 have q14:PSt T r14:=PSt.to q13 (wantP_suf e14)
 rcases e15:oneP [99,111,117,110,116] cntW r14 with er | ⟨x15,r15⟩
 ·have hi:indP r=.error er:=by simp only [indP,wantsP,e1,e2,e3,e4,e5,e6,e7,e8,e9,e10,e11,e12,e13,e14,e15,ok_bind,er_bind]
  rw [hi] at e
  cases e
 have b15:=oneP_bnd e15
 have q15:PSt T r15:=PSt.to q14 (oneP_suf e15)
 rcases e16:oneP [97,100,106,117,115,116] adjW r15 with er | ⟨x16,r16⟩
 ·have hi:indP r=.error er:=by simp only [indP,wantsP,e1,e2,e3,e4,e5,e6,e7,e8,e9,e10,e11,e12,e13,e14,e15,e16,ok_bind,er_bind]
  rw [hi] at e
  cases e
 have b16:=oneP_bnd e16
 have q16:PSt T r16:=PSt.to q15 (oneP_suf e16)
 rcases e17:partP [114,101,99,111,114,100] 0 100 r16 with er | ⟨x17,r17⟩
 ·have hi:indP r=.error er:=by simp only [indP,wantsP,e1,e2,e3,e4,e5,e6,e7,e8,e9,e10,e11,e12,e13,e14,e15,e16,e17,ok_bind,er_bind]
  rw [hi] at e
  cases e
 have b17:=partP_bnd q16 e17
 have q17:PSt T r17:=PSt.to q16 (partP_suf e17)
 rcases e18:partP [114,97,110,107] 0 9 r17 with er | ⟨x18,r18⟩
 ·have hi:indP r=.error er:=by simp only [indP,wantsP,e1,e2,e3,e4,e5,e6,e7,e8,e9,e10,e11,e12,e13,e14,e15,e16,e17,e18,ok_bind,er_bind]
  rw [hi] at e
  cases e
 have b18:=partP_bnd q17 e18
 have q18:PSt T r18:=PSt.to q17 (partP_suf e18)
 rcases e19:letsP r18.length [] r18 with er | ⟨x19,r19⟩
 ·have hi:indP r=.error er:=by simp only [indP,wantsP,e1,e2,e3,e4,e5,e6,e7,e8,e9,e10,e11,e12,e13,e14,e15,e16,e17,e18,e19,ok_bind,er_bind]
  rw [hi] at e
  cases e
 have b19:=letsP_made _ [] _ _ _ q18 (fun l hl=>by cases hl) uq_nil (by simp) e19
 have q19:PSt T r19:=PSt.to q18 (letsP_suf _ e19)
 rcases e20:wantP [99,111,117,112,111,110] r19 with er | r20
 ·have hi:indP r=.error er:=by simp only [indP,wantsP,e1,e2,e3,e4,e5,e6,e7,e8,e9,e10,e11,e12,e13,e14,e15,e16,e17,e18,e19,e20,ok_bind,er_bind]
  rw [hi] at e
  cases e
 have q20:PSt T r20:=PSt.to q19 (wantP_suf e20)
 rcases e21:wholeP [59] r20 with er | ⟨x21,r21⟩
 ·have hi:indP r=.error er:=by simp only [indP,wantsP,e1,e2,e3,e4,e5,e6,e7,e8,e9,e10,e11,e12,e13,e14,e15,e16,e17,e18,e19,e20,e21,ok_bind,er_bind]
  rw [hi] at e
  cases e
 have b21:=wholeP_made q20 e21
 have q21:PSt T r21:=PSt.to q20 (wholeP_suf e21)
 rcases e22:partP [99,97,112] 0 10000 r21 with er | ⟨x22,r22⟩
 ·have hi:indP r=.error er:=by simp only [indP,wantsP,e1,e2,e3,e4,e5,e6,e7,e8,e9,e10,e11,e12,e13,e14,e15,e16,e17,e18,e19,e20,e21,e22,ok_bind,er_bind]
  rw [hi] at e
  cases e
 have b22:=partP_bnd q21 e22
 have q22:PSt T r22:=PSt.to q21 (partP_suf e22)
 rcases e23:covsP r22.length [] r22 with er | ⟨x23,r23⟩
 ·have hi:indP r=.error er:=by simp only [indP,wantsP,e1,e2,e3,e4,e5,e6,e7,e8,e9,e10,e11,e12,e13,e14,e15,e16,e17,e18,e19,e20,e21,e22,e23,ok_bind,er_bind]
  rw [hi] at e
  cases e
 have b23:=covsP_made _ [] _ _ _ q22 (fun l hl=>by cases hl) uq_nil (by simp) e23
 have q23:PSt T r23:=PSt.to q22 (covsP_suf _ e23)
 rcases e24:favP r23 with er | ⟨x24,r24⟩
 ·have hi:indP r=.error er:=by simp only [indP,wantsP,e1,e2,e3,e4,e5,e6,e7,e8,e9,e10,e11,e12,e13,e14,e15,e16,e17,e18,e19,e20,e21,e22,e23,e24,ok_bind,er_bind]
  rw [hi] at e
  cases e
 have b24:=favP_made e24
 have q24:PSt T r24:=PSt.to q23 (favP_suf e24)
 rcases e25:maybeP [99,114,111,115,115] 1000000000000000 (-1) r24 with er | ⟨x25,r25⟩
 ·have hi:indP r=.error er:=by simp only [indP,wantsP,e1,e2,e3,e4,e5,e6,e7,e8,e9,e10,e11,e12,e13,e14,e15,e16,e17,e18,e19,e20,e21,e22,e23,e24,e25,ok_bind,er_bind]
  rw [hi] at e
  cases e
 have b25:=maybeP_bnd q24 e25
 have q25:PSt T r25:=PSt.to q24 (maybeP_suf e25)
 rcases e26:callsP r25.length [] r25 with er | ⟨x26,r26⟩
 ·have hi:indP r=.error er:=by simp only [indP,wantsP,e1,e2,e3,e4,e5,e6,e7,e8,e9,e10,e11,e12,e13,e14,e15,e16,e17,e18,e19,e20,e21,e22,e23,e24,e25,e26,ok_bind,er_bind]
  rw [hi] at e
  cases e
 have b26:=callsP_made _ [] _ _ _ q25 (fun l hl=>by cases hl) (by simp) e26
 have q26:PSt T r26:=PSt.to q25 (callsP_suf _ e26)
 rcases e27:maybeP [110,111,116,105,99,101] 1000 0 r26 with er | ⟨x27,r27⟩
 ·have hi:indP r=.error er:=by simp only [indP,wantsP,e1,e2,e3,e4,e5,e6,e7,e8,e9,e10,e11,e12,e13,e14,e15,e16,e17,e18,e19,e20,e21,e22,e23,e24,e25,e26,e27,ok_bind,er_bind]
  rw [hi] at e
  cases e
 have b27:=maybeP_bnd q26 e27
 have q27:PSt T r27:=PSt.to q26 (maybeP_suf e27)
 rcases e28:maybeP [115,105,110,107] 1000 0 r27 with er | ⟨x28,r28⟩
 ·have hi:indP r=.error er:=by simp only [indP,wantsP,e1,e2,e3,e4,e5,e6,e7,e8,e9,e10,e11,e12,e13,e14,e15,e16,e17,e18,e19,e20,e21,e22,e23,e24,e25,e26,e27,e28,ok_bind,er_bind]
  rw [hi] at e
  cases e
 have b28:=maybeP_bnd q27 e28
 have q28:PSt T r28:=PSt.to q27 (maybeP_suf e28)
 rcases e29:partP [109,97,106,111,114,105,116,121] 1 1000 r28 with er | ⟨x29,r29⟩
 ·have hi:indP r=.error er:=by simp only [indP,wantsP,e1,e2,e3,e4,e5,e6,e7,e8,e9,e10,e11,e12,e13,e14,e15,e16,e17,e18,e19,e20,e21,e22,e23,e24,e25,e26,e27,e28,e29,ok_bind,er_bind]
  rw [hi] at e
  cases e
 have b29:=partP_bnd q28 e29
 have q29:PSt T r29:=PSt.to q28 (partP_suf e29)
 rcases e30:partP [102,97,115,116] 1 1000 r29 with er | ⟨x30,r30⟩
 ·have hi:indP r=.error er:=by simp only [indP,wantsP,e1,e2,e3,e4,e5,e6,e7,e8,e9,e10,e11,e12,e13,e14,e15,e16,e17,e18,e19,e20,e21,e22,e23,e24,e25,e26,e27,e28,e29,e30,ok_bind,er_bind]
  rw [hi] at e
  cases e
 have b30:=partP_bnd q29 e30
 have q30:PSt T r30:=PSt.to q29 (partP_suf e30)
 have hi:indP r=if (hdT r30).kind=3 then .ok (⟨x2,x4,x6,x8,x10,x12,x15,x16,x17,x18,x19,x21,x22,x23,x24,x25,x26,x27,x28,x29,x30⟩,r30) else errP 12 r30:=by simp only [indP,wantsP,e1,e2,e3,e4,e5,e6,e7,e8,e9,e10,e11,e12,e13,e14,e15,e16,e17,e18,e19,e20,e21,e22,e23,e24,e25,e26,e27,e28,e29,e30,ok_bind,er_bind]
 rw [hi] at e
 by_cases hk:(hdT r30).kind=3
 case neg =>
  rw [if_neg hk] at e
  cases e
 rw [if_pos hk] at e
 cases e
 have hc:cntW.length=3:=rfl
 have ha:adjW.length=4:=rfl
 rw [hc] at b15
 rw [ha] at b16
 exact ⟨b8.2,b10.2,b10.1,b6,b12,(by show 0≤x15∧x15≤2;omega),(by show 0≤x16∧x16≤3;omega),b17,b18,b22,(by show -1≤x25∧x25≤1000000000000000;omega),(by show 0≤x27∧x27≤1000;omega),(by show 0≤x28∧x28≤1000;omega),b29,b30,b2.2.1,b4.2.1,b26.2,uq_uniq b24.1 b24.2,uq_uniq b19.2.1 (by rw [List.length_map];exact b19.2.2),uq_uniq b23.2.1 (by rw [List.length_map];exact b23.2.2),b21,b19.1,b23.1,b26.1⟩
theorem parse_rt {s:List UInt8} {x:Ind} (h:parseR s=.ok x):Rt x:=by
 unfold parseR at h
 cases e1:lexR s with
 | error e=>rw [e1] at h;cases h
 | ok T =>
  rw [e1] at h
  dsimp only at h
  cases e2:indP T with
  | error e=>rw [e2] at h;cases h
  | ok v =>
   obtain ⟨y,r⟩:=v
   rw [e2] at h
   cases h
   exact ind_rt (lexR_ok e1) e2
theorem parseE_right {s:List UInt8} {x:Exp} (h:parseER s=.ok x):rightE x=true:=by
 unfold parseER at h
 cases e1:lexR s with
 | error e=>rw [e1] at h;cases h
 | ok T =>
  rw [e1] at h
  dsimp only at h
  cases e2:expP T.length 0 T with
  | error e=>rw [e2] at h;cases h
  | ok v =>
   obtain ⟨y,r⟩:=v
   rw [e2] at h
   dsimp only at h
   have hm:=expP_made T _ _ _ _ _ (lexR_ok e1) e2
   split at h
   ·cases h
   split at h
   ·rename_i hl
    cases h
    exact (rightE_iff _).2 ⟨hm.1,by omega⟩
   ·cases h
set_option maxHeartbeats 40000000
set_option maxRecDepth 100000
def decF:Nat→Nat→List UInt8
 | 0,_=>[]
 | k+1,u=>if u<10 then [UInt8.ofNat (48+u)] else decF k (u / 10)++[UInt8.ofNat (48+u % 10)]
theorem dec_F:∀ (k u:Nat),u<10 ^ k→1≤k→Lib.decDigits u=decF k u
 | 0,_,_,h=>absurd h (by decide)
 | k+1,u,h,_=>by
  rw [Lib.decDigits,decF]
  split
  ·rfl
  ·rename_i hu
   have hk:1≤k:=by
    rcases Nat.eq_zero_or_pos k with rfl | h'
    ·rw [Nat.zero_add,Nat.pow_one] at h;omega
    ·exact h'
   rw [dec_F k (u / 10) (by rw [Nat.pow_succ] at h;omega) hk]
theorem itoa_F (u:Nat) (h:u<10 ^ 4):Lib.itoa (u:Int)=decF 4 u:=by rw [Lib.itoa_nonneg,dec_F 4 u h (by decide)]
theorem it1:Lib.itoa 1=[49]:=(itoa_F 1 (by decide)).trans (by decide)
theorem it2:Lib.itoa 2=[50]:=(itoa_F 2 (by decide)).trans (by decide)
theorem it3:Lib.itoa 3=[51]:=(itoa_F 3 (by decide)).trans (by decide)
theorem it5:Lib.itoa 5=[53]:=(itoa_F 5 (by decide)).trans (by decide)
theorem it6:Lib.itoa 6=[54]:=(itoa_F 6 (by decide)).trans (by decide)
theorem it15:Lib.itoa 15=[49,53]:=(itoa_F 15 (by decide)).trans (by decide)
theorem it20:Lib.itoa 20=[50,48]:=(itoa_F 20 (by decide)).trans (by decide)
theorem it30:Lib.itoa 30=[51,48]:=(itoa_F 30 (by decide)).trans (by decide)
theorem it100:Lib.itoa 100=[49,48,48]:=(itoa_F 100 (by decide)).trans (by decide)
theorem it250:Lib.itoa 250=[50,53,48]:=(itoa_F 250 (by decide)).trans (by decide)
theorem it667:Lib.itoa 667=[54,54,55]:=(itoa_F 667 (by decide)).trans (by decide)
theorem it1000:Lib.itoa 1000=[49,48,48,48]:=(itoa_F 1000 (by decide)).trans (by decide)
theorem it1010:Lib.itoa 1010=[49,48,49,48]:=(itoa_F 1010 (by decide)).trans (by decide)
theorem it2000:Lib.itoa 2000=[50,48,48,48]:=(itoa_F 2000 (by decide)).trans (by decide)
theorem it2005:Lib.itoa 2005=[50,48,48,53]:=(itoa_F 2005 (by decide)).trans (by decide)
theorem it2010:Lib.itoa 2010=[50,48,49,48]:=(itoa_F 2010 (by decide)).trans (by decide)
theorem it5000:Lib.itoa 5000=[53,48,48,48]:=(itoa_F 5000 (by decide)).trans (by decide)
theorem fo0:formO 0=7:=by kernel_rfl
theorem fo1:formO 1=7:=by kernel_rfl
theorem fo2:formO 2=7:=by kernel_rfl
theorem fo3:formO 3=7:=by kernel_rfl
theorem fo4:formO 4=5:=by kernel_rfl
theorem fo6:formO 6=6:=by kernel_rfl
theorem fo7:formO 7=6:=by kernel_rfl
theorem fo10:formO 10=4:=by kernel_rfl
theorem fo17:formO 17=7:=by kernel_rfl
theorem op4:oprL[(oprI 4).toNat]?.getD o0=⟨[43],4,5⟩:=by kernel_rfl
theorem op6:oprL[(oprI 6).toNat]?.getD o0=⟨[42],6,6⟩:=by kernel_rfl
theorem op7:oprL[(oprI 7).toNat]?.getD o0=⟨[47],7,6⟩:=by kernel_rfl
theorem op10:oprL[(oprI 10).toNat]?.getD o0=⟨[60],10,4⟩:=by kernel_rfl
def docT:List UInt8:=[105,115,115,117,101,32,97,32,111,102,32,98,32,59,32,102,97,99,101,32,49,48,48,48,32,59,32,102,114,111,109,32,50,48,48,48,32,45,32,49,32,45,32,49,53,32,116,111,32,50,48,49,48,32,45,32,49,32,45,32,49,53,32,101,118,101,114,121,32,54,32,109,111,110,116,104,115,32,59,32,99,111,117,110,116,32,116,104,105,114,116,121,32,59,32,97,100,106,117,115,116,32,110,101,120,116,32,59,32,114,101,99,111,114,100,32,50,32,59,32,114,97,110,107,32,49,32,59,32,108,101,116,32,98,97,115,101,32,61,32,50,48,32,109,105,108,108,101,32,59,32,99,111,117,112,111,110,32,98,97,115,101,32,43,32,114,97,116,101,32,99,32,47,32,50,32,59,32,99,97,112,32,49,48,48,32,59,32,99,111,118,101,110,97,110,116,32,99,111,118,101,114,32,109,117,115,116,32,102,97,99,116,32,100,101,98,116,32,60,32,51,32,42,32,102,97,99,116,32,101,98,105,116,32,103,114,97,99,101,32,51,48,32,59,32,102,97,118,111,117,114,32,99,32,59,32,99,114,111,115,115,32,53,48,48,48,32,59,32,99,97,108,108,32,50,48,48,53,32,45,32,49,32,45,32,49,53,32,97,116,32,49,48,49,48,32,59,32,109,97,106,111,114,105,116,121,32,54,54,55,32,59,32,102,97,115,116,32,50,53,48,32,59]
def exT:List UInt8:=[108,111,110,103,32,51,48,40,102,97,99,116,32,100,101,98,116,60,50,42,102,97,99,116,32,99,97,115,104,41]
def exE:Exp:=.mk 17 30 0 [] [.mk 10 0 0 [] [.mk 2 0 0 [100,101,98,116] [],.mk 6 0 0 [] [.mk 0 2 0 [] [],.mk 2 0 0 [99,97,115,104] []]]]
theorem ex1:parseER exT=.ok exE:=by kernel_rfl
theorem sh1:showT 12 exE 0=[108,111,110,103]++[32]++Lib.itoa 30++[32,40,32]++([102,97,99,116,32,100,101,98,116]++[32]++[60]++[32]++(Lib.itoa 2++[32]++[42]++[32]++[102,97,99,116,32,99,97,115,104]))++[32,41]:=by simp [showT,bodyT,exE,argOf,Exp.op,Exp.n,Exp.unit,Exp.s,Exp.args,numT,fo0,fo1,fo2,fo3,fo4,fo6,fo7,fo10,fo17,op4,op6,op7,op10]
theorem ri1:rightE exE=true:=by kernel_rfl
theorem ex2:printE exE=([108,111,110,103,32,51,48,32,40,32,102,97,99,116,32,100,101,98,116,32,60,32,50,32,42,32,102,97,99,116,32,99,97,115,104,32,41],0):=by
 unfold printE
 rw [if_pos ri1,sh1,it30,it2]
 kernel_rfl
def sumE:Exp:=.mk 4 0 0 [] [.mk 3 0 0 [97] [],.mk 0 5 2 [] []]
def mulE:Exp:=.mk 6 0 0 [] [.mk 0 3 0 [] [],sumE]
theorem sh2:showT 12 mulE 0=Lib.itoa 3++[32]++[42]++[32]++([40,32]++([114,97,116,101,32,97]++[32]++[43]++[32]++(Lib.itoa 5++[32,109,105,108,108,101]))++[32,41]):=by simp [showT,bodyT,sumE,mulE,argOf,Exp.op,Exp.n,Exp.unit,Exp.s,Exp.args,numT,fo0,fo1,fo2,fo3,fo4,fo6,fo7,fo10,fo17,op4,op6,op7,op10]
theorem ri2:rightE mulE=true:=by kernel_rfl
theorem ex3:printE mulE=([51,32,42,32,40,32,114,97,116,101,32,97,32,43,32,53,32,109,105,108,108,101,32,41],0):=by
 unfold printE
 rw [if_pos ri2,sh2,it3,it5]
 kernel_rfl
theorem ex4:parseR [105,115,115,117,101,32,97,32,111,102,32,98,32,59,32,102,97,99,101,32,48,32,59]=.error (20,3):=by kernel_rfl
theorem ex5:parseR [105,115,115,117,101,32,97,32,111,102,32,98,32,59,32,102,97,99,101,32,49,32,59,32,102,114,111,109,32,50,48,48,49,32,45,32,50,32,45,32,50,57,32,116,111]=.error (40,23):=by kernel_rfl
theorem ex6:parseER [49,32,99,111,105,110,115,32,50]=.error (8,12):=by kernel_rfl
def cpnE:Exp:=.mk 4 0 0 [] [.mk 1 0 0 [98,97,115,101] [],.mk 7 0 0 [] [.mk 3 0 0 [99] [],.mk 0 2 0 [] []]]
def mustE:Exp:=.mk 10 0 0 [] [.mk 2 0 0 [100,101,98,116] [],.mk 6 0 0 [] [.mk 0 3 0 [] [],.mk 2 0 0 [101,98,105,116] []]]
def docX:Ind:=⟨[97],[98],1000,36538,40191,6,0,1,2,1,[⟨[98,97,115,101],.mk 0 20 2 [] []⟩],cpnE,100,[⟨[99,111,118,101,114],mustE,30⟩],[[99]],5000,[⟨38365,1010⟩],0,0,667,250⟩
theorem doc2:parseR docT=.ok docX:=by kernel_rfl
theorem sh3:showT 12 (.mk 0 20 2 [] []) 0=Lib.itoa 20++[32,109,105,108,108,101]:=by simp [showT,bodyT,cpnE,mustE,argOf,Exp.op,Exp.n,Exp.unit,Exp.s,Exp.args,numT,fo0,fo1,fo2,fo3,fo4,fo6,fo7,fo10,fo17,op4,op6,op7,op10]
theorem sh4:showT 12 cpnE 0=[98,97,115,101]++[32]++[43]++[32]++([114,97,116,101,32,99]++[32]++[47]++[32]++Lib.itoa 2):=by simp [showT,bodyT,cpnE,mustE,argOf,Exp.op,Exp.n,Exp.unit,Exp.s,Exp.args,numT,fo0,fo1,fo2,fo3,fo4,fo6,fo7,fo10,fo17,op4,op6,op7,op10]
theorem sh5:showT 12 mustE 0=[102,97,99,116,32,100,101,98,116]++[32]++[60]++[32]++(Lib.itoa 3++[32]++[42]++[32]++[102,97,99,116,32,101,98,105,116]):=by simp [showT,bodyT,cpnE,mustE,argOf,Exp.op,Exp.n,Exp.unit,Exp.s,Exp.args,numT,fo0,fo1,fo2,fo3,fo4,fo6,fo7,fo10,fo17,op4,op6,op7,op10]
theorem da1:dayT 36538=Lib.itoa 2000++[32,45,32]++Lib.itoa 1++[32,45,32]++Lib.itoa 15:=by kernel_rfl
theorem da2:dayT 40191=Lib.itoa 2010++[32,45,32]++Lib.itoa 1++[32,45,32]++Lib.itoa 15:=by kernel_rfl
theorem da3:dayT 38365=Lib.itoa 2005++[32,45,32]++Lib.itoa 1++[32,45,32]++Lib.itoa 15:=by kernel_rfl
theorem li1:linesW docX=[[[105,115,115,117,101],[97],[111,102],[98]],[[102,97,99,101],Lib.itoa 1000],
 [[102,114,111,109],dayT 36538,[116,111],dayT 40191,[101,118,101,114,121],Lib.itoa 6,[109,111,110,116,104,115]],[[99,111,117,110,116],[116,104,105,114,116,121]],[[97,100,106,117,115,116],[110,101,120,116]],[[114,101,99,111,114,100],Lib.itoa 2],[[114,97,110,107],Lib.itoa 1],
 [[108,101,116],[98,97,115,101],[61],showT 12 (.mk 0 20 2 [] []) 0],[[99,111,117,112,111,110],showT 12 cpnE 0],[[99,97,112],Lib.itoa 100],[[99,111,118,101,110,97,110,116],[99,111,118,101,114],[109,117,115,116],showT 12 mustE 0,[103,114,97,99,101],Lib.itoa 30],
 [[102,97,118,111,117,114],[99]],[[99,114,111,115,115],Lib.itoa 5000],[[99,97,108,108],dayT 38365,[97,116],Lib.itoa 1010],[[109,97,106,111,114,105,116,121],Lib.itoa 667],[[102,97,115,116],Lib.itoa 250]]:=by kernel_rfl
theorem ri3:rightI docX=true:=by kernel_rfl
theorem doc3:(printI docX).2=0∧(printI docX).1.length=docT.length+1:=by
 have h:printI docX=fitsT (txt (linesW docX)):=by unfold printI;rw [if_pos ri3]
 rw [h,li1,da1,da2,da3,sh3,sh4,sh5,it1,it2,it3,it6,it15,it20,it30,it100,it250,it667,it1000,it1010,it2000,it2005,it2010,it5000]
 constructor<;>kernel_rfl
theorem parse_ok (s:List UInt8) (hs:s.length≤9223372036854775807):APure Tryz.prog 10 [.str s] (fun rs=>rs=parA (parseR s)):=by
 cases h:lexR s with
 | error e =>
  have hp:parseR s=.error e:=by unfold parseR;rw [h]
  rw [hp]
  exact parse_lex s hs h
 | ok T=>exact parse_go s hs h
theorem parseE_ok (s:List UInt8) (hs:s.length≤9223372036854775807):APure Tryz.prog 12 [.str s] (fun rs=>rs=parEA (parseER s)):=by
 cases h:lexR s with
 | error e =>
  have hp:parseER s=.error e:=by unfold parseER;rw [h]
  rw [hp]
  exact parseE_lex s hs h
 | ok T=>exact parseE_go s hs h
theorem text37:APureV Tryz.prog 37 [] (.str docT):=by
 refine aO (cxOk 1 [0]) Tryz.func37 ?_
 conv=>whnf
 rfl
theorem okE_sum:OkE sumE:=rightE_okE (by kernel_rfl)
theorem okE_mul:OkE mulE:=rightE_okE ri2
theorem rt_doc:Rt docX:=(right_iff _).1 ri3
theorem right_bad:rightI i0=false:=by kernel_rfl
theorem rightE_bad:rightE (.mk 1 0 0 [] [])=false:=by kernel_rfl
theorem rightE_sum:rightE sumE=true:=by kernel_rfl
theorem name_per:nameB [112,101,114,105,111,100]=true:=by kernel_rfl
theorem name_coi:nameB [99,111,105,110,115]=false:=by kernel_rfl
theorem okX_0:OkX i0:=by
 have i:in64 0:=⟨by omega,by omega⟩
 have e:OkE ex0:=.mk i i i (by show ([]:List UInt8).length≤_;simp) (by show ([]:List Exp).length≤_;simp) (fun a ha=>by cases ha)
 exact ⟨by decide,by decide,e,by decide,(fun l hl=>by cases hl),by decide,(fun l hl=>by cases hl),by decide,(fun l hl=>by cases hl),by decide,(fun l hl=>by cases hl),i,i,i,i,i,i,i,i,i,i,i,i,i,i⟩
theorem okE_name:OkE (.mk 1 0 0 [] []):=by
 have i:in64 0:=⟨by omega,by omega⟩
 exact .mk ⟨by show -9223372036854775808≤(1:Int);omega,by show (1:Int)≤9223372036854775807;omega⟩ i i (by show ([]:List UInt8).length≤_;simp) (by show ([]:List Exp).length≤_;simp) (fun a ha=>by cases ha)
theorem LeT.agg {l r:List AV} (h:LeTs l r):LeT (.agg l) (.agg r):=fun S w v hr=>by
 cases hr with
 | agg cs l hl hh =>
  refine .agg cs r (by rw [hl,h.len]) fun j c b hc hb=>?_
  obtain ⟨a,ha,hab⟩:=h.get hb
  exact hab S w c (hh j c a hc ha)
def rawE (o n u:Int) (s:List UInt8):AV:=.agg [.int .i64 o,.int .i64 n,.int .i64 u,.str s,.nils]
theorem rawE_le (o n u:Int) (s:List UInt8):LeT (rawE o n u s) (encE (.mk o n u s [])):=LeT.agg (.cons (.refl _) (.cons (.refl _) (.cons (.refl _) (.cons (.refl _) (.cons (LeT.nils_lsl 5 rfl) .nil)))))
def rawSum:AV:=.agg [.int .i64 4,.int .i64 0,.int .i64 0,.str [],.lsl 5 [rawE 3 0 0 [97],rawE 0 5 2 []]]
def rawMul:AV:=.agg [.int .i64 6,.int .i64 0,.int .i64 0,.str [],.lsl 5 [rawE 0 3 0 [],encE sumE]]
theorem ones_E (x:Exp):∀ a∈(encE x).cells,a.one=true:=by
 intro a ha
 simp [encE,AV.cells] at ha
 rcases ha with rfl | rfl | rfl | rfl | rfl<;>rfl
theorem args_le {x y:Exp} {a b:AV} (h:LeTs (a.cells++b.cells) ((encE x).cells++(encE y).cells)) (o n u:Int) (s:List UInt8) :
  LeT (.lsl 5 [a,b]) (.lsl 5 (argsE (.mk o n u s [x,y]))):=by
 have e:argsE (.mk o n u s [x,y])=[encE x,encE y]:=argsE_eq _
 rw [e]
 have f:∀ c d:AV,flat [c,d]=c.cells++d.cells:=fun c d=>by unfold flat;simp
 refine LeT.lsl rfl (fun z hz=>?_) (fun z hz=>?_) (by rw [f,f];exact h)
 ·simp only [List.mem_cons,List.not_mem_nil,or_false] at hz
  rcases hz with rfl | rfl<;>rfl
 ·rw [f] at hz
  rcases List.mem_append.1 hz with hz | hz
  ·exact ones_E x z hz
  ·exact ones_E y z hz
theorem rawC_le (o n u:Int) (s:List UInt8):LeTs (rawE o n u s).cells (encE (.mk o n u s [])).cells:=.cons (.refl _) (.cons (.refl _) (.cons (.refl _) (.cons (.refl _) (.cons (LeT.nils_lsl 5 rfl) .nil))))
theorem LeTs_app {a b c d:List AV} (h:LeTs a b) (k:LeTs c d):LeTs (a++c) (b++d):=by
 induction h with
 | nil=>exact k
 | cons h _ ih=>exact .cons h ih
theorem LeTs_refl:∀ l:List AV,LeTs l l
 | []=>.nil
 | _::l=>.cons (.refl _) (LeTs_refl l)
theorem rawMulC:LeTs rawMul.cells (encE mulE).cells:=.cons (.refl _) (.cons (.refl _) (.cons (.refl _) (.cons (.refl _) (.cons (args_le (LeTs_app (rawC_le _ _ _ _) (LeTs_refl _)) 6 0 0 []) .nil))))
theorem rawMul_le:LeT rawMul (encE mulE):=LeT.agg rawMulC
def rawX0:AV:=.agg [.str [],.str [],.int .i64 0,.int .i64 0,.int .i64 0,.int .i64 0,.int .i64 0,.int .i64 0,.int .i64 0,.int .i64 0,.nils,.int .i64 0,.int .i64 0,.int .i64 0,.str [],.nils,.int .i64 0,.nils,.nils,.int .i64 0,.nils,.int .i64 0,.int .i64 0,.int .i64 0,.int .i64 0]
theorem rawX0_le:LeT rawX0 (encX i0):=by
 refine LeT.agg ?_
 repeat (first | exact .nil | refine .cons (by first | exact LeT.refl _ | exact LeT.nils_lsl 5 rfl | exact LeT.nils_sl 6 encL l0 | exact LeT.nils_sl 7 encC c0 | exact LeT.nils_sl 1 encS [] | exact LeT.nils_sl 2 encK k0) ?_)
noncomputable abbrev cS:Cx:=cx 168 [0,1,3,4,5,6,7,8,9,11,12,13,15,16,18,19,21,22,23,24]
theorem small_ok:APureV Tryz.prog 9 [] (.bool true):=by
 have c1:=parseE_ok exT (by decide)
 rw [ex1] at c1
 unfold parEA at c1
 have c2:=printexp_ok exE (rightE_okE ri1)
 rw [ex2] at c2
 have c3:=printexp_ok mulE okE_mul
 rw [ex3] at c3
 have c3:=apure_args (args':=[rawMul]) c3 (.cons rawMul_le .nil)
 have c4:=parse_ok docT (by decide)
 rw [doc2] at c4
 unfold parA at c4
 have c5:=print_ok docX rt_doc.okX
 rw [doc3.1] at c5
 have c6:=parse_ok _ (by decide:([105,115,115,117,101,32,97,32,111,102,32,98,32,59,32,102,97,99,101,32,48,32,59]:List UInt8).length≤9223372036854775807)
 rw [ex4] at c6
 unfold parA at c6
 have c7:=parse_ok _ (by decide:([105,115,115,117,101,32,97,32,111,102,32,98,32,59,32,102,97,99,101,32,49,32,59,32,102,114,111,109,32,50,48,48,49,32,45,32,50,32,45,32,50,57,32,116,111]:List UInt8).length≤9223372036854775807)
 rw [ex5] at c7
 unfold parA at c7
 have c8:=parseE_ok _ (by decide:([49,32,99,111,105,110,115,32,50]:List UInt8).length≤9223372036854775807)
 rw [ex6] at c8
 unfold parEA at c8
 have r1:=rightfn_ok docX rt_doc.okX
 rw [ri3] at r1
 have r2:=rightfn_ok i0 okX_0
 rw [right_bad] at r2
 have r2:=apure_args (args':=[rawX0]) r2 (.cons rawX0_le .nil)
 have r3:=rightexp_ok sumE okE_sum
 rw [rightE_sum] at r3
 have r4:=rightexp_ok _ okE_name
 rw [rightE_bad] at r4
 have r4:=apure_args (args':=[rawE 1 0 0 []]) r4 (.cons (rawE_le 1 0 0 []) .nil)
 have r5:=name_ok _ (by decide:([112,101,114,105,111,100]:List UInt8).length≤9223372036854775807)
 rw [name_per] at r5
 have r6:=name_ok _ (by decide:([99,111,105,110,115]:List UInt8).length≤9223372036854775807)
 rw [name_coi] at r6
 have r7:=samefn_ok docX docX rt_doc.okX rt_doc.okX
 rw [decide_eq_true (rfl:docX=docX)] at r7
 have r8:=same_ok sumE sumE okE_sum okE_sum
 rw [decide_eq_true (rfl:sumE=sumE)] at r8
 have hl:=doc3.2
 have hdl:docT.length=323:=by kernel_rfl
 have hde:decide (((printI docX).1.length:Nat)=((docT.length:Nat):Int)+1)=true:=by
  rw [hl,hdl]
  decide
 refine apure_of0 (C:=cS) (cxOk _ _) Tryz.func9 rfl dd0 rfl (by exact Nat.le_of_ble_eq_true rfl) dd0 ?_
 intro F a w hF hrel
 refine wp_seq_ev (cxOk _ _) (C:=cS) hF (st1:=⟨[(0,.bool false)],[],0⟩) (Rr:=fun _=>False) ?_ (fun _ h=>h) ?_ (fun _ _ _ _ h=>h.elim) a w hrel
 ·conv=>whnf
  exact (wk_of [] rfl ⟨wa0,trivial⟩ trivial)
 intro a w hrel
 refine wp_seq_ev (cxOk _ _) (C:=cS) hF (st1:=⟨[(0,.bool false),(1,.ptr 0 0),(3,.int .i64 0)],[(0,.cells 26 (cellsE exE))],1⟩) (Rr:=fun _=>False) ?_ (fun _ h=>h) ?_ (fun _ _ _ _ h=>h.elim) a w hrel
 ·conv=>whnf
  refine cO (fun _=>c1) ?_
  conv=>whnf
  exact (wk_of [(0,.id 0)] rfl ⟨wa0,wc0,wa0,trivial⟩ ⟨wb0,trivial⟩)
 intro a w hrel
 refine wp_seq_ev (cxOk _ _) (C:=cS) hF (st1:=⟨[(0,.bool false),(3,.int .i64 0),(4,.str [108,111,110,103,32,51,48,32,40,32,102,97,99,116,32,100,101,98,116,32,60,32,50,32,42,32,102,97,99,116,32,99,97,115,104,32,41]),(5,.int .i64 0)],[],0⟩) (Rr:=fun _=>False) ?_ (fun _ h=>h) ?_ (fun _ _ _ _ h=>h.elim) a w hrel
 ·conv=>whnf
  refine cO (fun _=>c2) ?_
  conv=>whnf
  exact (wk_of [] rfl ⟨wa0,wa0,wa0,wa0,trivial⟩ trivial)
 intro a w hrel
 refine wp_seq_ev (cxOk _ _) (C:=cS) hF (st1:=⟨[(0,.bool false),(3,.int .i64 0),(4,.str [108,111,110,103,32,51,48,32,40,32,102,97,99,116,32,100,101,98,116,32,60,32,50,32,42,32,102,97,99,116,32,99,97,115,104,32,41]),(5,.int .i64 0),(6,.ptr 0 0)],[(0,.cells 26 (cellsE sumE))],1⟩) (Rr:=fun _=>False) ?_ (fun _ h=>h) ?_ (fun _ _ _ _ h=>h.elim) a w hrel
 ·conv=>whnf
  exact (wk_frz [0]).trans (wk_of [(0,.id 1)] rfl ⟨wa0,wa0,wa0,wa0,wc0,trivial⟩ ⟨⟨_,rfl,.cells _ _ _ _ rfl (by repeat (first | exact .nil | refine .cons (by first | exact .base (.tree _ _ rfl rfl) | exact .base (.own _ _ rfl) | exact .base (.ptr _ _ _ rfl) | exact .base (.map _ _ rfl) | exact .base (.nilown _ rfl) | exact .fn _ _ _ _ _ .nil (by repeat (first | exact .nil | refine .cons (by exact .ptr _ _ _ rfl) ?_)) | exact .base (.tree _ _ (args_le (LeTs_app (rawC_le _ _ _ _) (rawC_le _ _ _ _)) 4 0 0 []) rfl) | exact .base (.leT _ _ (args_le (LeTs_app (rawC_le _ _ _ _) (rawC_le _ _ _ _)) 4 0 0 []) rfl)) ?_)) rfl⟩,trivial⟩)
 intro a w hrel
 refine wp_mono (evCode_sound (C:=cS) (cxOk _ _) hF _ ⟨[(0,.bool false),(3,.int .i64 0),(4,.str [108,111,110,103,32,51,48,32,40,32,102,97,99,116,32,100,101,98,116,32,60,32,50,32,42,32,102,97,99,116,32,99,97,115,104,32,41]),(5,.int .i64 0),(6,.ptr 0 0)],[(0,.cells 26 (cellsE sumE))],1⟩ (retQ cS.T _ (fun rs=>rs=[.val (.bool true)])) ?_ a w hrel) fun _ _ _ ⟨st',h1,h2⟩=>⟨st',h1,orP_off (fun _ h=>h) h2⟩
 conv=>whnf
 refine .one _ _ _ (fun _=>c3) (.cons (.agg _ _ _ (.cons (.base (.base (.same _ rfl))) (.cons (.base (.base (.same _ rfl))) (.cons (.base (.base (.same _ rfl))) (.cons (.base (.base (.same _ rfl))) (.cons (.base (.base (.lst _ 26 5 [rawE 0 3 0 [],encE sumE] (by kernel_rfl)))) .nil))))))  .nil) (by first | exact .inl rfl | exact .inr (by repeat (first | exact flats_nil | refine flats_cons (by first | exact flat_val _ rfl | exact flat_row (fun _=>rfl) | exact flat_lst (fun _=>rfl)) ?_))) (by first | exact .inr rfl | exact .inl rfl) ?_
 conv=>whnf
 refine cO (fun _=>text37) ?_
 conv=>whnf
 refine cO (fun _=>c4) ?_
 conv=>whnf
 refine cO (fun _=>c5) ?_
 conv=>whnf
 refine cO (fun _=>c6) ?_
 conv=>whnf
 refine cO (fun _=>c7) ?_
 conv=>whnf
 refine cO (fun _=>c8) ?_
 conv=>whnf
 refine cO (fun _=>text37) ?_
 conv=>whnf
 refine And.intro (fun _=>⟨by omega,by omega⟩) ?_
 conv=>whnf
 rw [hde]
 refine cO (fun _=>r1) ?_
 conv=>whnf
 refine cO (fun _=>r2) ?_
 conv=>whnf
 refine cO (fun _=>r3) ?_
 conv=>whnf
 refine cO (fun _=>r4) ?_
 conv=>whnf
 refine cO (fun _=>r5) ?_
 conv=>whnf
 refine cO (fun _=>r6) ?_
 conv=>whnf
 refine cO (fun _=>r7) ?_
 conv=>whnf
 refine cO (fun _=>r8) ?_
 conv=>whnf
 kernel_rfl
structure PI where
 x:Ind
 p:Int
 e:Int
def resI:Except Er Ind→PI
 | .ok x=>⟨x,0,0⟩
 | .error e=>⟨i0,e.1,e.2⟩
theorem parA_eq (r:Except Er Ind):parA r=[.val (encX (resI r).x),.val (.int .i64 (resI r).p),.val (.int .i64 (resI r).e)]:=by
 try (cases r<;>rfl)
structure PE where
 x:Exp
 p:Int
 e:Int
def resE:Except Er Exp→PE
 | .ok x=>⟨x,0,0⟩
 | .error e=>⟨ex0,e.1,e.2⟩
theorem parEA_eq (r:Except Er Exp):parEA r=[.val (encE (resE r).x),.val (.int .i64 (resE r).p),.val (.int .i64 (resE r).e)]:=by
 try (cases r<;>rfl)
theorem resI_ok (s:List UInt8):OkX (resI (parseR s)).x:=by
 cases h:parseR s with
 | ok x=>exact (parse_rt h).okX
 | error e=>exact okX_0
theorem resE_ok (s:List UInt8):OkE (resE (parseER s)).x:=by
 cases h:parseER s with
 | ok x=>exact rightE_okE (parseE_right h)
 | error e=>exact okX_0.coupon
theorem law_tells (s:List UInt8) (hs:s.length≤9223372036854775807):APureV Tryz.prog 3 [.str s] (.bool true):=by
 have c1:=parse_ok s hs
 have c2:=parse2_ok s hs
 have c3:=parseE_ok s hs
 have c4:=parseE2_ok s hs
 rw [parA_eq] at c1 c2
 rw [parEA_eq] at c3 c4
 have q1:=samefn2_ok _ _ (resI_ok s) (resI_ok s)
 have q2:=same2_ok _ _ (resE_ok s) (resE_ok s)
 have n1:=name_ok s hs
 have n2:=name2_ok s hs
 generalize resI (parseR s)=a at *
 generalize resE (parseER s)=b at *
 rw [decide_eq_true (rfl:a.x=a.x)] at q1
 rw [decide_eq_true (rfl:b.x=b.x)] at q2
 refine aO (cxOk 83 [0,2,3,4,5,6,7,8,9,10,11,12,13,14,15,19]) Tryz.func3 ?_
 conv=>whnf
 refine cO (fun _=>small_ok) ?_
 conv=>whnf
 refine ⟨fun h15=>?_,fun h15=>?_⟩
 ·conv=>whnf
  rfl
 conv=>whnf
 refine cO (fun _=>c1) ?_
 conv=>whnf
 refine cO (fun _=>c2) ?_
 conv=>whnf
 refine cO (fun _=>c3) ?_
 conv=>whnf
 refine cO (fun _=>c4) ?_
 conv=>whnf
 refine cO (fun _=>q1) ?_
 conv=>whnf
 refine cO (fun _=>q2) ?_
 conv=>whnf
 refine cO (fun _=>n1) ?_
 conv=>whnf
 refine cO (fun _=>n2) ?_
 conv=>whnf
 simp
structure InX (x:Ind):Prop where
 name:x.name.length≤9223372036854775807
 issuer:x.issuer.length≤9223372036854775807
 coupon:OkE x.coupon
 lets:x.lets.length≤9223372036854775807
 let1:∀ l∈x.lets,l.name.length≤9223372036854775807∧OkE l.body
 cov:x.cov.length≤9223372036854775807
 cov1:∀ c∈x.cov,c.name.length≤9223372036854775807∧OkE c.must∧in64 c.grace
 favour:x.favour.length≤9223372036854775807
 fav1:∀ s∈x.favour,s.length≤9223372036854775807
 calls:x.calls.length≤9223372036854775807
 call1:∀ c∈x.calls,in64 c.a∧in64 c.b
 nums:in64 x.face∧in64 x.frm∧in64 x.to∧in64 x.every∧in64 x.count∧in64 x.adjust∧in64 x.record∧in64 x.rank∧in64 x.cap∧in64 x.cross∧in64 x.notice∧in64 x.sink∧in64 x.majority∧in64 x.fast
open Go.ChangeShapes Go.WideShapes Go.RowKit Go.Own
theorem Tryz.own:ownKnob Tryz.prog.godebug=none:=by kernel_rfl
theorem Tryz.laidOut:laidOutB Tryz.prog=true:=by kernel_rfl
theorem undBool:Tryz.prog.underlying 4=some .bool:=by kernel_rfl
theorem und9':Tryz.prog.underlying 9=some .string:=by kernel_rfl
def fields26 : Array Field := #[{ name := "Op", type := 3, offset := 0, embedded := false, tag := "", pkgPath := "", byteOffset := 0 }, { name := "N", type := 3, offset := 1, embedded := false, tag := "", pkgPath := "", byteOffset := 8 }, { name := "Unit", type := 3, offset := 2, embedded := false, tag := "", pkgPath := "", byteOffset := 16 }, { name := "S", type := 9, offset := 3, embedded := false, tag := "", pkgPath := "", byteOffset := 24 }, { name := "Args", type := 24, offset := 4, embedded := false, tag := "", pkgPath := "", byteOffset := 40 }]
def fields47 : Array Field := #[{ name := "Name", type := 9, offset := 0, embedded := false, tag := "", pkgPath := "", byteOffset := 0 }, { name := "Body", type := 26, offset := 1, embedded := false, tag := "", pkgPath := "", byteOffset := 16 }]
def fields50 : Array Field := #[{ name := "Name", type := 9, offset := 0, embedded := false, tag := "", pkgPath := "", byteOffset := 0 }, { name := "Must", type := 26, offset := 1, embedded := false, tag := "", pkgPath := "", byteOffset := 16 }, { name := "Grace", type := 3, offset := 6, embedded := false, tag := "", pkgPath := "", byteOffset := 80 }]
def fields54 : Array Field := #[{ name := "From", type := 3, offset := 0, embedded := false, tag := "", pkgPath := "", byteOffset := 0 }, { name := "Price", type := 3, offset := 1, embedded := false, tag := "", pkgPath := "", byteOffset := 8 }]
def fields31 : Array Field := #[{ name := "Name", type := 9, offset := 0, embedded := false, tag := "", pkgPath := "", byteOffset := 0 }, { name := "Issuer", type := 9, offset := 1, embedded := false, tag := "", pkgPath := "", byteOffset := 16 }, { name := "Face", type := 3, offset := 2, embedded := false, tag := "", pkgPath := "", byteOffset := 32 }, { name := "From", type := 3, offset := 3, embedded := false, tag := "", pkgPath := "", byteOffset := 40 }, { name := "To", type := 3, offset := 4, embedded := false, tag := "", pkgPath := "", byteOffset := 48 }, { name := "Every", type := 3, offset := 5, embedded := false, tag := "", pkgPath := "", byteOffset := 56 }, { name := "Count", type := 3, offset := 6, embedded := false, tag := "", pkgPath := "", byteOffset := 64 }, { name := "Adjust", type := 3, offset := 7, embedded := false, tag := "", pkgPath := "", byteOffset := 72 }, { name := "Record", type := 3, offset := 8, embedded := false, tag := "", pkgPath := "", byteOffset := 80 }, { name := "Rank", type := 3, offset := 9, embedded := false, tag := "", pkgPath := "", byteOffset := 88 }, { name := "Lets", type := 23, offset := 10, embedded := false, tag := "", pkgPath := "", byteOffset := 96 }, { name := "Coupon", type := 26, offset := 11, embedded := false, tag := "", pkgPath := "", byteOffset := 120 }, { name := "Cap", type := 3, offset := 16, embedded := false, tag := "", pkgPath := "", byteOffset := 184 }, { name := "Covenants", type := 27, offset := 17, embedded := false, tag := "", pkgPath := "", byteOffset := 192 }, { name := "Favour", type := 28, offset := 18, embedded := false, tag := "", pkgPath := "", byteOffset := 216 }, { name := "Cross", type := 3, offset := 19, embedded := false, tag := "", pkgPath := "", byteOffset := 240 }, { name := "Calls", type := 29, offset := 20, embedded := false, tag := "", pkgPath := "", byteOffset := 248 }, { name := "Notice", type := 3, offset := 21, embedded := false, tag := "", pkgPath := "", byteOffset := 272 }, { name := "Sink", type := 3, offset := 22, embedded := false, tag := "", pkgPath := "", byteOffset := 280 }, { name := "Majority", type := 3, offset := 23, embedded := false, tag := "", pkgPath := "", byteOffset := 288 }, { name := "Fast", type := 3, offset := 24, embedded := false, tag := "", pkgPath := "", byteOffset := 296 }]
abbrev rInt:List AV→Prop:=fun l=>∃ n,(IntKind.i64.min≤n∧n≤IntKind.i64.max)∧l=[.int .i64 n]
abbrev rStr:List AV→Prop:=fun l=>∃ s:List UInt8,s.length≤9223372036854775807∧l=[.str s]
abbrev rExp:List AV→Prop:=fun l=>∃ e:Exp,OkE e∧l=(encE e).cells
abbrev rInd:List AV→Prop:=fun l=>∃ x:Ind,InX x∧l=(encX x).cells
theorem vStr:OpV Tryz.prog 9 (fun a=>∃ s:List UInt8,s.length≤9223372036854775807∧a=.str s):=opV_str und9'
abbrev laidL:List (String×DataW Unit):=Rows.syntaxTellsRow.laid
noncomputable def laidWorld (os:Os):World:=World.laidAll Tryz.prog os laidL
theorem laid_met (os:Os) (args:Array Value):laidMet Tryz.prog laidL ((laidWorld os).forCall (fun _ _=>0) ⟨#[],args,[]⟩).memory :=
 laidMet_laidAll args (by kernel_rfl) (by kernel_rfl)
theorem var_block {P:Program} {w:World} {n:String} {g:Nat} {cs:Array Value} (hg:P.globalNamed n=some g) (h:w.var? P n=some cs):∃ e fz,w.heap[g]?=some (.cells cs e fz):=by
 unfold World.var? at h
 rw [hg] at h
 simp only [Option.bind_some] at h
 split at h
 ·rename_i c e fz hh
  cases h
  exact ⟨_,_,hh⟩
 ·cases h
theorem trod_one {P:Program} {w:World} {base:Nat} {sp:Nat→Bool} {held:Bool} {fuel:Nat} {e:TypeId} {c:List Value} {s:List UInt8} {q:List MemPlace} (he:P.underlying e=some .string)
  (h:DataW.trod (fun _=>()) P w base sp held fuel e c=some (.lit (.string s),q)):c=[.string ⟨s.toArray⟩]:=by
 cases fuel with
 | zero=>simp [DataW.trod] at h
 | succ fuel =>
  simp only [DataW.trod,he] at h
  split at h<;>simp_all
  rename_i x hx
  rw [← h.2.1]
theorem cells_of_strs {P:Program} {w:World} {base:Nat} {sp:Nat→Bool} {held:Bool} {fuel:Nat} {t e:TypeId} {n:Nat} {cs:List Value} {ss:List (List UInt8)} {p:List MemPlace}
  (ht:P.underlying t=some (.array n e)) (he:P.underlying e=some .string) (hce:P.cellsOf e=1) (hct:P.cellsOf t=n)
  (h:DataW.trod (fun _=>()) P w base sp held fuel t cs=some (.agg (ss.map fun s=>.lit (.string s)),p)):cs=ss.map fun s=>Value.string ⟨s.toArray⟩:=by
 cases fuel with
 | zero=>simp [DataW.trod] at h
 | succ fuel =>
  simp only [DataW.trod,ht,hce,hct,Nat.mul_one] at h
  split at h
  ·rename_i hl
   obtain ⟨xs,hm,hx⟩:=Option.map_eq_some_iff.1 h
   have hxs:xs.map (·.1)=ss.map fun s=>(DataW.lit (.string s):DataW Unit):=by
    have:=congrArg Prod.fst hx
    simpa using this
   have hxl:xs.length=n:=by simpa using Lib.mapM_length hm
   have hzl:ss.length=n:=by
    have:=congrArg List.length hxs
    simp at this
    omega
   apply List.ext_getElem?
   intro i
   by_cases hi:i<n
   ·obtain ⟨b,hb,hf⟩:=Lib.mapM_at hm i i (by simp [hi])
    have h2:(xs.map (·.1))[i]?=some b.1:=by simp [hb]
    rw [hxs] at h2
    simp only [List.getElem?_map,Option.map_eq_some_iff] at h2
    obtain ⟨s,hs,hsb⟩:=h2
    have hc:=trod_one he (show _=some (DataW.lit (.string s),b.2) by rw [hsb];exact hf)
    have h1:cs[i]?=some (.string ⟨s.toArray⟩):=by
     have:=congrArg (·[0]?) hc
     simpa [List.getElem?_take,List.getElem?_drop] using this
    simp [h1,hs]
   ·rw [List.getElem?_eq_none (by omega),List.getElem?_eq_none (by simp;omega)]
  ·cases h
theorem laid_tabs (W:World) (h:laidMet Tryz.prog laidL W):TabAt (All W) W:=by
 obtain ⟨ps,⟨g1,t1,c1,f1,p1,q1,hg1,ht1,hv1,hd1,⟨g2,t2,c2,f2,p2,q2,hg2,ht2,hv2,hd2,⟨g3,t3,c3,f3,p3,q3,hg3,ht3,hv3,hd3,⟨g4,t4,c4,f4,p4,q4,hg4,ht4,hv4,hd4,hnil,e4⟩,e3⟩,e2⟩,e1⟩,_,_⟩:=h
 have k3 : Tryz.prog.globalNamed "internal/strconv.uint64pow10" = some 2 := by kernel_rfl
 have k4 : Tryz.prog.globalNamed "consol/lex.signs" = some 0 := by kernel_rfl
 obtain ⟨b3,z3,h3⟩:=var_block k3 hv3
 obtain ⟨b4,z4,h4⟩:=var_block k4 hv4
 obtain rfl:=Option.some.inj (k3.symm.trans hg3)
 obtain rfl:=Option.some.inj (k4.symm.trans hg4)
 have T3:(Tryz.prog.globals[2]?).map (·.type)=some t3:=ht3
 have T4:(Tryz.prog.globals[0]?).map (·.type)=some t4:=ht4
 have lt:∀ {g:Nat} {o:Obj},W.heap[g]?=some o→g<W.heap.size:=fun h=>(Array.getElem?_eq_some_iff.1 h).1
 intro g Q hQ
 match g,hQ with
 | 0,hQ =>
  cases hQ
  refine ⟨lt h4,c4,b4,z4,h4,?_⟩
  obtain rfl:=Option.some.inj ((show (Tryz.prog.globals[0]?).map (·.type)=some 161 by kernel_rfl).symm.trans T4)
  have:=cells_of_strs (ss:=signs) (n:=11) (e:=9) (by kernel_rfl) (by kernel_rfl) (by kernel_rfl) (by kernel_rfl) (show _=some (DataW.agg (signs.map fun s=>DataW.lit (.string s)),p4) from hd4)
  show c4=_
  rw [← this]
 | 2,hQ =>
  cases hQ
  refine ⟨lt h3,c3,b3,z3,h3,?_⟩
  obtain rfl:=Option.some.inj ((show (Tryz.prog.globals[2]?).map (·.type)=some 185 by kernel_rfl).symm.trans T3)
  have:=Lib.cells_of_tab (k:=.u64) (zs:=Lib.pow10Tab) (n:=20) (e:=179) (by kernel_rfl) (by kernel_rfl) (by kernel_rfl) (by kernel_rfl) (show _=some (Lib.tabData .u64 Lib.pow10Tab,p3) from hd3)
  show c3=_
  rw [← this]
end Go.Proofs.YtlmgomgpiideoaaGreatDoor
