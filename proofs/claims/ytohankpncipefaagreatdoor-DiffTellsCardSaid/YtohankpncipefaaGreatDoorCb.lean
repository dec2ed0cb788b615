import Derived.Test.YtohankpncipefaaGreatDoorCa
import Derived.Lib.ItoaLen
namespace Go.Proofs.YtohankpncipefaaGreatDoor
open Go.Own
set_option maxHeartbeats 4000000
set_option maxRecDepth 100000
def txt (L:List (List (List UInt8))):List UInt8:=(L.map lineT).flatten
theorem txt_snoc (L:List (List (List UInt8))) (w:List (List UInt8)):txt (L++[w])=txt L++lineT w:=by unfold txt;simp
theorem txt_app (L M:List (List (List UInt8))):txt (L++M)=txt L++txt M:=by unfold txt;simp
def WsOk (ws:List (List UInt8)):Prop:=ws.length≤21∧∀ s∈ws,s.length≤1100000100
theorem join_len (M:Nat):∀ (ws:List (List UInt8)),(∀ s∈ws,s.length≤M)→(Lib.join ws [32]).length≤ws.length*(M+1):=by
 have tail:∀ (r:List (List UInt8)),(∀ s∈r,s.length≤M)→(Lib.joinTail [32] r).length≤r.length*(M+1):=by
  intro r
  induction r with
  | nil=>intro _;simp [Lib.joinTail]
  | cons x r ih =>
   intro h
   have h1:=ih fun s hs=>h s (List.mem_cons_of_mem _ hs)
   have h2:=h x List.mem_cons_self
   have e:Lib.joinTail [32] (x::r)=([32]++x)++Lib.joinTail [32] r:=by simp [Lib.joinTail]
   rw [e,List.length_append,List.length_append,show (x::r).length=r.length+1 from rfl,Nat.succ_mul,show ([32]:List UInt8).length=1 from rfl]
   omega
 intro ws
 cases ws with
 | nil=>intro _;simp [Lib.join_nil]
 | cons x r =>
  intro h
  have h1:=tail r fun s hs=>h s (List.mem_cons_of_mem _ hs)
  have h2:=h x List.mem_cons_self
  rw [Lib.join_cons,List.length_append,List.length_cons,Nat.succ_mul]
  omega
theorem WsOk.join {ws:List (List UInt8)} (h:WsOk ws):(Lib.join ws [32]).length≤23200000000:=by
 have h1:=join_len 1100000100 ws h.2
 have h2:ws.length*(1100000100+1)≤21*(1100000100+1):=Nat.mul_le_mul_right _ h.1
 omega
theorem WsOk.line {ws:List (List UInt8)} (h:WsOk ws):(lineT ws).length≤23200000003:=by
 have:=h.join
 unfold lineT
 rw [List.length_append]
 simp only [List.length_cons,List.length_nil]
 omega
structure LOk (n:Nat) (L:List (List (List UInt8))):Prop where
 len:L.length≤n
 all:∀ w∈L,WsOk w
theorem LOk.nil:LOk 0 []:=⟨Nat.le_refl _,fun w hw=>by cases hw⟩
theorem LOk.snoc {n:Nat} {L:List (List (List UInt8))} {w:List (List UInt8)} (h:LOk n L) (hw:WsOk w):LOk (n+1) (L++[w]) :=
 ⟨by rw [List.length_append];have:=h.len;simp only [List.length_cons,List.length_nil];omega,fun v hv=>by
  rcases List.mem_append.1 hv with hv | hv
  ·exact h.all v hv
  ·rcases List.mem_singleton.1 hv with rfl;exact hw⟩
theorem LOk.app {n m:Nat} {L M:List (List (List UInt8))} (h:LOk n L) (hM:LOk m M):LOk (n+m) (L++M) :=
 ⟨by rw [List.length_append];have:=h.len;have:=hM.len;omega,fun v hv=>by
  rcases List.mem_append.1 hv with hv | hv
  ·exact h.all v hv
  ·exact hM.all v hv⟩
theorem txt_len:∀ {n:Nat} {L:List (List (List UInt8))},LOk n L→(txt L).length≤n*23200000003:=by
 intro n L
 induction L generalizing n with
 | nil=>intro _;simp [txt]
 | cons w L ih =>
  intro h
  have hl:=h.len
  rw [List.length_cons] at hl
  obtain ⟨k,rfl⟩:∃ k,n=k+1:=⟨n-1,by omega⟩
  have h1:=ih (n:=k) ⟨by omega,fun v hv=>h.all v (List.mem_cons_of_mem _ hv)⟩
  have h2:=(h.all w List.mem_cons_self).line
  have e:txt (w::L)=lineT w++txt L:=by unfold txt;simp
  rw [e,List.length_append,Nat.succ_mul]
  omega
theorem line1_ok (w:List (List UInt8)) (hw:WsOk w):RIO Tryz.prog 37 [.own 1,.ptr 0 0] [.cells 76 [.nilp,.nils],.lst 9 1 (strL w)] 1
  (fun vs bs es=>vs=[]∧bs=[.cells 76 [.ptr 0 0,.own 1]]∧es=[.lst 5 1 (strAVs (txt [w]))]):=by
 have h:=line_first w (by have:=hw.1;omega) (by have:=hw.join;omega)
 have e:txt [w]=lineT w:=by unfold txt;simp
 rw [e]
 exact h
theorem line_ok {n:Nat} {L:List (List (List UInt8))} (hL:LOk n L) (hn:n≤120) (w:List (List UInt8)) (hw:WsOk w) :
  RIO Tryz.prog 37 [.own 2,.ptr 0 0] [.cells 76 [.ptr 0 0,.own 1],.lst 5 1 (strAVs (txt L)),.lst 9 1 (strL w)] 1
   (fun vs bs es=>vs=[]∧bs=[.cells 76 [.ptr 0 0,.own 1]]∧es=[.lst 5 1 (strAVs (txt (L++[w])))]):=by
 have hl:=txt_len hL
 have hl2:n*23200000003≤120*23200000003:=Nat.mul_le_mul_right _ hn
 have h:=line_more (txt L) w (by have:=hw.1;omega) (by have:=hw.join;omega)
 rw [txt_snoc]
 exact h
theorem lrow_ok {n:Nat} {L:List (List (List UInt8))} (hL:LOk n L) (hn:n≤120) (w:List (List UInt8)) (hw:WsOk w) :
  RIO Tryz.prog 37 [.own 2,.ptr 0 0] [.cells 76 [.ptr 0 0,.own 1],.lst 5 1 (strAVs (txt L)),.row 9 1 encS [] w] 1
   (fun vs bs es=>vs=[]∧bs=[.cells 76 [.ptr 0 0,.own 1]]∧es=[.lst 5 1 (strAVs (txt (L++[w])))]):=by
 have hl:=txt_len hL
 have hl2:n*23200000003≤120*23200000003:=Nat.mul_le_mul_right _ hn
 have h:=line_row (txt L) w (by have:=hw.1;omega) (by have:=hw.join;omega)
 rw [txt_snoc]
 exact h
def letW (l:LetE):List (List UInt8):=[[108,101,116],l.name,[61],showT 12 l.body 0]
def covW (c:Cov):List (List UInt8):=[[99,111,118,101,110,97,110,116],c.name,[109,117,115,116],showT 12 c.must 0,[103,114,97,99,101],Lib.itoa c.grace]
def callW (c:CallE):List (List UInt8):=[[99,97,108,108],dayT c.a,[97,116],Lib.itoa c.b]
def headW (x:Ind):List (List (List UInt8)):=[[[105,115,115,117,101],x.name,[111,102],x.issuer],[[102,97,99,101],Lib.itoa x.face],
 [[102,114,111,109],dayT x.frm,[116,111],dayT x.to,[101,118,101,114,121],Lib.itoa x.every,[109,111,110,116,104,115]],
 [[99,111,117,110,116],cntW.getD x.count.toNat []],[[97,100,106,117,115,116],adjW.getD x.adjust.toNat []],
 [[114,101,99,111,114,100],Lib.itoa x.record],[[114,97,110,107],Lib.itoa x.rank]]
def midW (x:Ind):List (List (List UInt8)):=[[[99,111,117,112,111,110],showT 12 x.coupon 0],[[99,97,112],Lib.itoa x.cap]]
def favW (x:Ind):List (List (List UInt8)):=if 0<x.favour.length then [[102,97,118,111,117,114]::x.favour] else []
def croW (x:Ind):List (List (List UInt8)):=if 0≤x.cross then [[[99,114,111,115,115],Lib.itoa x.cross]] else []
def notW (x:Ind):List (List (List UInt8)):=if 0<x.notice then [[[110,111,116,105,99,101],Lib.itoa x.notice]] else []
def sinW (x:Ind):List (List (List UInt8)):=if 0<x.sink then [[[115,105,110,107],Lib.itoa x.sink]] else []
def endW (x:Ind):List (List (List UInt8)):=[[[109,97,106,111,114,105,116,121],Lib.itoa x.majority],[[102,97,115,116],Lib.itoa x.fast]]
def linesW (x:Ind):List (List (List UInt8)):=headW x++x.lets.map letW++midW x++x.cov.map covW++favW x++croW x++x.calls.map callW++notW x++sinW x++endW x
def printI (x:Ind):List UInt8×Int:=if rightI x=true then fitsT (txt (linesW x)) else ([],1)
structure Rt (x:Ind):Prop where
 frm:0≤x.frm∧x.frm≤200000
 to:0≤x.to∧x.to≤200000
 before:x.frm<x.to
 face:1≤x.face∧x.face≤1000000000000000
 every:1≤x.every∧x.every≤120
 count:0≤x.count∧x.count≤2
 adjust:0≤x.adjust∧x.adjust≤3
 record:0≤x.record∧x.record≤100
 rank:0≤x.rank∧x.rank≤9
 cap:0≤x.cap∧x.cap≤10000
 cross:-1≤x.cross∧x.cross≤1000000000000000
 notice:0≤x.notice∧x.notice≤1000
 sink:0≤x.sink∧x.sink≤1000
 majority:1≤x.majority∧x.majority≤1000
 fast:1≤x.fast∧x.fast≤1000
 name:nameB x.name=true
 issuer:nameB x.issuer=true
 ncalls:x.calls.length≤20
 fav:uniqB x.favour 20=true
 ulets:uniqB (x.lets.map LetE.name) 20=true
 ucov:uniqB (x.cov.map Cov.name) 20=true
 coupon:rightE x.coupon=true
 lets:∀ l∈x.lets,rightE l.body=true
 cov:∀ c∈x.cov,rightE c.must=true∧0≤c.grace∧c.grace≤1000
 calls:∀ c∈x.calls,(0≤c.a∧c.a≤200000)∧0≤c.b∧c.b≤10000
theorem right_iff (x:Ind):rightI x=true↔Rt x:=by
 have one:∀ a b n:Int,inB a b [n]=true↔a≤n∧n≤b:=fun a b n=>by unfold inB;simp
 have two:∀ a b n m:Int,inB a b [n,m]=true↔(a≤n∧n≤b)∧a≤m∧m≤b:=fun a b n m=>by unfold inB;simp
 unfold rightI headB restB datesB oneB twoB letR covR callR
 simp only [Bool.and_eq_true,decide_eq_true_eq,one,two,List.all_eq_true]
 constructor
 ·rintro ⟨⟨⟨⟨⟨⟨⟨⟨⟨a1,a2⟩,a3⟩,⟨⟨⟨⟨⟨b1,b2⟩,b3⟩,b4⟩,b5⟩,b6⟩⟩,⟨⟨⟨c1,c2⟩,c3,c4⟩,c5,c6⟩⟩,d1⟩,d2⟩,d3⟩,d4⟩,⟨⟨⟨⟨e1,e2⟩,e3⟩,e4⟩,e5⟩,e6⟩
  exact ⟨a1,a2,a3,b1,b2,b3,b4,b5,b6,c1,c2,c3,c4,c5,c6,d1,d2,by omega,d4,e1,e2,e3,e4,e5,e6⟩
 ·rintro ⟨a1,a2,a3,b1,b2,b3,b4,b5,b6,c1,c2,c3,c4,c5,c6,d1,d2,d3,d4,e1,e2,e3,e4,e5,e6⟩
  exact ⟨⟨⟨⟨⟨⟨⟨⟨⟨a1,a2⟩,a3⟩,⟨⟨⟨⟨⟨b1,b2⟩,b3⟩,b4⟩,b5⟩,b6⟩⟩,⟨⟨⟨c1,c2⟩,c3,c4⟩,c5,c6⟩⟩,d1⟩,d2⟩,om0⟩,d4⟩,⟨⟨⟨⟨e1,e2⟩,e3⟩,e4⟩,e5⟩,e6⟩
theorem uniq_name {l:List (List UInt8)} {most:Int} (h:uniqB l most=true) {s:List UInt8} (hs:s∈l):nameB s=true:=by
 unfold uniqB at h
 simp only [Bool.and_eq_true,List.all_eq_true,List.mem_range] at h
 obtain ⟨k,hk,rfl⟩:=List.getElem_of_mem hs
 have:=h.1 k hk
 unfold uqB at this
 simp only [Bool.and_eq_true] at this
 have h1:=this.1
 rw [List.getD_eq_getElem?_getD,List.getElem?_eq_getElem hk] at h1
 exact h1
theorem uniq_len {l:List (List UInt8)} {most:Int} (h:uniqB l most=true):(l.length:Int)≤most:=by
 unfold uniqB at h
 simp only [Bool.and_eq_true,decide_eq_true_eq] at h
 exact h.2
theorem itoa_len21 {n:Int} (h:in64 n):(Lib.itoa n).length≤1100000100:=by
 have:=Lib.itoa_length_le n h.1 h.2
 omega
theorem show12_len (e:Exp) (h:rightE e=true) (hok:OkE e):(showT 12 e 0).length≤1100000100:=by
 have h1:=show_len 12 e 0 h hok
 have h3:lenB 12=1073741824:=by decide
 omega
theorem wsOk_of {ws:List (List UInt8)} (h:ws.length≤21) (h2:∀ s∈ws,s.length≤1100000100):WsOk ws:=⟨h,h2⟩
set_option maxHeartbeats 40000000
theorem ws2 {a b:List UInt8} (ha:a.length≤1100000100) (hb:b.length≤1100000100):WsOk [a,b]:=wsOk_of (by simp) (by simp;omega)
theorem ws4 {a b c d:List UInt8} (ha:a.length≤1100000100) (hb:b.length≤1100000100) (hc:c.length≤1100000100) (hd:d.length≤1100000100):WsOk [a,b,c,d]:=wsOk_of (by simp) (by simp;omega)
theorem cnt_len (i:Nat):(cntW.getD i []).length≤20:=by
 match i with
 | 0 | 1 | 2=>decide
 | n+3=>simp [cntW]
theorem adj_len (i:Nat):(adjW.getD i []).length≤20:=by
 match i with
 | 0 | 1 | 2 | 3=>decide
 | n+4=>simp [adjW]
theorem int_len {n:Int} (h1:-1≤n) (h2:n≤1000000000000000):(Lib.itoa n).length≤1100000100:=itoa_len21 ⟨by omega,by omega⟩
theorem nam_len {s:List UInt8} (h:nameB s=true):s.length≤1100000100:=by have:=name_len h;omega
theorem day_len {n:Int} (h:0≤n∧n≤200000):(dayT n).length≤1100000100:=by have:=dayT_len h.1 h.2;omega
theorem letW_ok {l:LetE} (hn:nameB l.name=true) (hr:rightE l.body=true) (hok:OkE l.body):WsOk (letW l) :=
 ws4 (by simp) (nam_len hn) (by simp) (show12_len _ hr hok)
theorem covW_ok {c:Cov} (hn:nameB c.name=true) (hr:rightE c.must=true) (hok:OkE c.must) (h1:0≤c.grace) (h2:c.grace≤1000):WsOk (covW c):=by
 have a1:=nam_len hn
 have a2:=show12_len _ hr hok
 have a3:=int_len (n:=c.grace) (by omega) (by omega)
 refine wsOk_of (by simp [covW]) ?_
 unfold covW
 simp
 omega
theorem callW_ok {c:CallE} (h:(0≤c.a∧c.a≤200000)∧0≤c.b∧c.b≤10000):WsOk (callW c) :=
 ws4 (by simp) (day_len h.1) (by simp) (int_len (by omega) (by omega))
theorem favW_ok {l:List (List UInt8)} (h:uniqB l 20=true):WsOk ([102,97,118,111,117,114]::l):=by
 have h1:=uniq_len h
 refine wsOk_of (by rw [List.length_cons];omega) fun s hs=>?_
 rcases List.mem_cons.1 hs with rfl | hs
 ·simp
 ·exact nam_len (uniq_name h hs)
theorem txt_ne {L:List (List (List UInt8))} (h:L≠[]):txt L≠[]:=by
 cases L with
 | nil=>exact (h rfl).elim
 | cons w L =>
  unfold txt lineT
  simp
theorem string_txt {n:Nat} {L:List (List (List UInt8))} (_:LOk n L) (h:L≠[]):RIO Tryz.prog 46 [.ptr 0 0] [.cells 76 [.ptr 0 0,.own 1],.lst 5 1 (strAVs (txt L))] 0 (fun vs bs es=>vs=[.str (txt L)]∧bs=[]∧es=[]):=string_of (txt L) (txt_ne h)
theorem fits_txt {n:Nat} {L:List (List (List UInt8))} (hL:LOk n L) (hn:n≤120):APure Tryz.prog 45 [.str (txt L)] (fun rs=>rs=[.val (.str (fitsT (txt L)).1),.val (.int .i64 (fitsT (txt L)).2)]):=by
 have hl:=txt_len hL
 have hl2:n*23200000003≤120*23200000003:=Nat.mul_le_mul_right _ hn
 exact fits_ok (txt L) om0
theorem print_ok (x:Ind) (hx:OkX x):APure Tryz.prog 18 [encX x] (fun rs=>rs=[.val (.str (printI x).1),.val (.int .i64 (printI x).2)]):=by
 have h:=rightfn_ok x hx
 unfold printI
 cases hr:rightI x with
 | false =>
  rw [hr] at h
  refine aO (cxOk 199 [0,1,2,3,4,5,6,8,10,12,15,75,76,77,78,104,105,106,107,126,135,144,145,146,147,163,173]) Tryz.func18 ?_
  conv=>whnf
  refine cO (fun _=>h) ?_
  conv=>whnf
  refine gT ?_
  conv=>whnf
  rfl
 | true =>
  rw [hr] at h
  rw [if_pos rfl]
  have R:=(right_iff x).1 hr
  have it:∀ (n:Int),-1≤n→n≤1000000000000000→APureV Tryz.prog 40 [.int .i64 n] (.str (Lib.itoa n)):=fun n h1 h2=>itoa_c n (by omega) (by omega)
  have r1:=R.frm
  have r2:=R.to
  have r3:=R.face
  have r4:=R.every
  have r5:=R.count
  have r6:=R.adjust
  have r7:=R.record
  have r8:=R.rank
  have r9:=R.cap
  have r10:=R.cross
  have r11:=R.notice
  have r12:=R.sink
  have r13:=R.majority
  have r14:=R.fast
  have ll:=uniq_len R.ulets
  have lc:=uniq_len R.ucov
  have lf:=uniq_len R.fav
  have lk:=R.ncalls
  rw [List.length_map] at ll lc
  have d1:=day_ok x.frm r1.1 r1.2
  have d2:=day_ok x.to r2.1 r2.2
  have w1:WsOk [[105,115,115,117,101],x.name,[111,102],x.issuer]:=ws4 (by simp) (nam_len R.name) (by simp) (nam_len R.issuer)
  have w2:WsOk [[102,97,99,101],Lib.itoa x.face]:=ws2 (by simp) (int_len (by omega) (by omega))
  have w3:WsOk [[102,114,111,109],dayT x.frm,[116,111],dayT x.to,[101,118,101,114,121],Lib.itoa x.every,[109,111,110,116,104,115]]:=by
   have a1:=day_len r1
   have a2:=day_len r2
   have a3:=int_len (n:=x.every) (by omega) (by omega)
   refine wsOk_of (by simp) ?_
   simp
   omega
  have w4:WsOk [[99,111,117,110,116],cntW.getD x.count.toNat []]:=ws2 (by simp) (by have:=cnt_len x.count.toNat;omega)
  have w5:WsOk [[97,100,106,117,115,116],adjW.getD x.adjust.toNat []]:=ws2 (by simp) (by have:=adj_len x.adjust.toNat;omega)
  have w6:WsOk [[114,101,99,111,114,100],Lib.itoa x.record]:=ws2 (by simp) (int_len (by omega) (by omega))
  have w7:WsOk [[114,97,110,107],Lib.itoa x.rank]:=ws2 (by simp) (int_len (by omega) (by omega))
  have w8:WsOk [[99,111,117,112,111,110],showT 12 x.coupon 0]:=ws2 (by simp) (show12_len _ R.coupon hx.coupon)
  have w9:WsOk [[99,97,112],Lib.itoa x.cap]:=ws2 (by simp) (int_len (by omega) (by omega))
  have w10:=favW_ok R.fav
  have w11:WsOk [[99,114,111,115,115],Lib.itoa x.cross]:=ws2 (by simp) (int_len (by omega) (by omega))
  have w12:WsOk [[110,111,116,105,99,101],Lib.itoa x.notice]:=ws2 (by simp) (int_len (by omega) (by omega))
  have w13:WsOk [[115,105,110,107],Lib.itoa x.sink]:=ws2 (by simp) (int_len (by omega) (by omega))
  have w14:WsOk [[109,97,106,111,114,105,116,121],Lib.itoa x.majority]:=ws2 (by simp) (int_len (by omega) (by omega))
  have w15:WsOk [[102,97,115,116],Lib.itoa x.fast]:=ws2 (by simp) (int_len (by omega) (by omega))
  have hcou:=show_ok 12 x.coupon 0 (by decide) R.coupon hx.coupon
  refine aO (cxOk 199 [0,1,2,3,4,5,6,8,10,12,15,75,76,77,78,104,105,106,107,126,135,144,145,146,147,163,173]) Tryz.func18 ?_
  conv=>whnf
  refine cO (fun _=>h) ?_
  conv=>whnf
  refine gF ?_
  conv=>whnf
  refine cR (line1_ok _ w1) [1,2] ?_
  conv=>whnf
  have L1:=LOk.snoc LOk.nil w1
  refine cO (fun _=>it x.face om0 om0) ?_
  conv=>whnf
  refine cR (line_ok L1 om0 _ w2) [1,3,4] ?_
  conv=>whnf
  have L2:=LOk.snoc L1 w2
  refine .eff af0 ?_
  conv=>whnf
  refine cO (fun _=>d1) ?_
  conv=>whnf
  refine cO (fun _=>d2) ?_
  conv=>whnf
  refine cO (fun _=>it x.every om0 om0) ?_
  conv=>whnf
  refine cR (line_ok L2 om0 _ w3) [1,5,6] ?_
  conv=>whnf
  have L3:=LOk.snoc L2 w3
  refine ⟨by kernel_rfl,?_⟩
  conv=>whnf
  have e3:cntW.length=3:=rfl
  have e4:adjW.length=4:=rfl
  refine .eff af0 ?_
  conv=>whnf
  refine cO (fun _=>cnt_ok) ?_
  conv=>whnf
  refine iO ?_;conv=>whnf
  refine And.intro rfl ?_;conv=>whnf
  refine cR (line_ok L3 om0 _ w4) [1,7,8] ?_
  conv=>whnf
  have L4:=LOk.snoc L3 w4
  refine ⟨by kernel_rfl,?_⟩
  conv=>whnf
  refine .eff af0 ?_
  conv=>whnf
  refine cO (fun _=>adj_ok) ?_
  conv=>whnf
  refine iO ?_;conv=>whnf
  refine And.intro rfl ?_;conv=>whnf
  refine cR (line_ok L4 om0 _ w5) [1,9,10] ?_
  conv=>whnf
  have L5:=LOk.snoc L4 w5
  refine ⟨by kernel_rfl,?_⟩
  conv=>whnf
  refine cO (fun _=>it x.record om0 om0) ?_
  conv=>whnf
  refine cR (line_ok L5 om0 _ w6) [1,11,12] ?_
  conv=>whnf
  have L6:=LOk.snoc L5 w6
  refine cO (fun _=>it x.rank om0 om0) ?_
  conv=>whnf
  refine cR (line_ok L6 om0 _ w7) [1,13,14] ?_
  conv=>whnf
  have L7:=LOk.snoc L6 w7
  have eH:[]++[[[105,115,115,117,101],x.name,[111,102],x.issuer]]=[[[105,115,115,117,101],x.name,[111,102],x.issuer]]:=rfl
  have LH:LOk 7 (headW x):=L7
  have Llet:∀ k,LOk 20 ((x.lets.take k).map letW):=fun k=>⟨by rw [List.length_map,List.length_take];omega,fun w hw=>by
   obtain ⟨l,hl,rfl⟩:=List.mem_map.1 hw
   have hm:=List.mem_of_mem_take hl
   exact letW_ok (uniq_name R.ulets (List.mem_map_of_mem hm)) (R.lets l hm) (hx.let1 l hm).2⟩
  refine loop_up (cxOk _ _) x.lets.length (fun _=>True) (fun k=>⟨[(1,.ptr 0 0),(2,.str []),(3,.int .i64 0),(4,.ptr 1 0),(5,.fn (.func 37) [] [.ptr 1 0]),(6,.fn (.func 40) [] []),(75,.sl 6 encL l0 x.lets),(76,.int .i64 (x.lets.length:Nat)),(77,.int .i64 (k:Nat))],[(0,.cells 31 (celX x)),(1,.cells 76 [.ptr 1 0,.own 2]),(2,.lst 5 1 (strAVs (txt (headW x++(x.lets.take k).map letW))))],3⟩) trivial ((wk_of [(0,.id 0),(1,.id 1),(2,.id 15)] rfl ⟨wb0,wa0,wa0,wb0,.fn _ _ _ _ _ ac0 ac0,.fn _ _ _ _ _ ac0 ac0,wa0,wa0,wa0,trivial⟩ ⟨wc0,wc0,⟨_,rfl,.lst _ _ _ _ _ rfl (rfl)⟩,trivial⟩)) ?_
  intro k hk _
  conv=>whnf
  refine ⟨fun hd=>?_,fun hd=>?_⟩
  ·have hd:=of_decide_eq_true hd
   have hlt:k<x.lets.length:=by omega
   have hek:(k:Int).toNat=k:=Int.toNat_natCast k
   have hm:x.lets.getD k l0∈x.lets:=getD_mem hlt
   have hsh:=show_ok 12 (x.lets.getD k l0).body 0 (by decide) (R.lets _ hm) (hx.let1 _ hm).2
   have hw:=letW_ok (uniq_name R.ulets (List.mem_map_of_mem hm)) (R.lets _ hm) (hx.let1 _ hm).2
   conv=>whnf
   refine iO ?_;conv=>whnf
   refine And.intro rfl ?_;conv=>whnf
   rw [hek]
   conv=>whnf
   refine .eff af0 ?_
   conv=>whnf
   refine cO (fun _=>hsh) ?_
   conv=>whnf
   refine cR (line_ok (LH.app (Llet k)) om0 _ hw) [1,2,4] ?_
   conv=>whnf
   refine ⟨by kernel_rfl,?_⟩
   conv=>whnf
   refine iO ?_;conv=>whnf
   refine up hlt trivial ((wk_of [(0,.id 0),(1,.id 1),(2,.id 5)] rfl ⟨wb0,wa0,wa0,wb0,.fn _ _ _ _ _ ac0 ac0,.fn _ _ _ _ _ ac0 ac0,wa0,wa0,wa0,trivial⟩ ⟨wc0,wc0,⟨_,rfl,.lst _ _ _ _ _ rfl (by rw [take_getD (d:=l0) hlt,List.map_append,← List.append_assoc];rfl)⟩,trivial⟩))
  have hd:=of_decide_eq_false hd
  obtain rfl:k=x.lets.length:=by omega
  conv=>whnf
  rw [List.take_length]
  have LA:LOk 27 (headW x++x.lets.map letW):=by have:=LH.app (Llet x.lets.length);rw [List.take_length] at this;exact this
  have L100:=LA
  refine cO (fun _=>hcou) ?_
  conv=>whnf
  refine cR (line_ok L100 om0 _ w8) [1,2,3] ?_
  conv=>whnf
  have L101:=LOk.snoc L100 w8
  refine cO (fun _=>it x.cap om0 om0) ?_
  conv=>whnf
  refine cR (line_ok L101 om0 _ w9) [1,4,5] ?_
  conv=>whnf
  have L102:=LOk.snoc L101 w9
  have Lcov:∀ k,LOk 20 ((x.cov.take k).map covW):=fun k=>⟨by rw [List.length_map,List.length_take];omega,fun w hw=>by
   obtain ⟨l,hl,rfl⟩:=List.mem_map.1 hw
   have hm:=List.mem_of_mem_take hl
   exact covW_ok (uniq_name R.ucov (List.mem_map_of_mem hm)) (R.cov l hm).1 (hx.cov1 l hm).2.1 (R.cov l hm).2.1 (R.cov l hm).2.2⟩
  have LB:LOk 29 (headW x++x.lets.map letW++midW x):=by have h:=L102;rw [List.append_assoc] at h;exact h
  refine loop_up (cxOk _ _) x.cov.length (fun _=>True) (fun k=>⟨[(1,.ptr 0 0),(2,.str []),(3,.int .i64 0),(4,.ptr 1 0),(5,.fn (.func 37) [] [.ptr 1 0]),(6,.fn (.func 40) [] []),(104,.sl 7 encC c0 x.cov),(105,.int .i64 (x.cov.length:Nat)),(106,.int .i64 (k:Nat))],[(0,.cells 31 (celX x)),(1,.cells 76 [.ptr 1 0,.own 2]),(2,.lst 5 1 (strAVs (txt (headW x++x.lets.map letW++midW x++(x.cov.take k).map covW))))],3⟩) trivial ((wk_of [(0,.id 0),(1,.id 1),(2,.id 6)] rfl ⟨wb0,wa0,wa0,wb0,.fn _ _ _ _ _ ac0 ac0,.fn _ _ _ _ _ ac0 ac0,wa0,wa0,wa0,trivial⟩ ⟨wc0,wc0,⟨_,rfl,.lst _ _ _ _ _ rfl (by rw [List.append_assoc (headW x++x.lets.map letW)];rw [List.take_zero,List.map_nil,List.append_nil];rfl)⟩,trivial⟩)) ?_
  intro k hk _
  conv=>whnf
  refine ⟨fun hd=>?_,fun hd=>?_⟩
  ·have hd:=of_decide_eq_true hd
   have hlt:k<x.cov.length:=by omega
   have hek:(k:Int).toNat=k:=Int.toNat_natCast k
   have hm:x.cov.getD k c0∈x.cov:=getD_mem hlt
   have hsh:=show_ok 12 (x.cov.getD k c0).must 0 (by decide) (R.cov _ hm).1 (hx.cov1 _ hm).2.1
   have hg:=(R.cov _ hm).2
   have hw:=covW_ok (uniq_name R.ucov (List.mem_map_of_mem hm)) (R.cov _ hm).1 (hx.cov1 _ hm).2.1 hg.1 hg.2
   conv=>whnf
   refine iO ?_;conv=>whnf
   refine And.intro rfl ?_;conv=>whnf
   rw [hek]
   conv=>whnf
   refine .eff af0 ?_
   conv=>whnf
   refine cO (fun _=>hsh) ?_
   conv=>whnf
   refine cO (fun _=>it (x.cov.getD k c0).grace om0 om0) ?_
   conv=>whnf
   refine cR (line_ok (LB.app (Lcov k)) om0 _ hw) [1,2,4] ?_
   conv=>whnf
   refine ⟨by kernel_rfl,?_⟩
   conv=>whnf
   refine iO ?_;conv=>whnf
   refine up hlt trivial ((wk_of [(0,.id 0),(1,.id 1),(2,.id 5)] rfl ⟨wb0,wa0,wa0,wb0,.fn _ _ _ _ _ ac0 ac0,.fn _ _ _ _ _ ac0 ac0,wa0,wa0,wa0,trivial⟩ ⟨wc0,wc0,⟨_,rfl,.lst _ _ _ _ _ rfl (by rw [take_getD (d:=c0) hlt,List.map_append,← List.append_assoc];rfl)⟩,trivial⟩))
  have hd:=of_decide_eq_false hd
  obtain rfl:k=x.cov.length:=by omega
  conv=>whnf
  rw [List.take_length]
  have LC:LOk 49 (headW x++x.lets.map letW++midW x++x.cov.map covW):=by have:=LB.app (Lcov x.cov.length);rw [List.take_length] at this;exact this
  have Lcal:∀ k,LOk 20 ((x.calls.take k).map callW):=fun k=>⟨by rw [List.length_map,List.length_take];omega,fun w hw=>by
   obtain ⟨c,hc,rfl⟩:=List.mem_map.1 hw
   exact callW_ok (R.calls c (List.mem_of_mem_take hc))⟩
  have fin:∀ {n:Nat} {L:List (List (List UInt8))},LOk n L→L=linesW x→[AR.val (.str (fitsT (txt L)).1),AR.val (.int .i64 (fitsT (txt L)).2)]=[AR.val (.str (fitsT (txt (linesW x))).1),AR.val (.int .i64 (fitsT (txt (linesW x))).2)]:=fun _ h=>by rw [h]
  refine ⟨fun hf=>?_,fun hf=>?_⟩
  ·have hf:=of_decide_eq_true hf
   have qf:favW x=[[102,97,118,111,117,114]::x.favour]:=by unfold favW;rw [if_pos (by omega)]
   conv=>whnf
   refine And.intro rfl ?_
   conv=>whnf
   refine And.intro ⟨rfl,rfl⟩ (And.intro (show (1+x.favour.length)*16≤140737488355328 by omega) ?_)
   conv=>whnf
   refine ⟨[[102,97,118,111,117,114]],rfl,?_⟩
   conv=>whnf
   refine cR (lrow_ok LC om0 _ w10) [1,2,4] ?_
   conv=>whnf
   have L103:=LOk.snoc LC w10
   refine ⟨fun hc=>?_,fun hc=>?_⟩
   ·have hc:=of_decide_eq_true hc
    have qc:croW x=[[[99,114,111,115,115],Lib.itoa x.cross]]:=by unfold croW;rw [if_pos (by omega)]
    conv=>whnf
    refine cO (fun _=>it x.cross om0 om0) ?_
    conv=>whnf
    refine cR (line_ok L103 om0 _ w11) [1,5,6] ?_
    conv=>whnf
    have LD:LOk 51 (headW x++x.lets.map letW++midW x++x.cov.map covW++favW x++croW x):=by
     have a:LOk 1 (favW x):=by rw [qf];first | exact LOk.snoc LOk.nil w10 | exact ⟨by simp,fun w hw=>by cases hw⟩
     have b:LOk 1 (croW x):=by rw [qc];first | exact LOk.snoc LOk.nil w11 | exact ⟨by simp,fun w hw=>by cases hw⟩
     exact (LC.app a).app b
    refine loop_up (cxOk _ _) x.calls.length (fun _=>True) (fun k=>⟨[(1,.ptr 0 0),(2,.str []),(3,.int .i64 0),(4,.ptr 1 0),(5,.fn (.func 37) [] [.ptr 1 0]),(6,.fn (.func 40) [] []),(144,.sl 2 encK k0 x.calls),(145,.int .i64 (x.calls.length:Nat)),(146,.int .i64 (k:Nat))],[(0,.cells 31 (celX x)),(1,.cells 76 [.ptr 1 0,.own 2]),(2,.lst 5 1 (strAVs (txt (headW x++x.lets.map letW++midW x++x.cov.map covW++favW x++croW x++(x.calls.take k).map callW))))],3⟩) trivial ((wk_of [(0,.id 0),(1,.id 1),(2,.id 7)] rfl ⟨wb0,wa0,wa0,wb0,.fn _ _ _ _ _ ac0 ac0,.fn _ _ _ _ _ ac0 ac0,wa0,wa0,wa0,trivial⟩ ⟨wc0,wc0,⟨_,rfl,.lst _ _ _ _ _ rfl (by rw [List.take_zero,List.map_nil,List.append_nil,qf,qc];try simp only [List.append_assoc,List.append_nil])⟩,trivial⟩)) ?_
    intro k hk _
    conv=>whnf
    refine ⟨fun hd=>?_,fun hd=>?_⟩
    ·have hd:=of_decide_eq_true hd
     have hlt:k<x.calls.length:=by omega
     have hek:(k:Int).toNat=k:=Int.toNat_natCast k
     have hm:x.calls.getD k k0∈x.calls:=getD_mem hlt
     have hcr:=R.calls _ hm
     have hw:=callW_ok hcr
     have hda:=day_ok _ hcr.1.1 hcr.1.2
     conv=>whnf
     refine iO ?_;conv=>whnf
     refine And.intro rfl ?_;conv=>whnf
     rw [hek]
     conv=>whnf
     refine .eff af0 ?_
     conv=>whnf
     refine cO (fun _=>hda) ?_
     conv=>whnf
     refine cO (fun _=>it (x.calls.getD k k0).b om0 om0) ?_
     conv=>whnf
     refine cR (line_ok (LD.app (Lcal k)) om0 _ hw) [1,2,4] ?_
     conv=>whnf
     refine ⟨by kernel_rfl,?_⟩
     conv=>whnf
     refine iO ?_;conv=>whnf
     refine up hlt trivial ((wk_of [(0,.id 0),(1,.id 1),(2,.id 5)] rfl ⟨wb0,wa0,wa0,wb0,.fn _ _ _ _ _ ac0 ac0,.fn _ _ _ _ _ ac0 ac0,wa0,wa0,wa0,trivial⟩ ⟨wc0,wc0,⟨_,rfl,.lst _ _ _ _ _ rfl (by rw [take_getD (d:=k0) hlt,List.map_append,← List.append_assoc];rfl)⟩,trivial⟩))
    have hd:=of_decide_eq_false hd
    obtain rfl:k=x.calls.length:=by omega
    conv=>whnf
    rw [List.take_length]
    have LE:LOk 71 (headW x++x.lets.map letW++midW x++x.cov.map covW++favW x++croW x++x.calls.map callW):=by have:=LD.app (Lcal x.calls.length);rw [List.take_length] at this;exact this
    refine ⟨fun hn=>?_,fun hn=>?_⟩
    ·have hn:=of_decide_eq_true hn
     have qn:notW x=[[[110,111,116,105,99,101],Lib.itoa x.notice]]:=by unfold notW;rw [if_pos (by omega)]
     conv=>whnf
     refine cO (fun _=>it x.notice om0 om0) ?_
     conv=>whnf
     refine cR (line_ok LE om0 _ w12) [1,2,3] ?_
     conv=>whnf
     have L104:=LOk.snoc LE w12
     refine ⟨fun hs=>?_,fun hs=>?_⟩
     ·have hs:=of_decide_eq_true hs
      have qs:sinW x=[[[115,105,110,107],Lib.itoa x.sink]]:=by unfold sinW;rw [if_pos (by omega)]
      conv=>whnf
      refine cO (fun _=>it x.sink om0 om0) ?_
      conv=>whnf
      refine cR (line_ok L104 om0 _ w13) [1,4,5] ?_
      conv=>whnf
      have L105:=LOk.snoc L104 w13
      refine cO (fun _=>it x.majority om0 om0) ?_
      conv=>whnf
      refine cR (line_ok L105 om0 _ w14) [1,6,7] ?_
      conv=>whnf
      have L106:=LOk.snoc L105 w14
      refine cO (fun _=>it x.fast om0 om0) ?_
      conv=>whnf
      refine cR (line_ok L106 om0 _ w15) [1,8,9] ?_
      conv=>whnf
      have L107:=LOk.snoc L106 w15
      refine .raw _ _ rfl (fun h=>by cases h) (rio_at (string_txt L107 (by simp)) [1,10] rfl rfl rfl ai0) ?_
      rintro _ ⟨_,_,_,⟨rfl,rfl,rfl⟩,-,rfl⟩
      refine ⟨Nat.le_add_right _ _,?_⟩
      conv=>whnf
      refine cO (fun _=>fits_txt L107 om0) ?_
      conv=>whnf
      exact fin L107 (by simp only [linesW,endW,qn,qs,List.append_assoc,List.append_nil,List.cons_append,List.nil_append])
     ·have hs:=of_decide_eq_false hs
      have qs:sinW x=[]:=by unfold sinW;rw [if_neg (by omega)]
      conv=>whnf
      refine cO (fun _=>it x.majority om0 om0) ?_
      conv=>whnf
      refine cR (line_ok L104 om0 _ w14) [1,4,5] ?_
      conv=>whnf
      have L108:=LOk.snoc L104 w14
      refine cO (fun _=>it x.fast om0 om0) ?_
      conv=>whnf
      refine cR (line_ok L108 om0 _ w15) [1,6,7] ?_
      conv=>whnf
      have L109:=LOk.snoc L108 w15
      refine .raw _ _ rfl (fun h=>by cases h) (rio_at (string_txt L109 (by simp)) [1,8] rfl rfl rfl ai0) ?_
      rintro _ ⟨_,_,_,⟨rfl,rfl,rfl⟩,-,rfl⟩
      refine ⟨Nat.le_add_right _ _,?_⟩
      conv=>whnf
      refine cO (fun _=>fits_txt L109 om0) ?_
      conv=>whnf
      exact fin L109 (by simp only [linesW,endW,qn,qs,List.append_assoc,List.append_nil,List.cons_append,List.nil_append])
    ·have hn:=of_decide_eq_false hn
     have qn:notW x=[]:=by unfold notW;rw [if_neg (by omega)]
     conv=>whnf
     refine ⟨fun hs=>?_,fun hs=>?_⟩
     ·have hs:=of_decide_eq_true hs
      have qs:sinW x=[[[115,105,110,107],Lib.itoa x.sink]]:=by unfold sinW;rw [if_pos (by omega)]
      conv=>whnf
      refine cO (fun _=>it x.sink om0 om0) ?_
      conv=>whnf
      refine cR (line_ok LE om0 _ w13) [1,2,3] ?_
      conv=>whnf
      have L110:=LOk.snoc LE w13
      refine cO (fun _=>it x.majority om0 om0) ?_
      conv=>whnf
      refine cR (line_ok L110 om0 _ w14) [1,4,5] ?_
      conv=>whnf
      have L111:=LOk.snoc L110 w14
      refine cO (fun _=>it x.fast om0 om0) ?_
      conv=>whnf
      refine cR (line_ok L111 om0 _ w15) [1,6,7] ?_
      conv=>whnf
      have L112:=LOk.snoc L111 w15
      refine .raw _ _ rfl (fun h=>by cases h) (rio_at (string_txt L112 (by simp)) [1,8] rfl rfl rfl ai0) ?_
      rintro _ ⟨_,_,_,⟨rfl,rfl,rfl⟩,-,rfl⟩
      refine ⟨Nat.le_add_right _ _,?_⟩
      conv=>whnf
      refine cO (fun _=>fits_txt L112 om0) ?_
      conv=>whnf
      exact fin L112 (by simp only [linesW,endW,qn,qs,List.append_assoc,List.append_nil,List.cons_append,List.nil_append])
     ·have hs:=of_decide_eq_false hs
      have qs:sinW x=[]:=by unfold sinW;rw [if_neg (by omega)]
      conv=>whnf
      refine cO (fun _=>it x.majority om0 om0) ?_
      conv=>whnf
      refine cR (line_ok LE om0 _ w14) [1,2,3] ?_
      conv=>whnf
      have L113:=LOk.snoc LE w14
      refine cO (fun _=>it x.fast om0 om0) ?_
      conv=>whnf
      refine cR (line_ok L113 om0 _ w15) [1,4,5] ?_
      conv=>whnf
      have L114:=LOk.snoc L113 w15
      refine .raw _ _ rfl (fun h=>by cases h) (rio_at (string_txt L114 (by simp)) [1,6] rfl rfl rfl ai0) ?_
      rintro _ ⟨_,_,_,⟨rfl,rfl,rfl⟩,-,rfl⟩
      refine ⟨Nat.le_add_right _ _,?_⟩
      conv=>whnf
      refine cO (fun _=>fits_txt L114 om0) ?_
      conv=>whnf
      exact fin L114 (by simp only [linesW,endW,qn,qs,List.append_assoc,List.append_nil,List.cons_append,List.nil_append])
   ·have hc:=of_decide_eq_false hc
    have qc:croW x=[]:=by unfold croW;rw [if_neg (by omega)]
    conv=>whnf
    have LD:LOk 51 (headW x++x.lets.map letW++midW x++x.cov.map covW++favW x++croW x):=by
     have a:LOk 1 (favW x):=by rw [qf];first | exact LOk.snoc LOk.nil w10 | exact ⟨by simp,fun w hw=>by cases hw⟩
     have b:LOk 1 (croW x):=by rw [qc];first | exact LOk.snoc LOk.nil w11 | exact ⟨by simp,fun w hw=>by cases hw⟩
     exact (LC.app a).app b
    refine loop_up (cxOk _ _) x.calls.length (fun _=>True) (fun k=>⟨[(1,.ptr 0 0),(2,.str []),(3,.int .i64 0),(4,.ptr 1 0),(5,.fn (.func 37) [] [.ptr 1 0]),(6,.fn (.func 40) [] []),(144,.sl 2 encK k0 x.calls),(145,.int .i64 (x.calls.length:Nat)),(146,.int .i64 (k:Nat))],[(0,.cells 31 (celX x)),(1,.cells 76 [.ptr 1 0,.own 2]),(2,.lst 5 1 (strAVs (txt (headW x++x.lets.map letW++midW x++x.cov.map covW++favW x++croW x++(x.calls.take k).map callW))))],3⟩) trivial ((wk_of [(0,.id 0),(1,.id 1),(2,.id 5)] rfl ⟨wb0,wa0,wa0,wb0,.fn _ _ _ _ _ ac0 ac0,.fn _ _ _ _ _ ac0 ac0,wa0,wa0,wa0,trivial⟩ ⟨wc0,wc0,⟨_,rfl,.lst _ _ _ _ _ rfl (by rw [List.take_zero,List.map_nil,List.append_nil,qf,qc];try simp only [List.append_assoc,List.append_nil])⟩,trivial⟩)) ?_
    intro k hk _
    conv=>whnf
    refine ⟨fun hd=>?_,fun hd=>?_⟩
    ·have hd:=of_decide_eq_true hd
     have hlt:k<x.calls.length:=by omega
     have hek:(k:Int).toNat=k:=Int.toNat_natCast k
     have hm:x.calls.getD k k0∈x.calls:=getD_mem hlt
     have hcr:=R.calls _ hm
     have hw:=callW_ok hcr
     have hda:=day_ok _ hcr.1.1 hcr.1.2
     conv=>whnf
     refine iO ?_;conv=>whnf
     refine And.intro rfl ?_;conv=>whnf
     rw [hek]
     conv=>whnf
     refine .eff af0 ?_
     conv=>whnf
     refine cO (fun _=>hda) ?_
     conv=>whnf
     refine cO (fun _=>it (x.calls.getD k k0).b om0 om0) ?_
     conv=>whnf
     refine cR (line_ok (LD.app (Lcal k)) om0 _ hw) [1,2,4] ?_
     conv=>whnf
     refine ⟨by kernel_rfl,?_⟩
     conv=>whnf
     refine iO ?_;conv=>whnf
     refine up hlt trivial ((wk_of [(0,.id 0),(1,.id 1),(2,.id 5)] rfl ⟨wb0,wa0,wa0,wb0,.fn _ _ _ _ _ ac0 ac0,.fn _ _ _ _ _ ac0 ac0,wa0,wa0,wa0,trivial⟩ ⟨wc0,wc0,⟨_,rfl,.lst _ _ _ _ _ rfl (by rw [take_getD (d:=k0) hlt,List.map_append,← List.append_assoc];rfl)⟩,trivial⟩))
    have hd:=of_decide_eq_false hd
    obtain rfl:k=x.calls.length:=by omega
    conv=>whnf
    rw [List.take_length]
    have LE:LOk 71 (headW x++x.lets.map letW++midW x++x.cov.map covW++favW x++croW x++x.calls.map callW):=by have:=LD.app (Lcal x.calls.length);rw [List.take_length] at this;exact this
    refine ⟨fun hn=>?_,fun hn=>?_⟩
    ·have hn:=of_decide_eq_true hn
     have qn:notW x=[[[110,111,116,105,99,101],Lib.itoa x.notice]]:=by unfold notW;rw [if_pos (by omega)]
     conv=>whnf
     refine cO (fun _=>it x.notice om0 om0) ?_
     conv=>whnf
     refine cR (line_ok LE om0 _ w12) [1,2,3] ?_
     conv=>whnf
     have L115:=LOk.snoc LE w12
     refine ⟨fun hs=>?_,fun hs=>?_⟩
     ·have hs:=of_decide_eq_true hs
      have qs:sinW x=[[[115,105,110,107],Lib.itoa x.sink]]:=by unfold sinW;rw [if_pos (by omega)]
      conv=>whnf
      refine cO (fun _=>it x.sink om0 om0) ?_
      conv=>whnf
      refine cR (line_ok L115 om0 _ w13) [1,4,5] ?_
      conv=>whnf
      have L116:=LOk.snoc L115 w13
      refine cO (fun _=>it x.majority om0 om0) ?_
      conv=>whnf
      refine cR (line_ok L116 om0 _ w14) [1,6,7] ?_
      conv=>whnf
      have L117:=LOk.snoc L116 w14
      refine cO (fun _=>it x.fast om0 om0) ?_
      conv=>whnf
      refine cR (line_ok L117 om0 _ w15) [1,8,9] ?_
      conv=>whnf
      have L118:=LOk.snoc L117 w15
      refine .raw _ _ rfl (fun h=>by cases h) (rio_at (string_txt L118 (by simp)) [1,10] rfl rfl rfl ai0) ?_
      rintro _ ⟨_,_,_,⟨rfl,rfl,rfl⟩,-,rfl⟩
      refine ⟨Nat.le_add_right _ _,?_⟩
      conv=>whnf
      refine cO (fun _=>fits_txt L118 om0) ?_
      conv=>whnf
      exact fin L118 (by simp only [linesW,endW,qn,qs,List.append_assoc,List.append_nil,List.cons_append,List.nil_append])
     ·have hs:=of_decide_eq_false hs
      have qs:sinW x=[]:=by unfold sinW;rw [if_neg (by omega)]
      conv=>whnf
      refine cO (fun _=>it x.majority om0 om0) ?_
      conv=>whnf
      refine cR (line_ok L115 om0 _ w14) [1,4,5] ?_
      conv=>whnf
      have L119:=LOk.snoc L115 w14
      refine cO (fun _=>it x.fast om0 om0) ?_
      conv=>whnf
      refine cR (line_ok L119 om0 _ w15) [1,6,7] ?_
      conv=>whnf
      have L120:=LOk.snoc L119 w15
      refine .raw _ _ rfl (fun h=>by cases h) (rio_at (string_txt L120 (by simp)) [1,8] rfl rfl rfl ai0) ?_
      rintro _ ⟨_,_,_,⟨rfl,rfl,rfl⟩,-,rfl⟩
      refine ⟨Nat.le_add_right _ _,?_⟩
      conv=>whnf
      refine cO (fun _=>fits_txt L120 om0) ?_
      conv=>whnf
      exact fin L120 (by simp only [linesW,endW,qn,qs,List.append_assoc,List.append_nil,List.cons_append,List.nil_append])
    ·have hn:=of_decide_eq_false hn
     have qn:notW x=[]:=by unfold notW;rw [if_neg (by omega)]
     conv=>whnf
     refine ⟨fun hs=>?_,fun hs=>?_⟩
     ·have hs:=of_decide_eq_true hs
      have qs:sinW x=[[[115,105,110,107],Lib.itoa x.sink]]:=by unfold sinW;rw [if_pos (by omega)]
      conv=>whnf
      refine cO (fun _=>it x.sink om0 om0) ?_
      conv=>whnf
      refine cR (line_ok LE om0 _ w13) [1,2,3] ?_
      conv=>whnf
      have L121:=LOk.snoc LE w13
      refine cO (fun _=>it x.majority om0 om0) ?_
      conv=>whnf
      refine cR (line_ok L121 om0 _ w14) [1,4,5] ?_
      conv=>whnf
      have L122:=LOk.snoc L121 w14
      refine cO (fun _=>it x.fast om0 om0) ?_
      conv=>whnf
      refine cR (line_ok L122 om0 _ w15) [1,6,7] ?_
      conv=>whnf
      have L123:=LOk.snoc L122 w15
      refine .raw _ _ rfl (fun h=>by cases h) (rio_at (string_txt L123 (by simp)) [1,8] rfl rfl rfl ai0) ?_
      rintro _ ⟨_,_,_,⟨rfl,rfl,rfl⟩,-,rfl⟩
      refine ⟨Nat.le_add_right _ _,?_⟩
      conv=>whnf
      refine cO (fun _=>fits_txt L123 om0) ?_
      conv=>whnf
      exact fin L123 (by simp only [linesW,endW,qn,qs,List.append_assoc,List.append_nil,List.cons_append,List.nil_append])
     ·have hs:=of_decide_eq_false hs
      have qs:sinW x=[]:=by unfold sinW;rw [if_neg (by omega)]
      conv=>whnf
      refine cO (fun _=>it x.majority om0 om0) ?_
      conv=>whnf
      refine cR (line_ok LE om0 _ w14) [1,2,3] ?_
      conv=>whnf
      have L124:=LOk.snoc LE w14
      refine cO (fun _=>it x.fast om0 om0) ?_
      conv=>whnf
      refine cR (line_ok L124 om0 _ w15) [1,4,5] ?_
      conv=>whnf
      have L125:=LOk.snoc L124 w15
      refine .raw _ _ rfl (fun h=>by cases h) (rio_at (string_txt L125 (by simp)) [1,6] rfl rfl rfl ai0) ?_
      rintro _ ⟨_,_,_,⟨rfl,rfl,rfl⟩,-,rfl⟩
      refine ⟨Nat.le_add_right _ _,?_⟩
      conv=>whnf
      refine cO (fun _=>fits_txt L125 om0) ?_
      conv=>whnf
      exact fin L125 (by simp only [linesW,endW,qn,qs,List.append_assoc,List.append_nil,List.cons_append,List.nil_append])
  ·have hf:=of_decide_eq_false hf
   have qf:favW x=[]:=by unfold favW;rw [if_neg (by omega)]
   conv=>whnf
   refine ⟨fun hc=>?_,fun hc=>?_⟩
   ·have hc:=of_decide_eq_true hc
    have qc:croW x=[[[99,114,111,115,115],Lib.itoa x.cross]]:=by unfold croW;rw [if_pos (by omega)]
    conv=>whnf
    refine cO (fun _=>it x.cross om0 om0) ?_
    conv=>whnf
    refine cR (line_ok LC om0 _ w11) [1,2,3] ?_
    conv=>whnf
    have LD:LOk 51 (headW x++x.lets.map letW++midW x++x.cov.map covW++favW x++croW x):=by
     have a:LOk 1 (favW x):=by rw [qf];first | exact LOk.snoc LOk.nil w10 | exact ⟨by simp,fun w hw=>by cases hw⟩
     have b:LOk 1 (croW x):=by rw [qc];first | exact LOk.snoc LOk.nil w11 | exact ⟨by simp,fun w hw=>by cases hw⟩
     exact (LC.app a).app b
    refine loop_up (cxOk _ _) x.calls.length (fun _=>True) (fun k=>⟨[(1,.ptr 0 0),(2,.str []),(3,.int .i64 0),(4,.ptr 1 0),(5,.fn (.func 37) [] [.ptr 1 0]),(6,.fn (.func 40) [] []),(144,.sl 2 encK k0 x.calls),(145,.int .i64 (x.calls.length:Nat)),(146,.int .i64 (k:Nat))],[(0,.cells 31 (celX x)),(1,.cells 76 [.ptr 1 0,.own 2]),(2,.lst 5 1 (strAVs (txt (headW x++x.lets.map letW++midW x++x.cov.map covW++favW x++croW x++(x.calls.take k).map callW))))],3⟩) trivial ((wk_of [(0,.id 0),(1,.id 1),(2,.id 4)] rfl ⟨wb0,wa0,wa0,wb0,.fn _ _ _ _ _ ac0 ac0,.fn _ _ _ _ _ ac0 ac0,wa0,wa0,wa0,trivial⟩ ⟨wc0,wc0,⟨_,rfl,.lst _ _ _ _ _ rfl (by rw [List.take_zero,List.map_nil,List.append_nil,qf,qc];try simp only [List.append_assoc,List.append_nil])⟩,trivial⟩)) ?_
    intro k hk _
    conv=>whnf
    refine ⟨fun hd=>?_,fun hd=>?_⟩
    ·have hd:=of_decide_eq_true hd
     have hlt:k<x.calls.length:=by omega
     have hek:(k:Int).toNat=k:=Int.toNat_natCast k
     have hm:x.calls.getD k k0∈x.calls:=getD_mem hlt
     have hcr:=R.calls _ hm
     have hw:=callW_ok hcr
     have hda:=day_ok _ hcr.1.1 hcr.1.2
     conv=>whnf
     refine iO ?_;conv=>whnf
     refine And.intro rfl ?_;conv=>whnf
     rw [hek]
     conv=>whnf
     refine .eff af0 ?_
     conv=>whnf
     refine cO (fun _=>hda) ?_
     conv=>whnf
     refine cO (fun _=>it (x.calls.getD k k0).b om0 om0) ?_
     conv=>whnf
     refine cR (line_ok (LD.app (Lcal k)) om0 _ hw) [1,2,4] ?_
     conv=>whnf
     refine ⟨by kernel_rfl,?_⟩
     conv=>whnf
     refine iO ?_;conv=>whnf
     refine up hlt trivial ((wk_of [(0,.id 0),(1,.id 1),(2,.id 5)] rfl ⟨wb0,wa0,wa0,wb0,.fn _ _ _ _ _ ac0 ac0,.fn _ _ _ _ _ ac0 ac0,wa0,wa0,wa0,trivial⟩ ⟨wc0,wc0,⟨_,rfl,.lst _ _ _ _ _ rfl (by rw [take_getD (d:=k0) hlt,List.map_append,← List.append_assoc];rfl)⟩,trivial⟩))
    have hd:=of_decide_eq_false hd
    obtain rfl:k=x.calls.length:=by omega
    conv=>whnf
    rw [List.take_length]
    have LE:LOk 71 (headW x++x.lets.map letW++midW x++x.cov.map covW++favW x++croW x++x.calls.map callW):=by have:=LD.app (Lcal x.calls.length);rw [List.take_length] at this;exact this
    refine ⟨fun hn=>?_,fun hn=>?_⟩
    ·have hn:=of_decide_eq_true hn
     have qn:notW x=[[[110,111,116,105,99,101],Lib.itoa x.notice]]:=by unfold notW;rw [if_pos (by omega)]
     conv=>whnf
     refine cO (fun _=>it x.notice om0 om0) ?_
     conv=>whnf
     refine cR (line_ok LE om0 _ w12) [1,2,3] ?_
     conv=>whnf
     have L126:=LOk.snoc LE w12
     refine ⟨fun hs=>?_,fun hs=>?_⟩
     ·have hs:=of_decide_eq_true hs
      have qs:sinW x=[[[115,105,110,107],Lib.itoa x.sink]]:=by unfold sinW;rw [if_pos (by omega)]
      conv=>whnf
      refine cO (fun _=>it x.sink om0 om0) ?_
      conv=>whnf
      refine cR (line_ok L126 om0 _ w13) [1,4,5] ?_
      conv=>whnf
      have L127:=LOk.snoc L126 w13
      refine cO (fun _=>it x.majority om0 om0) ?_
      conv=>whnf
      refine cR (line_ok L127 om0 _ w14) [1,6,7] ?_
      conv=>whnf
      have L128:=LOk.snoc L127 w14
      refine cO (fun _=>it x.fast om0 om0) ?_
      conv=>whnf
      refine cR (line_ok L128 om0 _ w15) [1,8,9] ?_
      conv=>whnf
      have L129:=LOk.snoc L128 w15
      refine .raw _ _ rfl (fun h=>by cases h) (rio_at (string_txt L129 (by simp)) [1,10] rfl rfl rfl ai0) ?_
      rintro _ ⟨_,_,_,⟨rfl,rfl,rfl⟩,-,rfl⟩
      refine ⟨Nat.le_add_right _ _,?_⟩
      conv=>whnf
      refine cO (fun _=>fits_txt L129 om0) ?_
      conv=>whnf
      exact fin L129 (by simp only [linesW,endW,qn,qs,List.append_assoc,List.append_nil,List.cons_append,List.nil_append])
     ·have hs:=of_decide_eq_false hs
      have qs:sinW x=[]:=by unfold sinW;rw [if_neg (by omega)]
      conv=>whnf
      refine cO (fun _=>it x.majority om0 om0) ?_
      conv=>whnf
      refine cR (line_ok L126 om0 _ w14) [1,4,5] ?_
      conv=>whnf
      have L130:=LOk.snoc L126 w14
      refine cO (fun _=>it x.fast om0 om0) ?_
      conv=>whnf
      refine cR (line_ok L130 om0 _ w15) [1,6,7] ?_
      conv=>whnf
      have L131:=LOk.snoc L130 w15
      refine .raw _ _ rfl (fun h=>by cases h) (rio_at (string_txt L131 (by simp)) [1,8] rfl rfl rfl ai0) ?_
      rintro _ ⟨_,_,_,⟨rfl,rfl,rfl⟩,-,rfl⟩
      refine ⟨Nat.le_add_right _ _,?_⟩
      conv=>whnf
      refine cO (fun _=>fits_txt L131 om0) ?_
      conv=>whnf
      exact fin L131 (by simp only [linesW,endW,qn,qs,List.append_assoc,List.append_nil,List.cons_append,List.nil_append])
    ·have hn:=of_decide_eq_false hn
     have qn:notW x=[]:=by unfold notW;rw [if_neg (by omega)]
     conv=>whnf
     refine ⟨fun hs=>?_,fun hs=>?_⟩
     ·have hs:=of_decide_eq_true hs
      have qs:sinW x=[[[115,105,110,107],Lib.itoa x.sink]]:=by unfold sinW;rw [if_pos (by omega)]
      conv=>whnf
      refine cO (fun _=>it x.sink om0 om0) ?_
      conv=>whnf
      refine cR (line_ok LE om0 _ w13) [1,2,3] ?_
      conv=>whnf
      have L132:=LOk.snoc LE w13
      refine cO (fun _=>it x.majority om0 om0) ?_
      conv=>whnf
      refine cR (line_ok L132 om0 _ w14) [1,4,5] ?_
      conv=>whnf
      have L133:=LOk.snoc L132 w14
      refine cO (fun _=>it x.fast om0 om0) ?_
      conv=>whnf
      refine cR (line_ok L133 om0 _ w15) [1,6,7] ?_
      conv=>whnf
      have L134:=LOk.snoc L133 w15
      refine .raw _ _ rfl (fun h=>by cases h) (rio_at (string_txt L134 (by simp)) [1,8] rfl rfl rfl ai0) ?_
      rintro _ ⟨_,_,_,⟨rfl,rfl,rfl⟩,-,rfl⟩
      refine ⟨Nat.le_add_right _ _,?_⟩
      conv=>whnf
      refine cO (fun _=>fits_txt L134 om0) ?_
      conv=>whnf
      exact fin L134 (by simp only [linesW,endW,qn,qs,List.append_assoc,List.append_nil,List.cons_append,List.nil_append])
     ·have hs:=of_decide_eq_false hs
      have qs:sinW x=[]:=by unfold sinW;rw [if_neg (by omega)]
      conv=>whnf
      refine cO (fun _=>it x.majority om0 om0) ?_
      conv=>whnf
      refine cR (line_ok LE om0 _ w14) [1,2,3] ?_
      conv=>whnf
      have L135:=LOk.snoc LE w14
      refine cO (fun _=>it x.fast om0 om0) ?_
      conv=>whnf
      refine cR (line_ok L135 om0 _ w15) [1,4,5] ?_
      conv=>whnf
      have L136:=LOk.snoc L135 w15
      refine .raw _ _ rfl (fun h=>by cases h) (rio_at (string_txt L136 (by simp)) [1,6] rfl rfl rfl ai0) ?_
      rintro _ ⟨_,_,_,⟨rfl,rfl,rfl⟩,-,rfl⟩
      refine ⟨Nat.le_add_right _ _,?_⟩
      conv=>whnf
      refine cO (fun _=>fits_txt L136 om0) ?_
      conv=>whnf
      exact fin L136 (by simp only [linesW,endW,qn,qs,List.append_assoc,List.append_nil,List.cons_append,List.nil_append])
   ·have hc:=of_decide_eq_false hc
    have qc:croW x=[]:=by unfold croW;rw [if_neg (by omega)]
    conv=>whnf
    have LD:LOk 51 (headW x++x.lets.map letW++midW x++x.cov.map covW++favW x++croW x):=by
     have a:LOk 1 (favW x):=by rw [qf];first | exact LOk.snoc LOk.nil w10 | exact ⟨by simp,fun w hw=>by cases hw⟩
     have b:LOk 1 (croW x):=by rw [qc];first | exact LOk.snoc LOk.nil w11 | exact ⟨by simp,fun w hw=>by cases hw⟩
     exact (LC.app a).app b
    refine loop_up (cxOk _ _) x.calls.length (fun _=>True) (fun k=>⟨[(1,.ptr 0 0),(2,.str []),(3,.int .i64 0),(4,.ptr 1 0),(5,.fn (.func 37) [] [.ptr 1 0]),(6,.fn (.func 40) [] []),(144,.sl 2 encK k0 x.calls),(145,.int .i64 (x.calls.length:Nat)),(146,.int .i64 (k:Nat))],[(0,.cells 31 (celX x)),(1,.cells 76 [.ptr 1 0,.own 2]),(2,.lst 5 1 (strAVs (txt (headW x++x.lets.map letW++midW x++x.cov.map covW++favW x++croW x++(x.calls.take k).map callW))))],3⟩) trivial ((wk_of [(0,.id 0),(1,.id 1),(2,.id 2)] rfl ⟨wb0,wa0,wa0,wb0,.fn _ _ _ _ _ ac0 ac0,.fn _ _ _ _ _ ac0 ac0,wa0,wa0,wa0,trivial⟩ ⟨wc0,wc0,⟨_,rfl,.lst _ _ _ _ _ rfl (by rw [List.take_zero,List.map_nil,List.append_nil,qf,qc];try simp only [List.append_assoc,List.append_nil])⟩,trivial⟩)) ?_
    intro k hk _
    conv=>whnf
    refine ⟨fun hd=>?_,fun hd=>?_⟩
    ·have hd:=of_decide_eq_true hd
     have hlt:k<x.calls.length:=by omega
     have hek:(k:Int).toNat=k:=Int.toNat_natCast k
     have hm:x.calls.getD k k0∈x.calls:=getD_mem hlt
     have hcr:=R.calls _ hm
     have hw:=callW_ok hcr
     have hda:=day_ok _ hcr.1.1 hcr.1.2
     conv=>whnf
     refine iO ?_;conv=>whnf
     refine And.intro rfl ?_;conv=>whnf
     rw [hek]
     conv=>whnf
     refine .eff af0 ?_
     conv=>whnf
     refine cO (fun _=>hda) ?_
     conv=>whnf
     refine cO (fun _=>it (x.calls.getD k k0).b om0 om0) ?_
     conv=>whnf
     refine cR (line_ok (LD.app (Lcal k)) om0 _ hw) [1,2,4] ?_
     conv=>whnf
     refine ⟨by kernel_rfl,?_⟩
     conv=>whnf
     refine iO ?_;conv=>whnf
     refine up hlt trivial ((wk_of [(0,.id 0),(1,.id 1),(2,.id 5)] rfl ⟨wb0,wa0,wa0,wb0,.fn _ _ _ _ _ ac0 ac0,.fn _ _ _ _ _ ac0 ac0,wa0,wa0,wa0,trivial⟩ ⟨wc0,wc0,⟨_,rfl,.lst _ _ _ _ _ rfl (by rw [take_getD (d:=k0) hlt,List.map_append,← List.append_assoc];rfl)⟩,trivial⟩))
    have hd:=of_decide_eq_false hd
    obtain rfl:k=x.calls.length:=by omega
    conv=>whnf
    rw [List.take_length]
    have LE:LOk 71 (headW x++x.lets.map letW++midW x++x.cov.map covW++favW x++croW x++x.calls.map callW):=by have:=LD.app (Lcal x.calls.length);rw [List.take_length] at this;exact this
    refine ⟨fun hn=>?_,fun hn=>?_⟩
    ·have hn:=of_decide_eq_true hn
     have qn:notW x=[[[110,111,116,105,99,101],Lib.itoa x.notice]]:=by unfold notW;rw [if_pos (by omega)]
     conv=>whnf
     refine cO (fun _=>it x.notice om0 om0) ?_
     conv=>whnf
     refine cR (line_ok LE om0 _ w12) [1,2,3] ?_
     conv=>whnf
     have L137:=LOk.snoc LE w12
     refine ⟨fun hs=>?_,fun hs=>?_⟩
     ·have hs:=of_decide_eq_true hs
      have qs:sinW x=[[[115,105,110,107],Lib.itoa x.sink]]:=by unfold sinW;rw [if_pos (by omega)]
      conv=>whnf
      refine cO (fun _=>it x.sink om0 om0) ?_
      conv=>whnf
      refine cR (line_ok L137 om0 _ w13) [1,4,5] ?_
      conv=>whnf
      have L138:=LOk.snoc L137 w13
      refine cO (fun _=>it x.majority om0 om0) ?_
      conv=>whnf
      refine cR (line_ok L138 om0 _ w14) [1,6,7] ?_
      conv=>whnf
      have L139:=LOk.snoc L138 w14
      refine cO (fun _=>it x.fast om0 om0) ?_
      conv=>whnf
      refine cR (line_ok L139 om0 _ w15) [1,8,9] ?_
      conv=>whnf
      have L140:=LOk.snoc L139 w15
      refine .raw _ _ rfl (fun h=>by cases h) (rio_at (string_txt L140 (by simp)) [1,10] rfl rfl rfl ai0) ?_
      rintro _ ⟨_,_,_,⟨rfl,rfl,rfl⟩,-,rfl⟩
      refine ⟨Nat.le_add_right _ _,?_⟩
      conv=>whnf
      refine cO (fun _=>fits_txt L140 om0) ?_
      conv=>whnf
      exact fin L140 (by simp only [linesW,endW,qn,qs,List.append_assoc,List.append_nil,List.cons_append,List.nil_append])
     ·have hs:=of_decide_eq_false hs
      have qs:sinW x=[]:=by unfold sinW;rw [if_neg (by omega)]
      conv=>whnf
      refine cO (fun _=>it x.majority om0 om0) ?_
      conv=>whnf
      refine cR (line_ok L137 om0 _ w14) [1,4,5] ?_
      conv=>whnf
      have L141:=LOk.snoc L137 w14
      refine cO (fun _=>it x.fast om0 om0) ?_
      conv=>whnf
      refine cR (line_ok L141 om0 _ w15) [1,6,7] ?_
      conv=>whnf
      have L142:=LOk.snoc L141 w15
      refine .raw _ _ rfl (fun h=>by cases h) (rio_at (string_txt L142 (by simp)) [1,8] rfl rfl rfl ai0) ?_
      rintro _ ⟨_,_,_,⟨rfl,rfl,rfl⟩,-,rfl⟩
      refine ⟨Nat.le_add_right _ _,?_⟩
      conv=>whnf
      refine cO (fun _=>fits_txt L142 om0) ?_
      conv=>whnf
      exact fin L142 (by simp only [linesW,endW,qn,qs,List.append_assoc,List.append_nil,List.cons_append,List.nil_append])
    ·have hn:=of_decide_eq_false hn
     have qn:notW x=[]:=by unfold notW;rw [if_neg (by omega)]
     conv=>whnf
     refine ⟨fun hs=>?_,fun hs=>?_⟩
     ·have hs:=of_decide_eq_true hs
      have qs:sinW x=[[[115,105,110,107],Lib.itoa x.sink]]:=by unfold sinW;rw [if_pos (by omega)]
      conv=>whnf
      refine cO (fun _=>it x.sink om0 om0) ?_
      conv=>whnf
      refine cR (line_ok LE om0 _ w13) [1,2,3] ?_
      conv=>whnf
      have L143:=LOk.snoc LE w13
      refine cO (fun _=>it x.majority om0 om0) ?_
      conv=>whnf
      refine cR (line_ok L143 om0 _ w14) [1,4,5] ?_
      conv=>whnf
      have L144:=LOk.snoc L143 w14
      refine cO (fun _=>it x.fast om0 om0) ?_
      conv=>whnf
      refine cR (line_ok L144 om0 _ w15) [1,6,7] ?_
      conv=>whnf
      have L145:=LOk.snoc L144 w15
      refine .raw _ _ rfl (fun h=>by cases h) (rio_at (string_txt L145 (by simp)) [1,8] rfl rfl rfl ai0) ?_
      rintro _ ⟨_,_,_,⟨rfl,rfl,rfl⟩,-,rfl⟩
      refine ⟨Nat.le_add_right _ _,?_⟩
      conv=>whnf
      refine cO (fun _=>fits_txt L145 om0) ?_
      conv=>whnf
      exact fin L145 (by simp only [linesW,endW,qn,qs,List.append_assoc,List.append_nil,List.cons_append,List.nil_append])
     ·have hs:=of_decide_eq_false hs
      have qs:sinW x=[]:=by unfold sinW;rw [if_neg (by omega)]
      conv=>whnf
      refine cO (fun _=>it x.majority om0 om0) ?_
      conv=>whnf
      refine cR (line_ok LE om0 _ w14) [1,2,3] ?_
      conv=>whnf
      have L146:=LOk.snoc LE w14
      refine cO (fun _=>it x.fast om0 om0) ?_
      conv=>whnf
      refine cR (line_ok L146 om0 _ w15) [1,4,5] ?_
      conv=>whnf
      have L147:=LOk.snoc L146 w15
      refine .raw _ _ rfl (fun h=>by cases h) (rio_at (string_txt L147 (by simp)) [1,6] rfl rfl rfl ai0) ?_
      rintro _ ⟨_,_,_,⟨rfl,rfl,rfl⟩,-,rfl⟩
      refine ⟨Nat.le_add_right _ _,?_⟩
      conv=>whnf
      refine cO (fun _=>fits_txt L147 om0) ?_
      conv=>whnf
      exact fin L147 (by simp only [linesW,endW,qn,qs,List.append_assoc,List.append_nil,List.cons_append,List.nil_append])
theorem inB_eq (a b n:Int):inB a b [n]=(decide (a≤n)&&decide (n≤b)):=by unfold inB;simp
theorem within_ok (n a b:Int):APureV Tryz.prog 112 [.int .i64 n,.int .i64 a,.int .i64 b] (.bool (inB a b [n])):=by
 rw [inB_eq]
 refine aO (cxOk 15 [0,1,2,6]) Tryz.func112 ?_
 conv=>whnf
 rfl
theorem right_succ (d:Nat) (e:Exp):rightB (d+1) e =
  (if (e.args.length:Int)≠opsN e.op then false
  else if e.op=0 then decide (e.s=[])&&inB 0 4 [e.unit]&&inB 0 (if e.unit=4 then 1 else 1000000000000000) [e.n]
  else if e.op=1∨e.op=2∨e.op=3 then decide (e.n=0)&&decide (e.unit=0)&&nameB e.s
  else if e.op=16∨e.op=17∨e.op=18 then decide (e.unit=0)&&decide (e.s=[])&&inB 1 1000 [e.n]&&rightB d (argOf e 0)
  else decide (e.n=0)&&decide (e.unit=0)&&decide (e.s=[])&&!(e.args.any fun x=>!rightB d x)):=by rw [rightB]
def badB (e:Exp):Bool:=(decide ((e.args.length:Int)≠opsN e.op)||(decide (e.op≠0)&&decide (e.unit≠0))||(decide (e.op≠0)&&!(decide (e.op=16)||decide (e.op=17)||decide (e.op=18))&&decide (e.n≠0)) ||
 ((decide (e.op=16)||decide (e.op=17)||decide (e.op=18))&&!inB 1 1000 [e.n]))
theorem right2_num (d:Nat) (e:Exp) (h0:e.op=0) (hb:badB e=false):rightB (d+1) e=(decide (e.s=[])&&inB 0 4 [e.unit]&&inB 0 1000000000000000 [e.n]&&(!decide (e.unit=4)||decide (e.n≤1))):=by
 unfold badB at hb
 simp only [Bool.or_eq_false_iff,decide_eq_false_iff_not] at hb
 rw [right_succ]
 rw [if_neg hb.1.1.1,if_pos h0]
 by_cases hu:e.unit=4
 ·rw [if_pos hu]
  simp only [inB_eq,hu]
  by_cases h1:0≤e.n<;>by_cases h2:e.n≤1<;>simp [h1,h2]<;>omega
 ·rw [if_neg hu]
  simp [hu]
theorem right2_name (d:Nat) (e:Exp) (h0:e.op=1∨e.op=2∨e.op=3) (hb:badB e=false):rightB (d+1) e=nameB e.s:=by
 unfold badB at hb
 simp only [Bool.or_eq_false_iff,decide_eq_false_iff_not,Bool.and_eq_false_iff,Bool.not_eq_false',Bool.or_eq_true,decide_eq_true_eq] at hb
 rw [right_succ]
 rw [if_neg hb.1.1.1,if_neg (by omega),if_pos h0]
 have hu:e.unit=0:=by omega
 have hn:e.n=0:=by omega
 simp [hu,hn]
theorem right2_args (d:Nat) (e:Exp) (h0:¬ e.op=0) (h1:¬ (e.op=1∨e.op=2∨e.op=3)) (hb:badB e=false):rightB (d+1) e=(decide (e.s=[])&&!(e.args.any fun x=>!rightB d x)):=by
 unfold badB at hb
 simp only [Bool.or_eq_false_iff,decide_eq_false_iff_not,Bool.and_eq_false_iff,Bool.not_eq_false',Bool.or_eq_true,decide_eq_true_eq] at hb
 obtain ⟨⟨⟨hl,hu⟩,hn⟩,hd⟩:=hb
 have hu:e.unit=0:=by omega
 have hl:(e.args.length:Int)=opsN e.op:=by omega
 rw [right_succ]
 rw [if_neg (by omega),if_neg h0,if_neg h1]
 by_cases h2:e.op=16∨e.op=17∨e.op=18
 ·rw [if_pos h2]
  have hin:inB 1 1000 [e.n]=true:=by rcases hd with hd | hd<;>first | omega | exact hd
  have ho:opsN e.op=1:=by unfold opsN;rw [if_neg (by omega),if_pos (by omega)]
  have hl1:e.args.length=1:=by omega
  match hm:e.args,hl1 with
  | [y],_ =>
   have:argOf e 0=y:=by unfold argOf;rw [hm];rfl
   rw [this,hin,hu]
   simp
 ·rw [if_neg h2]
  have hn:e.n=0:=by omega
  simp [hu,hn]
theorem right2_bad (d:Nat) (e:Exp) (hb:badB e=true):rightB d e=false:=by
 cases d with
 | zero=>rfl
 | succ d =>
  unfold badB at hb
  simp only [Bool.or_eq_true,decide_eq_true_eq,Bool.and_eq_true,Bool.not_eq_true'] at hb
  rw [right_succ]
  by_cases hl:(e.args.length:Int)≠opsN e.op
  ·rw [if_pos hl]
  rw [if_neg hl]
  by_cases h0:e.op=0
  ·exfalso
   rcases hb with ((hb | hb) | hb) | hb<;>omega
  rw [if_neg h0]
  by_cases h1:e.op=1∨e.op=2∨e.op=3
  ·rw [if_pos h1]
   rcases hb with ((hb | hb) | hb) | hb
   ·omega
   ·simp [hb.2]
   ·simp [hb.2]
   ·omega
  rw [if_neg h1]
  by_cases h2:e.op=16∨e.op=17∨e.op=18
  ·rw [if_pos h2]
   rcases hb with ((hb | hb) | hb) | hb
   ·omega
   ·simp [hb.2]
   ·exfalso
    obtain ⟨⟨_,h3⟩,_⟩:=hb
    rw [Bool.or_eq_false_iff,Bool.or_eq_false_iff] at h3
    simp only [decide_eq_false_iff_not] at h3
    omega
   ·simp [hb.2]
  rw [if_neg h2]
  rcases hb with ((hb | hb) | hb) | hb
  ·omega
  ·simp [hb.2]
  ·simp [hb.2]
  ·omega
theorem bad_eq (e:Exp) (k:Int) (h:opsN e.op=k):(!decide (((argsE e).length:Int)=k)||!decide (e.op=0)&&!decide (e.unit=0)||!decide (e.op=0)&&!(decide (e.op=16)||decide (e.op=17)||decide (e.op=18))&&!decide (e.n=0) ||
  (decide (e.op=16)||decide (e.op=17)||decide (e.op=18))&&!inB 1 1000 [e.n])=badB e:=by
 unfold badB
 rw [argsE_len,h]
 simp
theorem right2_ok:∀ (d:Nat) (e:Exp),d≤1000→OkE e→APureV Tryz.prog 151 [encE e,.int .i64 (d:Nat)] (.bool (rightB d e)):=by
 intro d
 induction d with
 | zero =>
  intro e _ hok
  refine aO (cxOk 149 [0,1,2,4,5,6,7,8,20,52,58,61,99,102,126,134,145]) Tryz.func151 ?_
  conv=>whnf
  refine ⟨fun _=>?_,fun hx=>(by simp at hx)⟩
  conv=>whnf
  rfl
 | succ d ih =>
  intro e hd hok
  have hal:=argsE_len e
  have hal2:=hok.alen
  have hn2:=name2_ok e.s hok.slen
  have hwi:=within_ok e.n 1 1000
  by_cases hop:e.op<0∨19≤e.op
  ·have hf:rightB (d+1) e=false:=by
    cases hr:rightB (d+1) e with
    | false=>rfl
    | true=>have:=right_op hr;omega
   rw [hf]
   refine aO (cxOk 149 [0,1,2,4,5,6,7,8,20,52,58,61,99,102,126,134,145]) Tryz.func151 ?_
   conv=>whnf
   refine ⟨fun _=>?_,fun hx=>(by simp at hx;omega)⟩
   conv=>whnf
   rfl
  by_cases h0:e.op=0
  ·have ho:opsN e.op=0:=by rw [h0];rfl
   have hw4:=within_ok e.unit 0 4
   have hwM:=within_ok e.n 0 1000000000000000
   refine aO (cxOk 149 [0,1,2,4,5,6,7,8,20,52,58,61,99,102,126,134,145]) Tryz.func151 ?_
   conv=>whnf
   repeat (first | (refine ⟨fun _=>?_,fun hx=>(by simp at hx;omega)⟩;conv=>whnf) | (refine ⟨fun hx=>(by simp at hx;omega),fun _=>?_⟩;conv=>whnf))
   refine cO (fun _=>hwi) ?_
   conv=>whnf
   refine ⟨fun hb=>?_,fun hb=>?_⟩
   ·rw [bad_eq e _ ho] at hb
    rw [right2_bad _ e hb]
    conv=>whnf
    rfl
   rw [bad_eq e _ ho] at hb
   conv=>whnf
   repeat (first | (refine ⟨fun _=>?_,fun hx=>(by simp at hx;omega)⟩;conv=>whnf) | (refine ⟨fun hx=>(by simp at hx;omega),fun _=>?_⟩;conv=>whnf))
   rw [right2_num d e h0 hb]
   refine cO (fun _=>hw4) ?_
   conv=>whnf
   refine cO (fun _=>hwM) ?_
   conv=>whnf
   rfl
  by_cases h1:e.op=1∨e.op=2∨e.op=3
  ·have ho:opsN e.op=0:=by unfold opsN;rw [if_pos (by omega)]
   refine aO (cxOk 149 [0,1,2,4,5,6,7,8,20,52,58,61,99,102,126,134,145]) Tryz.func151 ?_
   conv=>whnf
   repeat (first | (refine ⟨fun _=>?_,fun hx=>(by simp at hx;omega)⟩;conv=>whnf) | (refine ⟨fun hx=>(by simp at hx;omega),fun _=>?_⟩;conv=>whnf))
   refine cO (fun _=>hwi) ?_
   conv=>whnf
   refine ⟨fun hb=>?_,fun hb=>?_⟩
   ·rw [bad_eq e _ ho] at hb
    rw [right2_bad _ e hb]
    conv=>whnf
    rfl
   rw [bad_eq e _ ho] at hb
   conv=>whnf
   repeat (first | (refine ⟨fun _=>?_,fun hx=>(by simp at hx;omega)⟩;conv=>whnf) | (refine ⟨fun hx=>(by simp at hx;omega),fun _=>?_⟩;conv=>whnf))
   rw [right2_name d e h1 hb]
   refine cO (fun _=>hn2) ?_
   conv=>whnf
   rfl
  have key:(e.op=16∨e.op=17∨e.op=18)∨e.op=12∨e.op=15∨(e.op≠12∧e.op≠15∧e.op≠16∧e.op≠17∧e.op≠18):=by omega
  rcases key with h2 | h2 | h2 | h2
  ·have ho:opsN e.op=1:=by unfold opsN;rw [if_neg (by omega),if_pos (by omega)]
   refine aO (cxOk 149 [0,1,2,4,5,6,7,8,20,52,58,61,99,102,126,134,145]) Tryz.func151 ?_
   conv=>whnf
   repeat (first | (refine ⟨fun _=>?_,fun hx=>(by simp at hx;omega)⟩;conv=>whnf) | (refine ⟨fun hx=>(by simp at hx;omega),fun _=>?_⟩;conv=>whnf))
   refine cO (fun _=>hwi) ?_
   conv=>whnf
   refine ⟨fun hb=>?_,fun hb=>?_⟩
   ·rw [bad_eq e _ ho] at hb
    rw [right2_bad _ e hb]
    conv=>whnf
    rfl
   rw [bad_eq e _ ho] at hb
   conv=>whnf
   repeat (first | (refine ⟨fun _=>?_,fun hx=>(by simp at hx;omega)⟩;conv=>whnf) | (refine ⟨fun hx=>(by simp at hx;omega),fun _=>?_⟩;conv=>whnf))
   rw [right2_args d e h0 h1 hb]
   refine loop_up (cxOk _ _) e.args.length (fun k=>∀ j,j<k→rightB d (e.args.getD j ex0)=true) (fun k=>⟨[(0,encE e),(1,.int .i64 ((d+1:Nat):Int)),(2,.ptr 0 0),(4,.bool false),(8,.int .i64 (k:Nat))],[(0,.cells 27 (cellsE e))],1⟩) (by intro j hj;omega) ((wk_of [(0,.id 0)] rfl ⟨wa0,wa0,wb0,wa0,wa0,trivial⟩ ⟨wc0,trivial⟩)) ?_
   intro k hk hP
   conv=>whnf
   refine ⟨fun hd2=>?_,fun hd2=>?_⟩
   ·have hd2:=of_decide_eq_true hd2
    have hlt:k<e.args.length:=by omega
    have hek:(k:Int).toNat=k:=Int.toNat_natCast k
    have hrec:=ih (argOf e k) (by omega) (hok.arg _ (getD_argOf hlt))
    conv=>whnf
    refine iO ?_;conv=>whnf
    refine And.intro rfl ?_;conv=>whnf
    rw [hek,argsE_get e hlt]
    conv=>whnf
    refine iO ?_;conv=>whnf
    rw [show (((d+1:Nat):Int)-1)=(d:Int) by omega]
    refine cO (fun _=>hrec) ?_
    conv=>whnf
    refine ⟨fun hr=>?_,fun hr=>?_⟩
    ·have hf:(e.args.any fun x=>!rightB d x)=true:=by
      rw [List.any_eq_true]
      exact ⟨_,getD_argOf hlt,hr⟩
     rw [hf]
     conv=>whnf
     simp
    ·have hr:rightB d (argOf e k)=true:=by simpa using hr
     conv=>whnf
     refine iO ?_;conv=>whnf
     refine up hlt (fun j hj=>?_) ((wk_of [(0,.id 0)] rfl ⟨wa0,wa0,wb0,wa0,wa0,trivial⟩ ⟨wc0,trivial⟩))
     by_cases h:j=k
     ·subst h;exact hr
     ·exact hP j om0
   ·have hd2:=of_decide_eq_false hd2
    have hke:k=e.args.length:=by omega
    have hf:(e.args.any fun x=>!rightB d x)=false:=by
     rw [List.any_eq_false]
     intro x hx
     obtain ⟨j,hj,e1⟩:=mem_getD (d:=ex0) hx
     have:=hP j (by omega)
     rw [e1] at this
     simp [this]
    rw [hf]
    conv=>whnf
    simp
  ·have ho:opsN e.op=1:=by unfold opsN;rw [if_neg (by omega),if_pos (by omega)]
   refine aO (cxOk 149 [0,1,2,4,5,6,7,8,20,52,58,61,99,102,126,134,145]) Tryz.func151 ?_
   conv=>whnf
   repeat (first | (refine ⟨fun _=>?_,fun hx=>(by simp at hx;omega)⟩;conv=>whnf) | (refine ⟨fun hx=>(by simp at hx;omega),fun _=>?_⟩;conv=>whnf))
   refine cO (fun _=>hwi) ?_
   conv=>whnf
   refine ⟨fun hb=>?_,fun hb=>?_⟩
   ·rw [bad_eq e _ ho] at hb
    rw [right2_bad _ e hb]
    conv=>whnf
    rfl
   rw [bad_eq e _ ho] at hb
   conv=>whnf
   repeat (first | (refine ⟨fun _=>?_,fun hx=>(by simp at hx;omega)⟩;conv=>whnf) | (refine ⟨fun hx=>(by simp at hx;omega),fun _=>?_⟩;conv=>whnf))
   rw [right2_args d e h0 h1 hb]
   refine loop_up (cxOk _ _) e.args.length (fun k=>∀ j,j<k→rightB d (e.args.getD j ex0)=true) (fun k=>⟨[(0,encE e),(1,.int .i64 ((d+1:Nat):Int)),(2,.ptr 0 0),(4,.bool false),(8,.int .i64 (k:Nat))],[(0,.cells 27 (cellsE e))],1⟩) (by intro j hj;omega) ((wk_of [(0,.id 0)] rfl ⟨wa0,wa0,wb0,wa0,wa0,trivial⟩ ⟨wc0,trivial⟩)) ?_
   intro k hk hP
   conv=>whnf
   refine ⟨fun hd2=>?_,fun hd2=>?_⟩
   ·have hd2:=of_decide_eq_true hd2
    have hlt:k<e.args.length:=by omega
    have hek:(k:Int).toNat=k:=Int.toNat_natCast k
    have hrec:=ih (argOf e k) (by omega) (hok.arg _ (getD_argOf hlt))
    conv=>whnf
    refine iO ?_;conv=>whnf
    refine And.intro rfl ?_;conv=>whnf
    rw [hek,argsE_get e hlt]
    conv=>whnf
    refine iO ?_;conv=>whnf
    rw [show (((d+1:Nat):Int)-1)=(d:Int) by omega]
    refine cO (fun _=>hrec) ?_
    conv=>whnf
    refine ⟨fun hr=>?_,fun hr=>?_⟩
    ·have hf:(e.args.any fun x=>!rightB d x)=true:=by
      rw [List.any_eq_true]
      exact ⟨_,getD_argOf hlt,hr⟩
     rw [hf]
     conv=>whnf
     simp
    ·have hr:rightB d (argOf e k)=true:=by simpa using hr
     conv=>whnf
     refine iO ?_;conv=>whnf
     refine up hlt (fun j hj=>?_) ((wk_of [(0,.id 0)] rfl ⟨wa0,wa0,wb0,wa0,wa0,trivial⟩ ⟨wc0,trivial⟩))
     by_cases h:j=k
     ·subst h;exact hr
     ·exact hP j om0
   ·have hd2:=of_decide_eq_false hd2
    have hke:k=e.args.length:=by omega
    have hf:(e.args.any fun x=>!rightB d x)=false:=by
     rw [List.any_eq_false]
     intro x hx
     obtain ⟨j,hj,e1⟩:=mem_getD (d:=ex0) hx
     have:=hP j (by omega)
     rw [e1] at this
     simp [this]
    rw [hf]
    conv=>whnf
    simp
  ·have ho:opsN e.op=3:=by unfold opsN;rw [if_neg (by omega),if_neg (by omega),if_pos (by omega)]
   refine aO (cxOk 149 [0,1,2,4,5,6,7,8,20,52,58,61,99,102,126,134,145]) Tryz.func151 ?_
   conv=>whnf
   repeat (first | (refine ⟨fun _=>?_,fun hx=>(by simp at hx;omega)⟩;conv=>whnf) | (refine ⟨fun hx=>(by simp at hx;omega),fun _=>?_⟩;conv=>whnf))
   refine cO (fun _=>hwi) ?_
   conv=>whnf
   refine ⟨fun hb=>?_,fun hb=>?_⟩
   ·rw [bad_eq e _ ho] at hb
    rw [right2_bad _ e hb]
    conv=>whnf
    rfl
   rw [bad_eq e _ ho] at hb
   conv=>whnf
   repeat (first | (refine ⟨fun _=>?_,fun hx=>(by simp at hx;omega)⟩;conv=>whnf) | (refine ⟨fun hx=>(by simp at hx;omega),fun _=>?_⟩;conv=>whnf))
   rw [right2_args d e h0 h1 hb]
   refine loop_up (cxOk _ _) e.args.length (fun k=>∀ j,j<k→rightB d (e.args.getD j ex0)=true) (fun k=>⟨[(0,encE e),(1,.int .i64 ((d+1:Nat):Int)),(2,.ptr 0 0),(4,.bool false),(8,.int .i64 (k:Nat))],[(0,.cells 27 (cellsE e))],1⟩) (by intro j hj;omega) ((wk_of [(0,.id 0)] rfl ⟨wa0,wa0,wb0,wa0,wa0,trivial⟩ ⟨wc0,trivial⟩)) ?_
   intro k hk hP
   conv=>whnf
   refine ⟨fun hd2=>?_,fun hd2=>?_⟩
   ·have hd2:=of_decide_eq_true hd2
    have hlt:k<e.args.length:=by omega
    have hek:(k:Int).toNat=k:=Int.toNat_natCast k
    have hrec:=ih (argOf e k) (by omega) (hok.arg _ (getD_argOf hlt))
    conv=>whnf
    refine iO ?_;conv=>whnf
    refine And.intro rfl ?_;conv=>whnf
    rw [hek,argsE_get e hlt]
    conv=>whnf
    refine iO ?_;conv=>whnf
    rw [show (((d+1:Nat):Int)-1)=(d:Int) by omega]
    refine cO (fun _=>hrec) ?_
    conv=>whnf
    refine ⟨fun hr=>?_,fun hr=>?_⟩
    ·have hf:(e.args.any fun x=>!rightB d x)=true:=by
      rw [List.any_eq_true]
      exact ⟨_,getD_argOf hlt,hr⟩
     rw [hf]
     conv=>whnf
     simp
    ·have hr:rightB d (argOf e k)=true:=by simpa using hr
     conv=>whnf
     refine iO ?_;conv=>whnf
     refine up hlt (fun j hj=>?_) ((wk_of [(0,.id 0)] rfl ⟨wa0,wa0,wb0,wa0,wa0,trivial⟩ ⟨wc0,trivial⟩))
     by_cases h:j=k
     ·subst h;exact hr
     ·exact hP j om0
   ·have hd2:=of_decide_eq_false hd2
    have hke:k=e.args.length:=by omega
    have hf:(e.args.any fun x=>!rightB d x)=false:=by
     rw [List.any_eq_false]
     intro x hx
     obtain ⟨j,hj,e1⟩:=mem_getD (d:=ex0) hx
     have:=hP j (by omega)
     rw [e1] at this
     simp [this]
    rw [hf]
    conv=>whnf
    simp
  ·have ho:opsN e.op=2:=by unfold opsN;rw [if_neg (by omega),if_neg (by omega),if_neg (by omega),if_neg (by omega)]
   refine aO (cxOk 149 [0,1,2,4,5,6,7,8,20,52,58,61,99,102,126,134,145]) Tryz.func151 ?_
   conv=>whnf
   repeat (first | (refine ⟨fun _=>?_,fun hx=>(by simp at hx;omega)⟩;conv=>whnf) | (refine ⟨fun hx=>(by simp at hx;omega),fun _=>?_⟩;conv=>whnf))
   refine cO (fun _=>hwi) ?_
   conv=>whnf
   refine ⟨fun hb=>?_,fun hb=>?_⟩
   ·rw [bad_eq e _ ho] at hb
    rw [right2_bad _ e hb]
    conv=>whnf
    rfl
   rw [bad_eq e _ ho] at hb
   conv=>whnf
   repeat (first | (refine ⟨fun _=>?_,fun hx=>(by simp at hx;omega)⟩;conv=>whnf) | (refine ⟨fun hx=>(by simp at hx;omega),fun _=>?_⟩;conv=>whnf))
   rw [right2_args d e h0 h1 hb]
   refine loop_up (cxOk _ _) e.args.length (fun k=>∀ j,j<k→rightB d (e.args.getD j ex0)=true) (fun k=>⟨[(0,encE e),(1,.int .i64 ((d+1:Nat):Int)),(2,.ptr 0 0),(4,.bool false),(8,.int .i64 (k:Nat))],[(0,.cells 27 (cellsE e))],1⟩) (by intro j hj;omega) ((wk_of [(0,.id 0)] rfl ⟨wa0,wa0,wb0,wa0,wa0,trivial⟩ ⟨wc0,trivial⟩)) ?_
   intro k hk hP
   conv=>whnf
   refine ⟨fun hd2=>?_,fun hd2=>?_⟩
   ·have hd2:=of_decide_eq_true hd2
    have hlt:k<e.args.length:=by omega
    have hek:(k:Int).toNat=k:=Int.toNat_natCast k
    have hrec:=ih (argOf e k) (by omega) (hok.arg _ (getD_argOf hlt))
    conv=>whnf
    refine iO ?_;conv=>whnf
    refine And.intro rfl ?_;conv=>whnf
    rw [hek,argsE_get e hlt]
    conv=>whnf
    refine iO ?_;conv=>whnf
    rw [show (((d+1:Nat):Int)-1)=(d:Int) by omega]
    refine cO (fun _=>hrec) ?_
    conv=>whnf
    refine ⟨fun hr=>?_,fun hr=>?_⟩
    ·have hf:(e.args.any fun x=>!rightB d x)=true:=by
      rw [List.any_eq_true]
      exact ⟨_,getD_argOf hlt,hr⟩
     rw [hf]
     conv=>whnf
     simp
    ·have hr:rightB d (argOf e k)=true:=by simpa using hr
     conv=>whnf
     refine iO ?_;conv=>whnf
     refine up hlt (fun j hj=>?_) ((wk_of [(0,.id 0)] rfl ⟨wa0,wa0,wb0,wa0,wa0,trivial⟩ ⟨wc0,trivial⟩))
     by_cases h:j=k
     ·subst h;exact hr
     ·exact hP j om0
   ·have hd2:=of_decide_eq_false hd2
    have hke:k=e.args.length:=by omega
    have hf:(e.args.any fun x=>!rightB d x)=false:=by
     rw [List.any_eq_false]
     intro x hx
     obtain ⟨j,hj,e1⟩:=mem_getD (d:=ex0) hx
     have:=hP j (by omega)
     rw [e1] at this
     simp [this]
    rw [hf]
    conv=>whnf
    simp
theorem rightexp2_ok (e:Exp) (hok:OkE e):APureV Tryz.prog 113 [encE e] (.bool (rightE e)):=by
 have h:=right2_ok 12 e (by decide) hok
 refine aO (cxOk 5 [0,1,2]) Tryz.func113 ?_
 conv=>whnf
 refine cO (fun _=>h) ?_
 conv=>whnf
 rfl
theorem fits2_ok (s:List UInt8) (hs:s.length≤9223372036854775807):APure Tryz.prog 68 [.str s] (fun rs=>rs=[.val (.str (fitsT s).1),.val (.int .i64 (fitsT s).2)]):=by
 unfold fitsT
 refine aO (cxOk 8 [0,2,3,6]) Tryz.func68 ?_
 conv=>whnf
 refine ⟨fun h=>?_,fun h=>?_⟩
 ·have h:=of_decide_eq_true h
  rw [if_pos (by omega)]
  conv=>whnf
  rfl
 ·have h:=of_decide_eq_false h
  rw [if_neg (by omega)]
  conv=>whnf
  rfl
theorem names_ok (l:List (List UInt8)) (most:Int) (hm0:0≤most) (hl:l.length≤9223372036854775807) (hs:∀ s∈l,s.length≤9223372036854775807):APureV Tryz.prog 114 [encSs l,.int .i64 most] (.bool (uniqB l most)):=by
 refine aO (cxOk 42 [0,1,4,5,6,15,23,26,37]) Tryz.func114 ?_
 conv=>whnf
 refine loop_inv (cxOk _ _) (fun k:Nat=>k≤l.length∧∀ j,j<k→uqB l j=true) (fun k=>l.length-k) (fun k=>⟨[(0,encSs l),(1,.int .i64 most),(4,.bool false),(5,.int .i64 (k:Nat))],[],0⟩) 0 ⟨by omega,by intro j hj;omega⟩ ((wk_of [] rfl ⟨wa0,wa0,wa0,wa0,trivial⟩ trivial)) ?_
 intro k ⟨hk,hP⟩
 conv=>whnf
 by_cases hgo:k<l.length∧(k:Int)≤most
 ·obtain ⟨hlt,hkm⟩:=hgo
  refine ⟨fun _=>?_,fun hx=>(by simp at hx;omega)⟩
  have hek:(k:Int).toNat=k:=Int.toNat_natCast k
  have hm:l.getD k []∈l:=getD_mem hlt
  have hn:=name2_ok (l.getD k []) (hs _ hm)
  conv=>whnf
  refine iO ?_;conv=>whnf
  refine And.intro rfl ?_;conv=>whnf
  rw [hek]
  conv=>whnf
  refine cO (fun _=>hn) ?_
  conv=>whnf
  refine ⟨fun hb=>?_,fun hb=>?_⟩
  ·have h1:uqB l k=false:=by
    unfold uqB
    rw [show nameB (l.getD k [])=false by simpa using hb]
    rfl
   have hq:uniqB l most=false:=by
    unfold uniqB
    rw [show ((List.range l.length).all fun k=>uqB l k)=false by
     rw [List.all_eq_false]
     exact ⟨k,List.mem_range.2 hlt,by rw [h1];decide⟩]
    rfl
   rw [hq]
   conv=>whnf
   rfl
  have hb:nameB (l.getD k [])=true:=by simpa using hb
  conv=>whnf
  refine loop_up (cxOk _ _) k (fun j=>∀ i,i<j→l.getD i []≠l.getD k []) (fun j=>⟨[(0,encSs l),(1,.int .i64 most),(4,.bool false),(5,.int .i64 (k:Nat)),(6,.int .i64 (j:Nat))],[],0⟩) (by intro j hj;omega) ((wk_of [] rfl ⟨wa0,wa0,wa0,wa0,wa0,trivial⟩ trivial)) ?_
  intro j hj hQ
  conv=>whnf
  refine ⟨fun hd=>?_,fun hd=>?_⟩
  ·have hd:=of_decide_eq_true hd
   have hjt:j<k:=by omega
   have hej:(j:Int).toNat=j:=Int.toNat_natCast j
   conv=>whnf
   refine .eff af0 ?_;conv=>whnf
   refine iO ?_;conv=>whnf
   refine And.intro rfl ?_;conv=>whnf
   refine iO ?_;conv=>whnf
   refine And.intro rfl ?_;conv=>whnf
   refine And.intro rfl ?_;conv=>whnf
   rw [hek,hej]
   refine ⟨fun he=>?_,fun he=>?_⟩
   ·have he:=of_decide_eq_true he
    have h1:uqB l k=false:=by
     have:l.getD k []∈l.take k:=by
      rw [← he]
      have hjl:j<(l.take k).length:=by rw [List.length_take];omega
      have:(l.take k).getD j []=l.getD j []:=by
       rw [List.getD_eq_getElem?_getD,List.getD_eq_getElem?_getD,List.getElem?_take,if_pos hjt]
      rw [← this]
      exact getD_mem hjl
     unfold uqB
     rw [decide_eq_true this]
     simp
    have hq:uniqB l most=false:=by
     unfold uniqB
     rw [show ((List.range l.length).all fun k=>uqB l k)=false by
      rw [List.all_eq_false]
      exact ⟨k,List.mem_range.2 hlt,by rw [h1];decide⟩]
     rfl
    rw [hq]
    conv=>whnf
    rfl
   ·have he:=of_decide_eq_false he
    conv=>whnf
    refine iO ?_;conv=>whnf
    refine up hjt (fun i hi=>?_) ((wk_of [] rfl ⟨wa0,wa0,wa0,wa0,wa0,trivial⟩ trivial))
    by_cases e:i=j
    ·subst e;exact he
    ·exact hQ i om0
  ·have hd:=of_decide_eq_false hd
   obtain rfl:j=k:=by omega
   have h1:uqB l j=true:=by
    have:¬ l.getD j []∈l.take j:=by
     intro hmem
     obtain ⟨i,hi,e⟩:=mem_getD (d:=[]) hmem
     rw [List.length_take] at hi
     have e2:(l.take j).getD i []=l.getD i []:=by
      rw [List.getD_eq_getElem?_getD,List.getD_eq_getElem?_getD,List.getElem?_take,if_pos (by omega)]
     rw [e2] at e
     exact hQ i om0 e
    unfold uqB
    rw [hb,decide_eq_false this]
    rfl
   conv=>whnf
   refine iO ?_
   conv=>whnf
   exact ⟨j+1,⟨by omega,fun i hi=>by
    by_cases e:i=j
    ·subst e;exact h1
    ·exact hP i (by omega)⟩,(by show l.length-(j+1)<l.length-j;omega),(wk_of [] rfl ⟨wa0,wa0,wa0,wa0,trivial⟩ trivial)⟩
 ·refine ⟨fun hx=>(by simp at hx;omega),fun _=>?_⟩
  have he:uniqB l most=decide ((l.length:Int)≤most):=by
   unfold uniqB
   by_cases hc:(l.length:Int)≤most
   ·have hke:k=l.length:=by omega
    subst hke
    rw [show ((List.range l.length).all fun k=>uqB l k)=true by rw [List.all_eq_true];intro j hj;exact hP j (List.mem_range.1 hj)]
    rfl
   ·rw [decide_eq_false hc,Bool.and_false]
  rw [he]
  conv=>whnf
  rfl
theorem inB_of {a b n:Int} (h:a≤n∧n≤b):inB a b [n]=true:=by
 rw [inB_eq,decide_eq_true h.1,decide_eq_true h.2]
 rfl
theorem inB_iff {a b n:Int}:inB a b [n]=true↔a≤n∧n≤b:=by
 rw [inB_eq]
 simp
theorem rightfn2_ok (x:Ind) (hx:OkX x):APureV Tryz.prog 59 [encX x] (.bool (rightI x)):=by
 have hn1:=name2_ok x.name hx.name
 have hn2:=name2_ok x.issuer hx.issuer
 have hu:=names_ok x.favour 20 (by omega) hx.favour hx.fav1
 have hre:=rightexp2_ok x.coupon hx.coupon
 have hlets:=hx.lets
 have hcov:=hx.cov
 have hcalls:=hx.calls
 refine aO (cxOk 207 [0,1,2,3,4,5,6,7,8,9,10,117,122,141,146,175,180,200]) Tryz.func59 ?_
 conv=>whnf
 refine cO (fun _=>hn1) ?_
 conv=>whnf
 refine cO (fun _=>hn2) ?_
 conv=>whnf
 refine cO (fun _=>within_ok x.face 1 1000000000000000) ?_
 conv=>whnf
 refine cO (fun _=>within_ok x.frm 0 200000) ?_
 conv=>whnf
 refine cO (fun _=>within_ok x.to 0 200000) ?_
 conv=>whnf
 refine cO (fun _=>within_ok x.every 1 120) ?_
 conv=>whnf
 refine cO (fun _=>within_ok x.count 0 2) ?_
 conv=>whnf
 refine cO (fun _=>within_ok x.adjust 0 3) ?_
 conv=>whnf
 refine cO (fun _=>within_ok x.record 0 100) ?_
 conv=>whnf
 refine cO (fun _=>within_ok x.rank 0 9) ?_
 conv=>whnf
 refine cO (fun _=>hre) ?_
 conv=>whnf
 refine cO (fun _=>within_ok x.cap 0 10000) ?_
 conv=>whnf
 refine cO (fun _=>within_ok x.cross (-1) 1000000000000000) ?_
 conv=>whnf
 refine cO (fun _=>within_ok x.notice 0 1000) ?_
 conv=>whnf
 refine cO (fun _=>within_ok x.sink 0 1000) ?_
 conv=>whnf
 refine cO (fun _=>within_ok x.majority 1 1000) ?_
 conv=>whnf
 refine cO (fun _=>within_ok x.fast 1 1000) ?_
 conv=>whnf
 refine cO (fun _=>hu) ?_
 conv=>whnf
 refine ⟨fun hb=>?_,fun hb=>?_⟩
 ·have hf:rightI x=false:=by
   cases hr:rightI x with
   | false=>rfl
   | true =>
    have R:=(right_iff x).1 hr
    rw [R.name,R.issuer,inB_of R.face,inB_of R.frm,inB_of R.to,inB_of R.every,inB_of R.count,inB_of R.adjust,inB_of R.record,inB_of R.rank,R.coupon,inB_of R.cap,inB_of R.cross,inB_of R.notice,inB_of R.sink,inB_of R.majority,inB_of R.fast,R.fav] at hb
    have h1:=R.before
    have h2:=R.ncalls
    simp at hb
    omega
  rw [hf]
  conv=>whnf
  rfl
 simp only [Bool.or_eq_false_iff,Bool.not_eq_false',Bool.and_eq_true,decide_eq_true_eq,inB_iff] at hb
 obtain ⟨⟨⟨⟨⟨⟨⟨⟨b1,b2⟩,b3⟩,b4⟩,b5⟩,b6⟩,b7⟩,⟨⟨⟨⟨b8,b9⟩,b10⟩,b11⟩,b12⟩,b13⟩,⟨⟨⟨⟨⟨b14,b15⟩,b16⟩,b17⟩,b18⟩,b19⟩,b20⟩:=hb
 conv=>whnf
 refine loop_up (cxOk _ _) x.lets.length (fun k=>∀ j,j<k→rightE (x.lets.getD j l0).body=true) (fun k=>⟨[(1,.ptr 0 0),(2,.bool false),(6,.own 1),(7,.int .i64 (k:Nat))],[(0,.cells 31 (celX x)),(1,.row 9 1 encS [] ((x.lets.take k).map LetE.name))],2⟩) (by intro j hj;omega) ((wk_of [(0,.id 0),(1,.nil)] rfl ⟨wb0,wa0,ae0,wa0,trivial⟩ ⟨wc0,⟨_,rfl,ag0⟩,trivial⟩)) ?_
 intro k hk hP
 conv=>whnf
 refine ⟨fun hd=>?_,fun hd=>?_⟩
 ·have hd:=of_decide_eq_true hd
  have hlt:k<x.lets.length:=by omega
  have hek:(k:Int).toNat=k:=Int.toNat_natCast k
  have hm:x.lets.getD k l0∈x.lets:=getD_mem hlt
  have hr1:=rightexp2_ok _ (hx.let1 _ hm).2
  conv=>whnf
  refine iO ?_;conv=>whnf
  refine And.intro rfl ?_;conv=>whnf
  refine And.intro rfl ?_;conv=>whnf
  rw [hek]
  conv=>whnf
  refine And.intro ⟨rfl,rfl⟩ (And.intro (by show ((List.map LetE.name (List.take k x.lets)).length+1)*16≤140737488355328;rw [List.length_map,List.length_take];omega) ?_)
  conv=>whnf
  refine Exists.intro _ (And.intro rfl ?_);conv=>whnf
  refine iO ?_;conv=>whnf
  refine And.intro rfl ?_;conv=>whnf
  rw [hek]
  conv=>whnf
  refine cO (fun _=>hr1) ?_
  conv=>whnf
  refine ⟨fun hq=>?_,fun hq=>?_⟩
  ·have hf:rightI x=false:=by
    cases hr:rightI x with
    | false=>rfl
    | true =>
     have:=((right_iff x).1 hr).lets _ hm
     rw [this] at hq
     cases hq
   rw [hf]
   conv=>whnf
   rfl
  ·have hq:rightE (x.lets.getD k l0).body=true:=by simpa using hq
   conv=>whnf
   refine iO ?_;conv=>whnf
   refine up hlt (fun j hj=>?_) ((wk_of [(0,.id 0),(1,.id 3)] rfl ⟨wb0,wa0,ae0,wa0,trivial⟩ ⟨wc0,⟨_,rfl,(by first | exact .row _ _ _ _ _ _ _ rfl (by rw [take_getD (d:=l0) hlt,List.map_append];rfl) | exact .lstrow _ _ _ _ _ _ _ rfl (by rw [take_getD (d:=l0) hlt,List.map_append];rfl) | exact .nilrow _ _ _ _ _ (by rw [take_getD (d:=l0) hlt,List.map_append];rfl) | exact .truncrow _ _ _ _ _ _ _ _ rfl (by omega) (by rw [take_getD (d:=l0) hlt,List.map_append];rfl))⟩,trivial⟩))
   by_cases e:j=k
   ·subst e;exact hq
   ·exact hP j om0
 have hd:=of_decide_eq_false hd
 obtain rfl:k=x.lets.length:=by omega
 conv=>whnf
 rw [List.take_length]
 have hLets:∀ l∈x.lets,rightE l.body=true:=by
  intro l hl
  obtain ⟨j,hj,e⟩:=mem_getD (d:=l0) hl
  have:=hP j hj
  rw [e] at this
  exact this
 refine loop_up (cxOk _ _) x.cov.length (fun k=>∀ j,j<k→rightE (x.cov.getD j c0).must=true∧inB 0 1000 [(x.cov.getD j c0).grace]=true) (fun k=>⟨[(1,.ptr 0 0),(2,.bool false),(6,.own 1),(8,.own 2),(9,.int .i64 (k:Nat))],[(0,.cells 31 (celX x)),(1,.row 9 1 encS [] (x.lets.map LetE.name)),(2,.row 9 1 encS [] ((x.cov.take k).map Cov.name))],3⟩) (by intro j hj;omega) ((wk_of [(0,.id 0),(1,.id 1),(2,.nil)] rfl ⟨wb0,wa0,ae0,ae0,wa0,trivial⟩ ⟨wc0,⟨_,rfl,ag0⟩,⟨_,rfl,ag0⟩,trivial⟩)) ?_
 intro k hk hP
 conv=>whnf
 refine ⟨fun hd=>?_,fun hd=>?_⟩
 ·have hd:=of_decide_eq_true hd
  have hlt:k<x.cov.length:=by omega
  have hek:(k:Int).toNat=k:=Int.toNat_natCast k
  have hm:x.cov.getD k c0∈x.cov:=getD_mem hlt
  have hr1:=rightexp2_ok _ (hx.cov1 _ hm).2.1
  conv=>whnf
  refine iO ?_;conv=>whnf
  refine And.intro rfl ?_;conv=>whnf
  refine And.intro rfl ?_;conv=>whnf
  rw [hek]
  conv=>whnf
  refine And.intro ⟨rfl,rfl⟩ (And.intro (by show ((List.map Cov.name (List.take k x.cov)).length+1)*16≤140737488355328;rw [List.length_map,List.length_take];omega) ?_)
  conv=>whnf
  refine Exists.intro _ (And.intro rfl ?_);conv=>whnf
  refine iO ?_;conv=>whnf
  refine And.intro rfl ?_;conv=>whnf
  rw [hek]
  conv=>whnf
  refine cO (fun _=>hr1) ?_
  conv=>whnf
  refine And.intro (fun _=>⟨by omega,by omega⟩) ?_
  conv=>whnf
  refine And.intro rfl ?_
  conv=>whnf
  rw [hek]
  conv=>whnf
  refine cO (fun _=>within_ok (x.cov.getD k c0).grace 0 1000) ?_
  conv=>whnf
  refine ⟨fun hq=>?_,fun hq=>?_⟩
  ·have hf:rightI x=false:=by
    cases hr:rightI x with
    | false=>rfl
    | true =>
     have:=((right_iff x).1 hr).cov _ hm
     rw [this.1,inB_of this.2] at hq
     cases hq
   rw [hf]
   conv=>whnf
   rfl
  ·have hq:rightE (x.cov.getD k c0).must=true∧inB 0 1000 [(x.cov.getD k c0).grace]=true:=by simpa using hq
   conv=>whnf
   refine iO ?_;conv=>whnf
   refine up hlt (fun j hj=>?_) ((wk_of [(0,.id 0),(1,.id 1),(2,.id 4)] rfl ⟨wb0,wa0,ae0,ae0,wa0,trivial⟩ ⟨wc0,⟨_,rfl,ag0⟩,⟨_,rfl,(by first | exact .row _ _ _ _ _ _ _ rfl (by rw [take_getD (d:=c0) hlt,List.map_append];rfl) | exact .lstrow _ _ _ _ _ _ _ rfl (by rw [take_getD (d:=c0) hlt,List.map_append];rfl) | exact .nilrow _ _ _ _ _ (by rw [take_getD (d:=c0) hlt,List.map_append];rfl) | exact .truncrow _ _ _ _ _ _ _ _ rfl (by omega) (by rw [take_getD (d:=c0) hlt,List.map_append];rfl))⟩,trivial⟩))
   by_cases e:j=k
   ·subst e;exact hq
   ·exact hP j om0
 have hd:=of_decide_eq_false hd
 obtain rfl:k=x.cov.length:=by omega
 conv=>whnf
 rw [List.take_length]
 have hCov:∀ c∈x.cov,rightE c.must=true∧0≤c.grace∧c.grace≤1000:=by
  intro c hc
  obtain ⟨j,hj,e⟩:=mem_getD (d:=c0) hc
  have:=hP j hj
  rw [e] at this
  exact ⟨this.1,inB_iff.1 this.2⟩
 refine loop_up (cxOk _ _) x.calls.length (fun k=>∀ j,j<k→inB 0 200000 [(x.calls.getD j k0).a]=true∧inB 0 10000 [(x.calls.getD j k0).b]=true) (fun k=>⟨[(1,.ptr 0 0),(2,.bool false),(6,.own 1),(8,.own 2),(10,.int .i64 (k:Nat))],[(0,.cells 31 (celX x)),(1,.row 9 1 encS [] (x.lets.map LetE.name)),(2,.row 9 1 encS [] (x.cov.map Cov.name))],3⟩) (by intro j hj;omega) ((wk_of [(0,.id 0),(1,.id 1),(2,.id 2)] rfl ⟨wb0,wa0,ae0,ae0,wa0,trivial⟩ ⟨wc0,⟨_,rfl,ag0⟩,⟨_,rfl,ag0⟩,trivial⟩)) ?_
 intro k hk hP
 conv=>whnf
 refine ⟨fun hd=>?_,fun hd=>?_⟩
 ·have hd:=of_decide_eq_true hd
  have hlt:k<x.calls.length:=by omega
  have hek:(k:Int).toNat=k:=Int.toNat_natCast k
  have hm:x.calls.getD k k0∈x.calls:=getD_mem hlt
  conv=>whnf
  refine iO ?_;conv=>whnf
  refine And.intro rfl ?_;conv=>whnf
  rw [hek]
  conv=>whnf
  refine cO (fun _=>within_ok (x.calls.getD k k0).a 0 200000) ?_
  conv=>whnf
  refine And.intro (fun _=>⟨by omega,by omega⟩) ?_
  conv=>whnf
  refine And.intro rfl ?_
  conv=>whnf
  rw [hek]
  conv=>whnf
  refine cO (fun _=>within_ok (x.calls.getD k k0).b 0 10000) ?_
  conv=>whnf
  refine ⟨fun hq=>?_,fun hq=>?_⟩
  ·have hf:rightI x=false:=by
    cases hr:rightI x with
    | false=>rfl
    | true =>
     have:=((right_iff x).1 hr).calls _ hm
     rw [inB_of this.1,inB_of this.2] at hq
     cases hq
   rw [hf]
   conv=>whnf
   rfl
  ·have hq:inB 0 200000 [(x.calls.getD k k0).a]=true∧inB 0 10000 [(x.calls.getD k k0).b]=true:=by simpa using hq
   conv=>whnf
   refine iO ?_;conv=>whnf
   refine up hlt (fun j hj=>?_) ((wk_of [(0,.id 0),(1,.id 1),(2,.id 2)] rfl ⟨wb0,wa0,ae0,ae0,wa0,trivial⟩ ⟨wc0,⟨_,rfl,ag0⟩,⟨_,rfl,ag0⟩,trivial⟩))
   by_cases e:j=k
   ·subst e;exact hq
   ·exact hP j om0
 have hd:=of_decide_eq_false hd
 obtain rfl:k=x.calls.length:=by omega
 have hCal:∀ c∈x.calls,(0≤c.a∧c.a≤200000)∧0≤c.b∧c.b≤10000:=by
  intro c hc
  obtain ⟨j,hj,e⟩:=mem_getD (d:=k0) hc
  have:=hP j hj
  rw [e] at this
  exact ⟨inB_iff.1 this.1,inB_iff.1 this.2⟩
 have u1:=names_ok (x.lets.map LetE.name) 20 (by omega) (by rw [List.length_map];omega) (by
  intro s hs
  obtain ⟨l,hl,rfl⟩:=List.mem_map.1 hs
  exact (hx.let1 l hl).1)
 have u2:=names_ok (x.cov.map Cov.name) 20 (by omega) (by rw [List.length_map];omega) (by
  intro s hs
  obtain ⟨l,hl,rfl⟩:=List.mem_map.1 hs
  exact (hx.cov1 l hl).1)
 have hfin:rightI x=(uniqB (x.lets.map LetE.name) 20&&uniqB (x.cov.map Cov.name) 20):=by
  cases hu1:(uniqB (x.lets.map LetE.name) 20&&uniqB (x.cov.map Cov.name) 20) with
  | true =>
   rw [Bool.and_eq_true] at hu1
   exact (right_iff x).2 ⟨b4,b5,b6,b3,b7,b8,b9,b10,b11,b13,b14,b15,b16,b17,b18,b1,b2,by omega,b19,hu1.1,hu1.2,b12,hLets,hCov,hCal⟩
  | false =>
   cases hr:rightI x with
   | false=>rfl
   | true =>
    have R:=(right_iff x).1 hr
    rw [R.ulets,R.ucov] at hu1
    cases hu1
 rw [hfin]
 conv=>whnf
 refine cO (fun _=>u1) ?_
 conv=>whnf
 refine cO (fun _=>u2) ?_
 conv=>whnf
 rfl
theorem nDigits_le:∀ (k u:Nat),1≤k→u<10 ^ k→Lib.nDigits u≤k
 | 0,_,h,_=>absurd h (by decide)
 | k+1,u,_,h=>by
  by_cases hu:u<10
  ·rw [Lib.nDigits_small hu];omega
  ·have hk:1≤k:=by
    rcases Nat.eq_zero_or_pos k with rfl | h'
    ·rw [Nat.zero_add,Nat.pow_one] at h;omega
    ·exact h'
   rw [Lib.nDigits_big hu]
   rw [Nat.pow_succ] at h
   have:=nDigits_le k (u / 10) hk (by omega)
   omega
theorem itoa_len20 (n:Int) (h:in64 n):(Lib.itoa n).length≤20:=by
 obtain ⟨h0,h1⟩:=h
 by_cases hneg:n<0
 ·obtain ⟨u,rfl⟩:∃ u:Nat,n=-(u:Int):=⟨n.natAbs,by omega⟩
  rw [Lib.itoa_neg u (by omega),List.length_cons,Lib.decDigits_length]
  have:=nDigits_le 19 u (by omega) (by omega)
  omega
 ·obtain ⟨u,rfl⟩:∃ u:Nat,n=u:=⟨n.toNat,by omega⟩
  rw [Lib.itoa_nonneg,Lib.decDigits_length]
  have:=nDigits_le 19 u (by omega) (by omega)
  omega
theorem decDigits_rec (u:Nat):Lib.decDigits u=if u<10 then [UInt8.ofNat (48+u)] else Lib.decDigits (u / 10)++[UInt8.ofNat (48+u % 10)]:=by
 rw [Lib.decDigits]
 split<;>rfl
theorem dig_nat (d:Nat) (h:d<10):(UInt8.ofNat (48+d)).toNat=48+d:=by
 rw [UInt8.toNat_ofNat']
 omega
theorem digits_ok (u:Nat):u≤9223372036854775808→APureV Tryz.prog 152 [.int .i64 (-(u:Int))] (.str (Lib.decDigits u)):=by
 induction u using Nat.strongRecOn with
 | _ u ih =>
  intro hu
  have hm:(-(u:Int)).tmod 10=-((u % 10:Nat):Int):=by
   rw [Int.neg_tmod,Int.tmod_eq_emod_of_nonneg (by omega)]
   omega
  have hq:(-(u:Int)).tdiv 10=-((u / 10:Nat):Int):=by
   rw [Int.neg_tdiv,Int.tdiv_eq_ediv_of_nonneg (by omega)]
   omega
  have hlt:u % 10<10:=Nat.mod_lt _ (by decide)
  have hrec:=decDigits_rec u
  have hlen:(Lib.decDigits (u / 10)).length≤20:=by
   rw [Lib.decDigits_length]
   have:=nDigits_le 19 (u / 10) (by omega) (by omega)
   omega
  refine aO (cxOk 18 [0,2,3,11]) Tryz.func152 ?_
  conv=>whnf
  refine And.intro dd0 ?_
  conv=>whnf
  rw [hm]
  refine iO ?_;conv=>whnf
  refine And.intro rfl ?_;conv=>whnf
  refine ⟨[UInt8.ofNat (48+u % 10)],?_,?_⟩
  ·show [AV.int .u8 (IntKind.u8.wrap (48 - -((u % 10:Nat):Int)))]=[AV.int .u8 ((UInt8.ofNat (48+u % 10)).toNat:Int)]
   rw [dig_nat _ hlt,IntWalk.u8_in _ (by omega)]
   congr 2
   omega
  conv=>whnf
  refine ⟨fun hc=>?_,fun hc=>?_⟩
  ·have hc:=of_decide_eq_true hc
   rw [if_pos (by omega)] at hrec
   conv=>whnf
   rw [hrec,show u % 10=u by omega]
   rfl
  ·have hc:=of_decide_eq_false hc
   rw [if_neg (by omega)] at hrec
   have h1:=ih (u / 10) (by omega) (by omega)
   rw [← hq] at h1
   conv=>whnf
   refine And.intro dd0 ?_
   conv=>whnf
   refine iO ?_;conv=>whnf
   refine cO (fun _=>h1) ?_
   conv=>whnf
   refine And.intro (show (((Lib.decDigits (u / 10)).length+1:Nat):Int)≤9223372036854775807 by omega) ?_
   conv=>whnf
   rw [hrec]
   rfl
theorem digits_neg (u:Nat) (h:u≤9223372036854775808):APureV Tryz.prog 152 [.int .i64 (0-(u:Int))] (.str (Lib.decDigits u)):=by
 have:=digits_ok u h
 rw [show -(u:Int)=0-u by omega] at this
 exact this
theorem rint_enc (n:Int) (hn:in64 n):APureV Tryz.prog 115 [.int .i64 n] (.str (Lib.itoa n++[59])):=by
 have hl:=itoa_len20 n hn
 obtain ⟨h0,h1⟩:=hn
 by_cases hneg:n<0
 ·obtain ⟨u,rfl⟩:∃ u:Nat,n=-(u:Int):=⟨n.natAbs,by omega⟩
  rw [Lib.itoa_neg u (by omega)] at hl ⊢
  rw [List.length_cons] at hl
  have hd:=digits_ok u (by omega)
  refine aO (cxOk 13 [0,2,4]) Tryz.func115 ?_
  conv=>whnf
  refine ⟨fun hc=>?_,fun hc=>?_⟩
  ·conv=>whnf
   refine cO (fun _=>hd) ?_
   conv=>whnf
   refine And.intro (show ((1+(Lib.decDigits u).length:Nat):Int)≤9223372036854775807 by omega) ?_
   conv=>whnf
   refine And.intro (show ((((45::Lib.decDigits u).length+1:Nat)):Int)≤9223372036854775807 by rw [List.length_cons];omega) ?_
   conv=>whnf
   rfl
  ·have:=of_decide_eq_false hc
   omega
 ·obtain ⟨u,rfl⟩:∃ u:Nat,n=u:=⟨n.toNat,by omega⟩
  rw [Lib.itoa_nonneg] at hl ⊢
  have hd:=digits_neg u (by omega)
  refine aO (cxOk 13 [0,2,4]) Tryz.func115 ?_
  conv=>whnf
  refine ⟨fun hc=>?_,fun hc=>?_⟩
  ·have:=of_decide_eq_true hc
   omega
  ·conv=>whnf
   refine iO ?_;conv=>whnf
   refine cO (fun _=>hd) ?_
   conv=>whnf
   refine And.intro (show (((Lib.decDigits u).length+1:Nat):Int)≤9223372036854775807 by omega) ?_
   conv=>whnf
   rfl
theorem decimal_ok (n:Int) (hn:in64 n):APureV Tryz.prog 60 [.int .i64 n] (.str (Lib.itoa n)):=by
 have h:=rint_enc n hn
 have hl:=itoa_len20 n hn
 refine aO (cxOk 11 [0,2,3]) Tryz.func60 ?_
 conv=>whnf
 refine cO (fun _=>h) ?_
 conv=>whnf
 have e:((Lib.itoa n++[59]).length:Int)-1=(Lib.itoa n).length:=by rw [List.length_append];simp only [List.length_cons,List.length_nil];omega
 have e2:((Lib.itoa n++[59]).length:Int)=(Lib.itoa n).length+1:=by omega
 refine iO ?_
 conv=>whnf
 rw [e]
 refine And.intro ⟨by omega,by omega,by omega⟩ ?_
 conv=>whnf
 have e3:(Lib.itoa n++[59]).take (((Lib.itoa n).length:Nat):Int).toNat=Lib.itoa n:=by
  rw [Int.toNat_natCast]
  simp
 show [AR.val (AV.str ((Lib.itoa n++[59]).take (((Lib.itoa n).length:Nat):Int).toNat))]=_
 rw [e3]
def formT (op:Int):List UInt8 :=
 if op=15 then [105,102] else if op=14 then [111,114] else if op=13 then [97,110,100] else if op=12 then [110,111,116] else if op=11 then [61,61] else if op=10 then [60]
 else if op=4 then [43] else if op=5 then [45] else if op=6 then [42] else if op=7 then [47] else if op=8 then [109,105,110] else if op=9 then [109,97,120]
 else if op=16 then [101,118,101,114] else if op=17 then [108,111,110,103] else if op=18 then [115,111,111,110] else []
def formN (op:Int):Int :=
 if op=15 then 0 else if op=14 then 1 else if op=13 then 2 else if op=12 then 3 else if op=11∨op=10 then 4 else if op=4∨op=5 then 5 else if op=6∨op=7 then 6
 else if op=8∨op=9 then 7 else if op=16∨op=17∨op=18 then 8 else 7
theorem form2_ok (e:Exp):APure Tryz.prog 117 [encE e] (fun rs=>rs=[.val (.int .i64 (formN e.op)),.val (.str (formT e.op))]):=by
 have key:(e.op<4∨18<e.op)∨e.op=4∨e.op=5∨e.op=6∨e.op=7∨e.op=8∨e.op=9∨e.op=10∨e.op=11∨e.op=12∨e.op=13∨e.op=14∨e.op=15∨e.op=16∨e.op=17∨e.op=18:=by omega
 rcases key with h | h | h | h | h | h | h | h | h | h | h | h | h | h | h | h
 case inl =>
  have e1:formN e.op=7:=by
   unfold formN
   rw [if_neg (by omega),if_neg (by omega),if_neg (by omega),if_neg (by omega),if_neg (by omega),if_neg (by omega),if_neg (by omega),if_neg (by omega),if_neg (by omega)]
  have e2:formT e.op=[]:=by
   unfold formT
   rw [if_neg (by omega),if_neg (by omega),if_neg (by omega),if_neg (by omega),if_neg (by omega),if_neg (by omega),if_neg (by omega),if_neg (by omega),if_neg (by omega),if_neg (by omega),if_neg (by omega),if_neg (by omega),if_neg (by omega),if_neg (by omega),if_neg (by omega)]
  rw [e1,e2]
  refine aO (cxOk 36 [0,1,2,3,5,6,8,10,12,14,16,18,20,22,24,26,28,30,32,34]) Tryz.func117 ?_
  conv=>whnf
  repeat (first | (refine ⟨fun _=>?_,fun hx=>(by simp at hx;omega)⟩;conv=>whnf) | (refine ⟨fun hx=>(by simp at hx;omega),fun _=>?_⟩;conv=>whnf))
  rfl
 all_goals
  rw [show formN e.op=formN _ from congrArg formN h,show formT e.op=formT _ from congrArg formT h]
  refine aO (cxOk 36 [0,1,2,3,5,6,8,10,12,14,16,18,20,22,24,26,28,30,32,34]) Tryz.func117 ?_
  conv=>whnf
  repeat (first | (refine ⟨fun _=>?_,fun hx=>(by simp at hx;omega)⟩;conv=>whnf) | (refine ⟨fun hx=>(by simp at hx;omega),fun _=>?_⟩;conv=>whnf))
  rfl
def leafT (e:Exp):List UInt8:=if e.op=1 then e.s else if e.op=2 then [102,97,99,116,32]++e.s else if e.op=3 then [114,97,116,101,32]++e.s else numT e.n e.unit
theorem leaf_ok (e:Exp) (hn:in64 e.n) (hs:e.s.length≤1000000000000):APureV Tryz.prog 118 [encE e] (.str (leafT e)):=by
 have hi:=decimal_ok e.n hn
 have hl:=Lib.itoa_length_le e.n hn.1 hn.2
 have hv:numT e.n e.unit=if e.unit=4 then (if e.n=1 then [116,114,117,101] else [102,97,108,115,101]) else if e.unit=1 then Lib.itoa e.n++[32,99,111,105,110,115]
   else if e.unit=3 then Lib.itoa e.n++[32,100,97,121,115] else if e.unit=2 then Lib.itoa e.n++[32,109,105,108,108,101] else Lib.itoa e.n:=rfl
 unfold leafT
 refine aO (cxOk 47 [0,1,2,4,5,9,14,20,21,25,26,32,38]) Tryz.func118 ?_
 conv=>whnf
 refine ⟨fun h1=>?_,fun h1=>?_⟩
 ·rw [if_pos (of_decide_eq_true h1)]
  conv=>whnf
  rfl
 rw [if_neg (of_decide_eq_false h1)]
 conv=>whnf
 refine ⟨fun h2=>?_,fun h2=>?_⟩
 ·rw [if_pos (of_decide_eq_true h2)]
  conv=>whnf
  refine And.intro aa0 ?_
  conv=>whnf
  rfl
 rw [if_neg (of_decide_eq_false h2)]
 conv=>whnf
 refine ⟨fun h3=>?_,fun h3=>?_⟩
 ·rw [if_pos (of_decide_eq_true h3)]
  conv=>whnf
  refine And.intro aa0 ?_
  conv=>whnf
  rfl
 rw [if_neg (of_decide_eq_false h3),hv]
 conv=>whnf
 refine ⟨fun u4=>?_,fun u4=>?_⟩
 ·rw [if_pos (of_decide_eq_true u4)]
  conv=>whnf
  refine ⟨fun n1=>?_,fun n1=>?_⟩
  ·rw [if_pos (of_decide_eq_true n1)]
   conv=>whnf
   rfl
  ·rw [if_neg (of_decide_eq_false n1)]
   conv=>whnf
   rfl
 rw [if_neg (of_decide_eq_false u4)]
 conv=>whnf
 refine ⟨fun u1=>?_,fun u1=>?_⟩
 ·rw [if_pos (of_decide_eq_true u1)]
  conv=>whnf
  refine cO (fun _=>hi) ?_
  conv=>whnf
  refine And.intro aa0 ?_
  conv=>whnf
  rfl
 rw [if_neg (of_decide_eq_false u1)]
 conv=>whnf
 refine ⟨fun u3=>?_,fun u3=>?_⟩
 ·rw [if_pos (of_decide_eq_true u3)]
  conv=>whnf
  refine cO (fun _=>hi) ?_
  conv=>whnf
  refine And.intro aa0 ?_
  conv=>whnf
  rfl
 rw [if_neg (of_decide_eq_false u3)]
 conv=>whnf
 refine ⟨fun u2=>?_,fun u2=>?_⟩
 ·rw [if_pos (of_decide_eq_true u2)]
  conv=>whnf
  refine cO (fun _=>hi) ?_
  conv=>whnf
  refine And.intro aa0 ?_
  conv=>whnf
  rfl
 rw [if_neg (of_decide_eq_false u2)]
 conv=>whnf
 refine cO (fun _=>hi) ?_
 conv=>whnf
 rfl
theorem form_bin {op:Int} (h:op=4∨op=5∨op=6∨op=7∨op=10∨op=11∨op=13∨op=14):formN op=(opE op).form∧formT op=(opE op).text∧formT op≠[]:=by
 rcases h with h | h | h | h | h | h | h | h
 all_goals
  subst h
  decide
theorem form_lt (op least:Int) (hl:least≤7):formN op<least↔formO op<least:=by
 have key:(op<4∨18<op)∨op=4∨op=5∨op=6∨op=7∨op=8∨op=9∨op=10∨op=11∨op=12∨op=13∨op=14∨op=15∨op=16∨op=17∨op=18:=by omega
 rcases key with h | h | h | h | h | h | h | h | h | h | h | h | h | h | h | h
 case inl =>
  have e1:formN op=7:=by
   unfold formN
   rw [if_neg (by omega),if_neg (by omega),if_neg (by omega),if_neg (by omega),if_neg (by omega),if_neg (by omega),if_neg (by omega),if_neg (by omega),if_neg (by omega)]
  have e2:formO op=7:=by
   unfold formO oprI
   rw [if_neg (by omega),if_neg (by omega),if_pos]
   have:idxP (fun o:Opr=>decide (o.op=op)) oprL=-1:=by
    refine idxP_none (d:=o0) ?_
    intro j hj
    have hj8:j<8:=hj
    have:(oprL.getD j o0).op=14∨(oprL.getD j o0).op=13∨(oprL.getD j o0).op=11∨(oprL.getD j o0).op=10∨(oprL.getD j o0).op=4∨(oprL.getD j o0).op=5∨(oprL.getD j o0).op=6∨(oprL.getD j o0).op=7:=by
     match j,hj8 with
     | 0,_ | 1,_ | 2,_ | 3,_ | 4,_ | 5,_ | 6,_ | 7,_=>decide
    rw [decide_eq_false_iff_not]
    omega
   rw [this]
   decide
  rw [e1,e2]
 all_goals
  first
   | (have e:formN op=formO op:=(by rw [h];decide)
      rw [e])
   | (have e1:formN op=8:=(by rw [h];decide)
      have e2:formO op=7:=(by rw [h];decide)
      omega)
theorem show2_body (d:Nat) (e:Exp) (least:Int) (hle:¬ formN e.op<least) (hr:rightB (d+1) e=true) (hok:OkE e) (hd:d≤12)
  (ih:∀ (i:Nat) (l:Int),i<e.args.length→l≤7→APureV Tryz.prog 65 [encE (argOf e i),.int .i64 l] (.str (showT d (argOf e i) l))) :
  APureV Tryz.prog 65 [encE e,.int .i64 least] (.str (bodyT (d+1) e)):=by
 have hs:∀ (i:Nat) (l:Int),i<e.args.length→(showT d (argOf e i) l).length≤1100000000:=by
  intro i l hi
  have h1:=show_len d (argOf e i) l (right_arg hr (getD_argOf hi)) (hok.arg _ (getD_argOf hi))
  have h2:lenB d≤lenB 12:=by unfold lenB;exact Nat.mul_le_mul_left _ (Nat.pow_le_pow_right (by decide) hd)
  have h3:lenB 12=1073741824:=by decide
  omega
 have hal:=argsE_len e
 have hargs:=right_len hr
 have hf:=form2_ok e
 have hop:=right_op hr
 have hid:=decimal_ok e.n hok.n64
 have hil:=Lib.itoa_length_le e.n hok.n64.1 hok.n64.2
 rw [body_succ]
 by_cases hleaf:e.op=0∨e.op=1∨e.op=2∨e.op=3
 ·have hsl:e.s.length≤1000000000000:=by
   by_cases h:e.op=0
   ·rw [right_succ] at hr
    split at hr
    ·cases hr
    ·simp only [Bool.and_eq_true,decide_eq_true_eq] at hr
     rw [hr.1.1]
     simp
   ·have:=name_len (right_name hr (by omega))
    omega
  have hlf:=leaf_ok e hok.n64 hsl
  have e1:(formN e.op=7):=by rcases hleaf with h | h | h | h<;>rw [h]<;>rfl
  have e2:(formT e.op=[]):=by rcases hleaf with h | h | h | h<;>rw [h]<;>rfl
  rw [e1] at hle
  rw [e1,e2] at hf
  have hv:leafT e=if e.op=0 then numT e.n e.unit else if e.op=1 then e.s else if e.op=2 then [102,97,99,116,32]++e.s else [114,97,116,101,32]++e.s:=by
   unfold leafT
   rcases hleaf with h | h | h | h
   ·rw [if_neg (by omega),if_neg (by omega),if_neg (by omega),if_pos h]
   ·rw [if_pos h,if_neg (by omega),if_pos h]
   ·rw [if_neg (by omega),if_pos h,if_neg (by omega),if_neg (by omega),if_pos h]
   ·rw [if_neg (by omega),if_neg (by omega),if_pos h,if_neg (by omega),if_neg (by omega),if_neg (by omega)]
  rw [hv] at hlf
  have hgoal:∀ A B C D:List UInt8,∀ R:List UInt8,(if e.op=0 then A else if e.op=1 then B else if e.op=2 then C else if e.op=3 then D else R)=if e.op=0 then A else if e.op=1 then B else if e.op=2 then C else D:=by
   intro A B C D R
   rcases hleaf with h | h | h | h<;>simp [h]
  rw [hgoal]
  generalize (if e.op=0 then numT e.n e.unit else if e.op=1 then e.s else if e.op=2 then [102,97,99,116,32]++e.s else [114,97,116,101,32]++e.s)=z at *
  refine aO (cxOk 109 [0,1,2,4,5,6,7,15,21,25,41,59,81,90]) Tryz.func65 ?_
  conv=>whnf
  refine cO (fun _=>hf) ?_
  conv=>whnf
  refine ⟨fun hx=>absurd (of_decide_eq_true hx) hle,fun _=>?_⟩
  conv=>whnf
  refine ⟨fun _=>?_,fun hx=>(by simp at hx)⟩
  conv=>whnf
  refine cO (fun _=>hlf) ?_
  conv=>whnf
  rfl
 rw [if_neg (by omega),if_neg (by omega),if_neg (by omega),if_neg (by omega)]
 by_cases h15:e.op=15
 ·have e1:formN e.op=0:=by rw [h15];rfl
  have e2:formT e.op=[105,102]:=by rw [h15];rfl
  rw [e1] at hle
  rw [e1,e2] at hf
  rw [if_pos h15]
  have hl:e.args.length=3:=by rw [h15] at hargs;exact Int.ofNat.inj hargs
  have a0:=ih 0 0 (by omega) (by omega)
  have a1:=ih 1 0 (by omega) (by omega)
  have a2:=ih 2 0 (by omega) (by omega)
  have b0:=hs 0 0 (by omega)
  have b1:=hs 1 0 (by omega)
  have b2:=hs 2 0 (by omega)
  have g0:(argsE e).getD (Int.toNat 0) .undef=encE (argOf e 0):=argsE_get e (by omega)
  have g1:(argsE e).getD (Int.toNat 1) .undef=encE (argOf e 1):=argsE_get e (by omega)
  have g2:(argsE e).getD (Int.toNat 2) .undef=encE (argOf e 2):=argsE_get e (by omega)
  generalize showT d (argOf e 0) 0=s0 at *
  generalize showT d (argOf e 1) 0=s1 at *
  generalize showT d (argOf e 2) 0=s2 at *
  refine aO (cxOk 109 [0,1,2,4,5,6,7,15,21,25,41,59,81,90]) Tryz.func65 ?_
  conv=>whnf
  refine cO (fun _=>hf) ?_
  conv=>whnf
  refine ⟨fun hx=>absurd (of_decide_eq_true hx) hle,fun _=>?_⟩
  conv=>whnf
  refine ⟨fun hx=>(by simp at hx),fun _=>?_⟩
  conv=>whnf
  refine ⟨fun hx=>(by simp at hx),fun _=>?_⟩
  conv=>whnf
  refine ⟨fun hx=>(by simp at hx),fun _=>?_⟩
  conv=>whnf
  refine ⟨fun _=>?_,fun hx=>(by simp at hx)⟩
  conv=>whnf
  refine .quiet (by kernel_rfl) ?_;conv=>whnf
  refine iO ?_;conv=>whnf
  refine And.intro rfl ?_;conv=>whnf
  rw [g0]
  conv=>whnf
  refine .mk _ _ _ _ (fun _=>a0) ah0 rfl ?_
  conv=>whnf
  refine And.intro aa0 ?_
  conv=>whnf
  refine And.intro aa0 ?_
  conv=>whnf
  refine iO ?_;conv=>whnf
  refine And.intro rfl ?_;conv=>whnf
  rw [g1]
  conv=>whnf
  refine .mk _ _ _ _ (fun _=>a1) ah0 rfl ?_
  conv=>whnf
  refine And.intro aa0 ?_
  conv=>whnf
  refine And.intro aa0 ?_
  conv=>whnf
  refine iO ?_;conv=>whnf
  refine And.intro rfl ?_;conv=>whnf
  rw [g2]
  conv=>whnf
  refine .mk _ _ _ _ (fun _=>a2) ah0 rfl ?_
  conv=>whnf
  refine And.intro aa0 ?_
  conv=>whnf
  rfl
 rw [if_neg h15]
 by_cases h12:e.op=12
 ·have e1:formN e.op=3:=by rw [h12];rfl
  have e2:formT e.op=[110,111,116]:=by rw [h12];rfl
  rw [e1] at hle
  rw [e1,e2] at hf
  rw [if_pos h12]
  have hl:e.args.length=1:=by rw [h12] at hargs;exact Int.ofNat.inj hargs
  have a0:=ih 0 3 (by omega) (by omega)
  have b0:=hs 0 3 (by omega)
  have g0:(argsE e).getD (Int.toNat 0) .undef=encE (argOf e 0):=argsE_get e (by omega)
  generalize showT d (argOf e 0) 3=s0 at *
  refine aO (cxOk 109 [0,1,2,4,5,6,7,15,21,25,41,59,81,90]) Tryz.func65 ?_
  conv=>whnf
  refine cO (fun _=>hf) ?_
  conv=>whnf
  refine ⟨fun hx=>absurd (of_decide_eq_true hx) hle,fun _=>?_⟩
  conv=>whnf
  refine ⟨fun hx=>(by simp at hx),fun _=>?_⟩
  conv=>whnf
  refine ⟨fun hx=>(by simp at hx),fun _=>?_⟩
  conv=>whnf
  refine ⟨fun hx=>(by simp at hx),fun _=>?_⟩
  conv=>whnf
  refine ⟨fun hx=>(by simp at hx),fun _=>?_⟩
  conv=>whnf
  refine ⟨fun _=>?_,fun hx=>(by simp at hx)⟩
  conv=>whnf
  refine iO ?_;conv=>whnf
  refine And.intro rfl ?_;conv=>whnf
  rw [g0]
  conv=>whnf
  refine cO (fun _=>a0) ?_
  conv=>whnf
  refine And.intro aa0 ?_
  conv=>whnf
  rfl
 rw [if_neg h12]
 by_cases h8:e.op=8
 ·have e1:formN e.op=7:=by rw [h8];rfl
  have e2:formT e.op=[109,105,110]:=by rw [h8];rfl
  rw [e1] at hle
  rw [e1,e2] at hf
  rw [if_pos h8]
  have hl:e.args.length=2:=by rw [h8] at hargs;exact Int.ofNat.inj hargs
  have a0:=ih 0 0 (by omega) (by omega)
  have a1:=ih 1 0 (by omega) (by omega)
  have b0:=hs 0 0 (by omega)
  have b1:=hs 1 0 (by omega)
  have g0:(argsE e).getD (Int.toNat 0) .undef=encE (argOf e 0):=argsE_get e (by omega)
  have g1:(argsE e).getD (Int.toNat 1) .undef=encE (argOf e 1):=argsE_get e (by omega)
  generalize showT d (argOf e 0) 0=s0 at *
  generalize showT d (argOf e 1) 0=s1 at *
  refine aO (cxOk 109 [0,1,2,4,5,6,7,15,21,25,41,59,81,90]) Tryz.func65 ?_
  conv=>whnf
  refine cO (fun _=>hf) ?_
  conv=>whnf
  refine ⟨fun hx=>absurd (of_decide_eq_true hx) hle,fun _=>?_⟩
  conv=>whnf
  refine ⟨fun hx=>(by simp at hx),fun _=>?_⟩
  conv=>whnf
  refine ⟨fun hx=>(by simp at hx),fun _=>?_⟩
  conv=>whnf
  refine ⟨fun _=>?_,fun hx=>(by simp at hx)⟩
  conv=>whnf
  refine .quiet (by kernel_rfl) ?_
  conv=>whnf
  refine And.intro aa0 ?_
  conv=>whnf
  refine iO ?_;conv=>whnf
  refine And.intro rfl ?_;conv=>whnf
  rw [g0]
  conv=>whnf
  refine .mk _ _ _ _ (fun _=>a0) ah0 rfl ?_
  conv=>whnf
  refine And.intro aa0 ?_
  conv=>whnf
  refine And.intro aa0 ?_
  conv=>whnf
  refine iO ?_;conv=>whnf
  refine And.intro rfl ?_;conv=>whnf
  rw [g1]
  conv=>whnf
  refine .mk _ _ _ _ (fun _=>a1) ah0 rfl ?_
  conv=>whnf
  refine And.intro aa0 ?_
  conv=>whnf
  refine And.intro aa0 ?_
  conv=>whnf
  rfl
 rw [if_neg h8]
 by_cases h9:e.op=9
 ·have e1:formN e.op=7:=by rw [h9];rfl
  have e2:formT e.op=[109,97,120]:=by rw [h9];rfl
  rw [e1] at hle
  rw [e1,e2] at hf
  rw [if_pos h9]
  have hl:e.args.length=2:=by rw [h9] at hargs;exact Int.ofNat.inj hargs
  have a0:=ih 0 0 (by omega) (by omega)
  have a1:=ih 1 0 (by omega) (by omega)
  have b0:=hs 0 0 (by omega)
  have b1:=hs 1 0 (by omega)
  have g0:(argsE e).getD (Int.toNat 0) .undef=encE (argOf e 0):=argsE_get e (by omega)
  have g1:(argsE e).getD (Int.toNat 1) .undef=encE (argOf e 1):=argsE_get e (by omega)
  generalize showT d (argOf e 0) 0=s0 at *
  generalize showT d (argOf e 1) 0=s1 at *
  refine aO (cxOk 109 [0,1,2,4,5,6,7,15,21,25,41,59,81,90]) Tryz.func65 ?_
  conv=>whnf
  refine cO (fun _=>hf) ?_
  conv=>whnf
  refine ⟨fun hx=>absurd (of_decide_eq_true hx) hle,fun _=>?_⟩
  conv=>whnf
  refine ⟨fun hx=>(by simp at hx),fun _=>?_⟩
  conv=>whnf
  refine ⟨fun hx=>(by simp at hx),fun _=>?_⟩
  conv=>whnf
  refine ⟨fun _=>?_,fun hx=>(by simp at hx)⟩
  conv=>whnf
  refine .quiet (by kernel_rfl) ?_
  conv=>whnf
  refine And.intro aa0 ?_
  conv=>whnf
  refine iO ?_;conv=>whnf
  refine And.intro rfl ?_;conv=>whnf
  rw [g0]
  conv=>whnf
  refine .mk _ _ _ _ (fun _=>a0) ah0 rfl ?_
  conv=>whnf
  refine And.intro aa0 ?_
  conv=>whnf
  refine And.intro aa0 ?_
  conv=>whnf
  refine iO ?_;conv=>whnf
  refine And.intro rfl ?_;conv=>whnf
  rw [g1]
  conv=>whnf
  refine .mk _ _ _ _ (fun _=>a1) ah0 rfl ?_
  conv=>whnf
  refine And.intro aa0 ?_
  conv=>whnf
  refine And.intro aa0 ?_
  conv=>whnf
  rfl
 rw [if_neg h9]
 by_cases h16:e.op=16
 ·have e1:formN e.op=8:=by rw [h16];rfl
  have e2:formT e.op=[101,118,101,114]:=by rw [h16];rfl
  rw [e1] at hle
  rw [e1,e2] at hf
  rw [if_pos h16]
  have hl:e.args.length=1:=by rw [h16] at hargs;exact Int.ofNat.inj hargs
  have a0:=ih 0 0 (by omega) (by omega)
  have b0:=hs 0 0 (by omega)
  have g0:(argsE e).getD (Int.toNat 0) .undef=encE (argOf e 0):=argsE_get e (by omega)
  generalize showT d (argOf e 0) 0=s0 at *
  refine aO (cxOk 109 [0,1,2,4,5,6,7,15,21,25,41,59,81,90]) Tryz.func65 ?_
  conv=>whnf
  refine cO (fun _=>hf) ?_
  conv=>whnf
  refine ⟨fun hx=>absurd (of_decide_eq_true hx) hle,fun _=>?_⟩
  conv=>whnf
  refine ⟨fun hx=>(by simp at hx),fun _=>?_⟩
  conv=>whnf
  refine ⟨fun _=>?_,fun hx=>(by simp at hx)⟩
  conv=>whnf
  refine .quiet (by kernel_rfl) ?_
  conv=>whnf
  refine And.intro aa0 ?_
  conv=>whnf
  refine .mk _ _ _ _ (fun _=>hid) ah0 rfl ?_
  conv=>whnf
  refine And.intro aa0 ?_
  conv=>whnf
  refine And.intro aa0 ?_
  conv=>whnf
  refine iO ?_;conv=>whnf
  refine And.intro rfl ?_;conv=>whnf
  rw [g0]
  conv=>whnf
  refine .mk _ _ _ _ (fun _=>a0) ah0 rfl ?_
  conv=>whnf
  refine And.intro aa0 ?_
  conv=>whnf
  refine And.intro aa0 ?_
  conv=>whnf
  rfl
 rw [if_neg h16]
 by_cases h17:e.op=17
 ·have e1:formN e.op=8:=by rw [h17];rfl
  have e2:formT e.op=[108,111,110,103]:=by rw [h17];rfl
  rw [e1] at hle
  rw [e1,e2] at hf
  rw [if_pos h17]
  have hl:e.args.length=1:=by rw [h17] at hargs;exact Int.ofNat.inj hargs
  have a0:=ih 0 0 (by omega) (by omega)
  have b0:=hs 0 0 (by omega)
  have g0:(argsE e).getD (Int.toNat 0) .undef=encE (argOf e 0):=argsE_get e (by omega)
  generalize showT d (argOf e 0) 0=s0 at *
  refine aO (cxOk 109 [0,1,2,4,5,6,7,15,21,25,41,59,81,90]) Tryz.func65 ?_
  conv=>whnf
  refine cO (fun _=>hf) ?_
  conv=>whnf
  refine ⟨fun hx=>absurd (of_decide_eq_true hx) hle,fun _=>?_⟩
  conv=>whnf
  refine ⟨fun hx=>(by simp at hx),fun _=>?_⟩
  conv=>whnf
  refine ⟨fun _=>?_,fun hx=>(by simp at hx)⟩
  conv=>whnf
  refine .quiet (by kernel_rfl) ?_
  conv=>whnf
  refine And.intro aa0 ?_
  conv=>whnf
  refine .mk _ _ _ _ (fun _=>hid) ah0 rfl ?_
  conv=>whnf
  refine And.intro aa0 ?_
  conv=>whnf
  refine And.intro aa0 ?_
  conv=>whnf
  refine iO ?_;conv=>whnf
  refine And.intro rfl ?_;conv=>whnf
  rw [g0]
  conv=>whnf
  refine .mk _ _ _ _ (fun _=>a0) ah0 rfl ?_
  conv=>whnf
  refine And.intro aa0 ?_
  conv=>whnf
  refine And.intro aa0 ?_
  conv=>whnf
  rfl
 rw [if_neg h17]
 by_cases h18:e.op=18
 ·have e1:formN e.op=8:=by rw [h18];rfl
  have e2:formT e.op=[115,111,111,110]:=by rw [h18];rfl
  rw [e1] at hle
  rw [e1,e2] at hf
  rw [if_pos h18]
  have hl:e.args.length=1:=by rw [h18] at hargs;exact Int.ofNat.inj hargs
  have a0:=ih 0 0 (by omega) (by omega)
  have b0:=hs 0 0 (by omega)
  have g0:(argsE e).getD (Int.toNat 0) .undef=encE (argOf e 0):=argsE_get e (by omega)
  generalize showT d (argOf e 0) 0=s0 at *
  refine aO (cxOk 109 [0,1,2,4,5,6,7,15,21,25,41,59,81,90]) Tryz.func65 ?_
  conv=>whnf
  refine cO (fun _=>hf) ?_
  conv=>whnf
  refine ⟨fun hx=>absurd (of_decide_eq_true hx) hle,fun _=>?_⟩
  conv=>whnf
  refine ⟨fun hx=>(by simp at hx),fun _=>?_⟩
  conv=>whnf
  refine ⟨fun _=>?_,fun hx=>(by simp at hx)⟩
  conv=>whnf
  refine .quiet (by kernel_rfl) ?_
  conv=>whnf
  refine And.intro aa0 ?_
  conv=>whnf
  refine .mk _ _ _ _ (fun _=>hid) ah0 rfl ?_
  conv=>whnf
  refine And.intro aa0 ?_
  conv=>whnf
  refine And.intro aa0 ?_
  conv=>whnf
  refine iO ?_;conv=>whnf
  refine And.intro rfl ?_;conv=>whnf
  rw [g0]
  conv=>whnf
  refine .mk _ _ _ _ (fun _=>a0) ah0 rfl ?_
  conv=>whnf
  refine And.intro aa0 ?_
  conv=>whnf
  refine And.intro aa0 ?_
  conv=>whnf
  rfl
 rw [if_neg h18]
 have key:e.op=4∨e.op=5∨e.op=6∨e.op=7∨e.op=10∨e.op=11∨e.op=13∨e.op=14:=by omega
 have hl:e.args.length=2:=by
  have:opsN e.op=2:=by unfold opsN;rw [if_neg (by omega),if_neg (by omega),if_neg (by omega),if_neg (by omega)]
  omega
 obtain ⟨e1,e2,e3⟩:=form_bin key
 have hb:=opr_find key
 have htx:(opE e.op).text.length≤3:=opr_text (oprI e.op).toNat
 have hf1:=hb.2.2.1
 have hf2:=hb.2.2.2.1
 rw [e2] at e3
 rw [e1] at hle
 rw [e1,e2] at hf
 have g0:(argsE e).getD (Int.toNat 0) .undef=encE (argOf e 0):=argsE_get e (by omega)
 have g1:(argsE e).getD (Int.toNat 1) .undef=encE (argOf e 1):=argsE_get e (by omega)
 have a1:=ih 1 ((opE e.op).form+1) (by omega) (by omega)
 have b1:=hs 1 ((opE e.op).form+1) (by omega)
 have a0:=ih 0 (if (opE e.op).form=4 then 5 else (opE e.op).form) (by omega) (by split<;>omega)
 have b0:=hs 0 (if (opE e.op).form=4 then 5 else (opE e.op).form) (by omega)
 generalize showT d (argOf e 1) ((opE e.op).form+1)=s1 at *
 generalize hs0:showT d (argOf e 0) (if (opE e.op).form=4 then 5 else (opE e.op).form)=s0 at *
 have hf3:(opE e.op).form≠3:=by
  rcases key with h | h | h | h | h | h | h | h<;>rw [h]<;>decide
 generalize (opE e.op).form=f at *
 generalize (opE e.op).text=w at *
 refine aO (cxOk 109 [0,1,2,4,5,6,7,15,21,25,41,59,81,90]) Tryz.func65 ?_
 conv=>whnf
 refine cO (fun _=>hf) ?_
 conv=>whnf
 refine ⟨fun hx=>absurd (of_decide_eq_true hx) hle,fun _=>?_⟩
 conv=>whnf
 refine ⟨fun hx=>absurd (of_decide_eq_true hx) e3,fun _=>?_⟩
 conv=>whnf
 refine ⟨fun hx=>absurd (of_decide_eq_true hx) om0,fun _=>?_⟩
 conv=>whnf
 refine ⟨fun hx=>absurd (of_decide_eq_true hx) om0,fun _=>?_⟩
 conv=>whnf
 refine ⟨fun hx=>absurd (of_decide_eq_true hx) om0,fun _=>?_⟩
 conv=>whnf
 refine ⟨fun hx=>absurd (of_decide_eq_true hx) om0,fun _=>?_⟩
 conv=>whnf
 refine ⟨fun h4=>?_,fun h4=>?_⟩
 ·rw [if_pos (of_decide_eq_true h4)] at a0
  conv=>whnf
  refine .quiet (by kernel_rfl) ?_;conv=>whnf
  refine iO ?_;conv=>whnf
  refine And.intro rfl ?_;conv=>whnf
  rw [g0]
  conv=>whnf
  refine .mk _ _ _ _ (fun _=>a0) ah0 rfl ?_
  conv=>whnf
  refine And.intro aa0 ?_
  conv=>whnf
  refine And.intro aa0 ?_
  conv=>whnf
  refine And.intro aa0 ?_
  conv=>whnf
  refine iO ?_;conv=>whnf
  refine And.intro rfl ?_;conv=>whnf
  rw [g1]
  conv=>whnf
  refine iO ?_;conv=>whnf
  refine .mk _ _ _ _ (fun _=>a1) ah0 rfl ?_
  conv=>whnf
  refine And.intro aa0 ?_
  conv=>whnf
  rfl
 ·rw [if_neg (of_decide_eq_false h4)] at a0
  conv=>whnf
  refine .quiet (by kernel_rfl) ?_;conv=>whnf
  refine iO ?_;conv=>whnf
  refine And.intro rfl ?_;conv=>whnf
  rw [g0]
  conv=>whnf
  refine .mk _ _ _ _ (fun _=>a0) ah0 rfl ?_
  conv=>whnf
  refine And.intro aa0 ?_
  conv=>whnf
  refine And.intro aa0 ?_
  conv=>whnf
  refine And.intro aa0 ?_
  conv=>whnf
  refine iO ?_;conv=>whnf
  refine And.intro rfl ?_;conv=>whnf
  rw [g1]
  conv=>whnf
  refine iO ?_;conv=>whnf
  refine .mk _ _ _ _ (fun _=>a1) ah0 rfl ?_
  conv=>whnf
  refine And.intro aa0 ?_
  conv=>whnf
  rfl
theorem show2_ok:∀ (d:Nat) (e:Exp) (least:Int),d≤13→least≤7→rightB d e=true→OkE e→APureV Tryz.prog 65 [encE e,.int .i64 least] (.str (showT d e least)):=by
 intro d
 induction d with
 | zero=>intro e least _ _ h;simp [rightB] at h
 | succ d ih =>
  intro e least hd hl7 hr hok
  have hargs:∀ (i:Nat) (l:Int),i<e.args.length→l≤7→APureV Tryz.prog 65 [encE (argOf e i),.int .i64 l] (.str (showT d (argOf e i) l)) :=
   fun i l hi hl=>ih _ l (by omega) hl (right_arg hr (getD_argOf hi)) (hok.arg _ (getD_argOf hi))
  have hiff:=form_lt e.op least hl7
  unfold showT
  by_cases hlt:formO e.op<least
  ·rw [if_pos hlt]
   have h0:=show2_body d e 0 (by rw [form_lt e.op 0 (by omega)];have:=formO_nn e.op;omega) hr hok (by omega) hargs
   have hf:=form2_ok e
   have hlen:=body_len (d+1) e hr hok
   have h2:lenB (d+1)≤lenB 13:=by unfold lenB;exact Nat.mul_le_mul_left _ (Nat.pow_le_pow_right (by decide) hd)
   have h3:lenB 13=4294967296:=by decide
   have hlt2:=hiff.2 hlt
   generalize bodyT (d+1) e=s at *
   refine aO (cxOk 109 [0,1,2,4,5,6,7,15,21,25,41,59,81,90]) Tryz.func65 ?_
   conv=>whnf
   refine cO (fun _=>hf) ?_
   conv=>whnf
   refine ⟨fun _=>?_,fun hx=>absurd hlt2 (of_decide_eq_false hx)⟩
   conv=>whnf
   refine cO (fun _=>h0) ?_
   conv=>whnf
   refine And.intro aa0 ?_
   conv=>whnf
   refine And.intro aa0 ?_
   conv=>whnf
   rfl
  ·rw [if_neg hlt]
   exact show2_body d e least (fun h=>hlt (hiff.1 h)) hr hok om0 hargs
theorem lsEq {H:Heap} {s t:List UInt8} (h:s=t):Lend H (.str s) (.str t) []:=by subst h;exact lS rfl
theorem day2_ok (n:Int) (h:0≤n) (h2:n≤200000):APureV Tryz.prog 61 [.int .i64 n] (.str (dayT n)):=by
 have hp:=parts2_ok n
 unfold partsR at hp
 rw [if_pos ⟨h,h2⟩] at hp
 obtain ⟨a,b,c,d,e,f⟩:=parts_bounds h h2
 have i1:=decimal_ok (partY n) ⟨by omega,by omega⟩
 have i2:=decimal_ok (partM n) ⟨by omega,by omega⟩
 have i3:=decimal_ok (partD n) ⟨by omega,by omega⟩
 have l1:=Lib.itoa_length_le (partY n) (by omega) (by omega)
 have l2:=Lib.itoa_length_le (partM n) (by omega) (by omega)
 have l3:=Lib.itoa_length_le (partD n) (by omega) (by omega)
 unfold dayT
 generalize partY n=y at *
 generalize partM n=m at *
 generalize partD n=dd at *
 refine aO (cxOk 24 [0,2,3,4,5]) Tryz.func61 ?_
 conv=>whnf
 refine cO (fun _=>hp) ?_
 conv=>whnf
 refine cO (fun _=>i1) ?_
 conv=>whnf
 refine And.intro aa0 ?_
 conv=>whnf
 refine cO (fun _=>i2) ?_
 conv=>whnf
 refine And.intro aa0 ?_
 conv=>whnf
 refine And.intro aa0 ?_
 conv=>whnf
 refine cO (fun _=>i3) ?_
 conv=>whnf
 refine And.intro aa0 ?_
 conv=>whnf
 rfl
theorem join2 (a b:List UInt8):Lib.join [a,b] [32]=a++32::b:=by rw [Lib.join_cons];simp [Lib.joinTail]
theorem join4 (a b c d:List UInt8):Lib.join [a,b,c,d] [32]=a++32::(b++32::(c++32::d)):=by rw [Lib.join_cons];simp [Lib.joinTail]
theorem join6 (a b c d e f:List UInt8):Lib.join [a,b,c,d,e,f] [32]=a++32::(b++32::(c++32::(d++32::(e++32::f)))):=by rw [Lib.join_cons];simp [Lib.joinTail]
theorem join7 (a b c d e f g:List UInt8):Lib.join [a,b,c,d,e,f,g] [32]=a++32::(b++32::(c++32::(d++32::(e++32::(f++32::g))))):=by rw [Lib.join_cons];simp [Lib.joinTail]
theorem letfn_ok (l:LetE) (hn:nameB l.name=true) (hr:rightE l.body=true) (hok:OkE l.body):APureV Tryz.prog 64 [encL l] (.str (lineT (letW l))):=by
 have h1:=show2_ok 12 l.body 0 (by decide) (by decide) hr hok
 have h2:=show12_len _ hr hok
 have h3:=name_len hn
 have he:lineT (letW l)=[108,101,116,32]++l.name++[32,61,32]++showT 12 l.body 0++[32,59,10]:=by
  unfold lineT letW
  rw [join4]
  simp only [List.append_assoc,List.cons_append,List.nil_append]
 rw [he]
 generalize showT 12 l.body 0=s at *
 refine aO (cxOk 12 [0,1,2]) Tryz.func64 ?_
 conv=>whnf
 refine .quiet (by kernel_rfl) ?_
 conv=>whnf
 refine And.intro aa0 ?_
 conv=>whnf
 refine And.intro aa0 ?_
 conv=>whnf
 refine .mk _ _ _ _ (fun _=>h1) ah0 rfl ?_
 conv=>whnf
 refine And.intro aa0 ?_
 conv=>whnf
 refine And.intro aa0 ?_
 conv=>whnf
 rfl
theorem covfn_ok (c:Cov) (hn:nameB c.name=true) (hr:rightE c.must=true) (hok:OkE c.must) (hg:in64 c.grace):APureV Tryz.prog 66 [encC c] (.str (lineT (covW c))):=by
 have h1:=show2_ok 12 c.must 0 (by decide) (by decide) hr hok
 have h2:=show12_len _ hr hok
 have h3:=name_len hn
 have h4:=decimal_ok c.grace hg
 have h5:=itoa_len21 hg
 have he:lineT (covW c)=[99,111,118,101,110,97,110,116,32]++c.name++[32,109,117,115,116,32]++showT 12 c.must 0++[32,103,114,97,99,101,32]++Lib.itoa c.grace++[32,59,10]:=by
  unfold lineT covW
  rw [join6]
  simp only [List.append_assoc,List.cons_append,List.nil_append]
 rw [he]
 generalize showT 12 c.must 0=s at *
 refine aO (cxOk 17 [0,1,2]) Tryz.func66 ?_
 conv=>whnf
 refine .quiet (by kernel_rfl) ?_
 conv=>whnf
 refine And.intro aa0 ?_
 conv=>whnf
 refine And.intro aa0 ?_
 conv=>whnf
 refine .mk _ _ _ _ (fun _=>h1) ah0 rfl ?_
 conv=>whnf
 refine And.intro aa0 ?_
 conv=>whnf
 refine And.intro aa0 ?_
 conv=>whnf
 refine .mk _ _ _ _ (fun _=>h4) ah0 rfl ?_
 conv=>whnf
 refine And.intro aa0 ?_
 conv=>whnf
 refine And.intro aa0 ?_
 conv=>whnf
 rfl
theorem callfn_ok (c:CallE) (h:(0≤c.a∧c.a≤200000)∧0≤c.b∧c.b≤10000):APureV Tryz.prog 67 [encK c] (.str (lineT (callW c))):=by
 have h1:=day2_ok c.a h.1.1 h.1.2
 have h2:=dayT_len h.1.1 h.1.2
 have h4:=decimal_ok c.b ⟨by omega,by omega⟩
 have h5:=itoa_len21 (n:=c.b) ⟨by omega,by omega⟩
 have he:lineT (callW c)=[99,97,108,108,32]++dayT c.a++[32,97,116,32]++Lib.itoa c.b++[32,59,10]:=by
  unfold lineT callW
  rw [join4]
  simp only [List.append_assoc,List.cons_append,List.nil_append]
 rw [he]
 generalize dayT c.a=s at *
 refine aO (cxOk 13 [0,1,2]) Tryz.func67 ?_
 conv=>whnf
 refine .quiet (by kernel_rfl) ?_
 conv=>whnf
 refine .mk _ _ _ _ (fun _=>h1) ah0 rfl ?_
 conv=>whnf
 refine And.intro aa0 ?_
 conv=>whnf
 refine And.intro aa0 ?_
 conv=>whnf
 refine .mk _ _ _ _ (fun _=>h4) ah0 rfl ?_
 conv=>whnf
 refine And.intro aa0 ?_
 conv=>whnf
 refine And.intro aa0 ?_
 conv=>whnf
 rfl
theorem txt_cons (w:List (List UInt8)) (L:List (List (List UInt8))):txt (w::L)=lineT w++txt L:=by unfold txt;simp
theorem txt_nil:txt []=[]:=rfl
theorem line2 (a b:List UInt8):lineT [a,b]=a++32::(b++[32,59,10]):=by unfold lineT;rw [join2];simp only [List.append_assoc,List.cons_append]
theorem line4 (a b c d:List UInt8):lineT [a,b,c,d]=a++32::(b++32::(c++32::(d++[32,59,10]))):=by unfold lineT;rw [join4];simp only [List.append_assoc,List.cons_append]
theorem line7 (a b c d e f g:List UInt8):lineT [a,b,c,d,e,f,g]=a++32::(b++32::(c++32::(d++32::(e++32::(f++32::(g++[32,59,10])))))):=by unfold lineT;rw [join7];simp only [List.append_assoc,List.cons_append]
def tailT (l:List (List UInt8)):List UInt8:=Lib.joinTail [32] l
theorem tail_snoc (l:List (List UInt8)) (s:List UInt8):tailT (l++[s])=tailT l++(32::s):=by unfold tailT Lib.joinTail;simp
theorem lineF (l:List (List UInt8)):lineT ([102,97,118,111,117,114]::l)=[102,97,118,111,117,114]++tailT l++[32,59,10]:=by unfold lineT tailT;rw [Lib.join_cons]
theorem tail_len:∀ (l:List (List UInt8)),(∀ s∈l,s.length≤20)→(tailT l).length≤l.length*21:=by
 intro l
 induction l with
 | nil=>intro _;simp [tailT,Lib.joinTail]
 | cons x l ih =>
  intro h
  have h1:=ih fun s hs=>h s (List.mem_cons_of_mem _ hs)
  have h2:=h x List.mem_cons_self
  have e:tailT (x::l)=32::(x++tailT l):=by unfold tailT Lib.joinTail;simp
  rw [e,List.length_cons,List.length_append,List.length_cons,Nat.succ_mul]
  omega
theorem LOk.txt {n:Nat} {L:List (List (List UInt8))} (h:LOk n L) (hn:n≤120):(txt L).length≤2784000000360:=by
 have h1:=txt_len h
 have h2:n*23200000003≤120*23200000003:=Nat.mul_le_mul_right _ hn
 omega
theorem print2_ok (x:Ind) (hx:OkX x):APure Tryz.prog 30 [encX x] (fun rs=>rs=[.val (.str (printI x).1),.val (.int .i64 (printI x).2)]):=by
 have h:=rightfn2_ok x hx
 unfold printI
 cases hr:rightI x with
 | false =>
  rw [hr] at h
  refine aO (cxOk 191 [0,1,2,3,4,5,6,7,8,11,70,97,111,118,133,145,158,168]) Tryz.func30 ?_
  conv=>whnf
  refine cO (fun _=>h) ?_
  conv=>whnf
  refine gT ?_
  conv=>whnf
  rfl
 | true =>
  rw [hr] at h
  rw [if_pos rfl]
  have R:=(right_iff x).1 hr
  have it:∀ (n:Int),-1≤n→n≤1000000000000000→APureV Tryz.prog 60 [.int .i64 n] (.str (Lib.itoa n)):=fun n h1 h2=>decimal_ok n ⟨by omega,by omega⟩
  have il:∀ (n:Int),-1≤n→n≤1000000000000000→(Lib.itoa n).length≤21:=fun n h1 h2=>Lib.itoa_length_le n (by omega) (by omega)
  have r1:=R.frm
  have r2:=R.to
  have r3:=R.face
  have r4:=R.every
  have r5:=R.count
  have r6:=R.adjust
  have r7:=R.record
  have r8:=R.rank
  have r9:=R.cap
  have r10:=R.cross
  have r11:=R.notice
  have r12:=R.sink
  have r13:=R.majority
  have r14:=R.fast
  have ll:=uniq_len R.ulets
  have lc:=uniq_len R.ucov
  have lf:=uniq_len R.fav
  have lk:=R.ncalls
  rw [List.length_map] at ll lc
  have d1:=day2_ok x.frm r1.1 r1.2
  have d2:=day2_ok x.to r2.1 r2.2
  have w1:WsOk [[105,115,115,117,101],x.name,[111,102],x.issuer]:=ws4 (by simp) (nam_len R.name) (by simp) (nam_len R.issuer)
  have w2:WsOk [[102,97,99,101],Lib.itoa x.face]:=ws2 (by simp) (int_len (by omega) (by omega))
  have w3:WsOk [[102,114,111,109],dayT x.frm,[116,111],dayT x.to,[101,118,101,114,121],Lib.itoa x.every,[109,111,110,116,104,115]]:=by
   have a1:=day_len r1
   have a2:=day_len r2
   have a3:=int_len (n:=x.every) (by omega) (by omega)
   refine wsOk_of (by simp) ?_
   simp
   omega
  have w4:WsOk [[99,111,117,110,116],cntW.getD x.count.toNat []]:=ws2 (by simp) (by have:=cnt_len x.count.toNat;omega)
  have w5:WsOk [[97,100,106,117,115,116],adjW.getD x.adjust.toNat []]:=ws2 (by simp) (by have:=adj_len x.adjust.toNat;omega)
  have w6:WsOk [[114,101,99,111,114,100],Lib.itoa x.record]:=ws2 (by simp) (int_len (by omega) (by omega))
  have w7:WsOk [[114,97,110,107],Lib.itoa x.rank]:=ws2 (by simp) (int_len (by omega) (by omega))
  have w8:WsOk [[99,111,117,112,111,110],showT 12 x.coupon 0]:=ws2 (by simp) (show12_len _ R.coupon hx.coupon)
  have w9:WsOk [[99,97,112],Lib.itoa x.cap]:=ws2 (by simp) (int_len (by omega) (by omega))
  have w10:=favW_ok R.fav
  have w11:WsOk [[99,114,111,115,115],Lib.itoa x.cross]:=ws2 (by simp) (int_len (by omega) (by omega))
  have w12:WsOk [[110,111,116,105,99,101],Lib.itoa x.notice]:=ws2 (by simp) (int_len (by omega) (by omega))
  have w13:WsOk [[115,105,110,107],Lib.itoa x.sink]:=ws2 (by simp) (int_len (by omega) (by omega))
  have w14:WsOk [[109,97,106,111,114,105,116,121],Lib.itoa x.majority]:=ws2 (by simp) (int_len (by omega) (by omega))
  have w15:WsOk [[102,97,115,116],Lib.itoa x.fast]:=ws2 (by simp) (int_len (by omega) (by omega))
  have c_face:=it x.face (by omega) (by omega)
  have c_every:=it x.every (by omega) (by omega)
  have c_record:=it x.record (by omega) (by omega)
  have c_rank:=it x.rank (by omega) (by omega)
  have c_cap:=it x.cap (by omega) (by omega)
  have c_cross:=it x.cross (by omega) (by omega)
  have c_notice:=it x.notice (by omega) (by omega)
  have c_sink:=it x.sink (by omega) (by omega)
  have c_majority:=it x.majority (by omega) (by omega)
  have c_fast:=it x.fast (by omega) (by omega)
  have hcou:=show2_ok 12 x.coupon 0 (by decide) (by decide) R.coupon hx.coupon
  have hcl:=show12_len _ R.coupon hx.coupon
  have n1:=name_len R.name
  have n2:=name_len R.issuer
  have dl1:=dayT_len r1.1 r1.2
  have dl2:=dayT_len r2.1 r2.2
  have i1:=il x.face (by omega) (by omega)
  have i2:=il x.every (by omega) (by omega)
  have i3:=il x.record (by omega) (by omega)
  have i4:=il x.rank (by omega) (by omega)
  have i5:=il x.cap (by omega) (by omega)
  have i6:=il x.cross (by omega) (by omega)
  have i7:=il x.notice (by omega) (by omega)
  have i8:=il x.sink (by omega) (by omega)
  have i9:=il x.majority (by omega) (by omega)
  have i10:=il x.fast (by omega) (by omega)
  have cl:=cnt_len x.count.toNat
  have al:=adj_len x.adjust.toNat
  have e3:cntW.length=3:=rfl
  have e4:adjW.length=4:=rfl
  have LH:LOk 7 (headW x):=LOk.snoc (LOk.snoc (LOk.snoc (LOk.snoc (LOk.snoc (LOk.snoc (LOk.snoc LOk.nil w1) w2) w3) w4) w5) w6) w7
  have LM:LOk 2 (midW x):=LOk.snoc (LOk.snoc LOk.nil w8) w9
  have LF:LOk 1 (favW x):=by unfold favW;split;exact LOk.snoc LOk.nil w10;exact ⟨by simp,fun w hw=>by cases hw⟩
  have LX:LOk 1 (croW x):=by unfold croW;split;exact LOk.snoc LOk.nil w11;exact ⟨by simp,fun w hw=>by cases hw⟩
  have LN:LOk 1 (notW x):=by unfold notW;split;exact LOk.snoc LOk.nil w12;exact ⟨by simp,fun w hw=>by cases hw⟩
  have LS:LOk 1 (sinW x):=by unfold sinW;split;exact LOk.snoc LOk.nil w13;exact ⟨by simp,fun w hw=>by cases hw⟩
  have LE:LOk 2 (endW x):=LOk.snoc (LOk.snoc LOk.nil w14) w15
  have Llet:∀ k,LOk 20 ((x.lets.take k).map letW):=fun k=>⟨by rw [List.length_map,List.length_take];omega,fun w hw=>by
   obtain ⟨l,hl,rfl⟩:=List.mem_map.1 hw
   have hm:=List.mem_of_mem_take hl
   exact letW_ok (uniq_name R.ulets (List.mem_map_of_mem hm)) (R.lets l hm) (hx.let1 l hm).2⟩
  have Lcov:∀ k,LOk 20 ((x.cov.take k).map covW):=fun k=>⟨by rw [List.length_map,List.length_take];omega,fun w hw=>by
   obtain ⟨l,hl,rfl⟩:=List.mem_map.1 hw
   have hm:=List.mem_of_mem_take hl
   exact covW_ok (uniq_name R.ucov (List.mem_map_of_mem hm)) (R.cov l hm).1 (hx.cov1 l hm).2.1 (R.cov l hm).2.1 (R.cov l hm).2.2⟩
  have Lcal:∀ k,LOk 20 ((x.calls.take k).map callW):=fun k=>⟨by rw [List.length_map,List.length_take];omega,fun w hw=>by
   obtain ⟨c,hc,rfl⟩:=List.mem_map.1 hw
   exact callW_ok (R.calls c (List.mem_of_mem_take hc))⟩
  have LA:LOk 27 (headW x++x.lets.map letW):=by have:=LH.app (Llet x.lets.length);rw [List.take_length] at this;exact this
  have LB:=LA.app LM
  have LC:LOk 49 (headW x++x.lets.map letW++midW x++x.cov.map covW):=by have:=LB.app (Lcov x.cov.length);rw [List.take_length] at this;exact this
  have LD:=(LC.app LF).app LX
  have LG:LOk 71 (headW x++x.lets.map letW++midW x++x.cov.map covW++favW x++croW x++x.calls.map callW):=by have:=LD.app (Lcal x.calls.length);rw [List.take_length] at this;exact this
  have LZ:LOk 75 (linesW x):=((LG.app LN).app LS).app LE
  have hfit:=fits2_ok (txt (linesW x)) (by have:=LZ.txt (by omega);omega)
  have ta:=LA.txt (by omega)
  have tb:=LB.txt (by omega)
  have tc:=LC.txt (by omega)
  have td:=LD.txt (by omega)
  have tg:=LG.txt (by omega)
  have rc:=r5
  have ra:=r6
  have z1:x.lets.length≤20:=by omega
  have z2:x.cov.length≤20:=by omega
  have z3:x.calls.length≤20:=by omega
  have z4:x.favour.length≤20:=by omega
  clear r1 r2 r3 r4 r5 r6 r7 r8 r9 r10 r11 r12 r13 r14 ll lc lf lk it il
  refine aO (cxOk 191 [0,1,2,3,4,5,6,7,8,11,70,97,111,118,133,145,158,168]) Tryz.func30 ?_
  conv=>whnf
  refine cO (fun _=>h) ?_
  conv=>whnf
  refine gF ?_
  conv=>whnf
  refine .quiet (by kernel_rfl) ?_
  conv=>whnf
  refine And.intro aa0 ?_
  conv=>whnf
  refine And.intro aa0 ?_
  conv=>whnf
  refine And.intro aa0 ?_
  conv=>whnf
  refine And.intro aa0 ?_
  conv=>whnf
  refine .mk _ _ _ _ (fun _=>c_face) ah0 rfl ?_
  conv=>whnf
  refine And.intro aa0 ?_
  conv=>whnf
  refine And.intro aa0 ?_
  conv=>whnf
  refine .mk _ _ _ _ (fun _=>d1) ah0 rfl ?_
  conv=>whnf
  refine And.intro aa0 ?_
  conv=>whnf
  refine And.intro aa0 ?_
  conv=>whnf
  refine .mk _ _ _ _ (fun _=>d2) ah0 rfl ?_
  conv=>whnf
  refine And.intro aa0 ?_
  conv=>whnf
  refine And.intro aa0 ?_
  conv=>whnf
  refine .mk _ _ _ _ (fun _=>c_every) ah0 rfl ?_
  conv=>whnf
  refine And.intro aa0 ?_
  conv=>whnf
  refine And.intro aa0 ?_
  conv=>whnf
  refine .eff af0 ?_
  conv=>whnf
  refine And.intro aa0 ?_
  conv=>whnf
  refine cO (fun _=>cnt2_ok) ?_
  conv=>whnf
  refine iO ?_;conv=>whnf
  refine And.intro rfl ?_;conv=>whnf
  refine And.intro aa0 ?_
  conv=>whnf
  refine And.intro aa0 ?_
  conv=>whnf
  refine cO (fun _=>adj2_ok) ?_
  conv=>whnf
  refine iO ?_;conv=>whnf
  refine And.intro rfl ?_;conv=>whnf
  refine And.intro aa0 ?_
  conv=>whnf
  refine And.intro aa0 ?_
  conv=>whnf
  refine cO (fun _=>c_record) ?_
  conv=>whnf
  refine And.intro aa0 ?_
  conv=>whnf
  refine And.intro aa0 ?_
  conv=>whnf
  refine cO (fun _=>c_rank) ?_
  conv=>whnf
  refine And.intro aa0 ?_
  conv=>whnf
  refine And.intro aa0 ?_
  conv=>whnf
  refine ⟨by kernel_rfl,?_⟩
  conv=>whnf
  refine loop_up (cxOk _ _) x.lets.length (fun _=>True) (fun k=>⟨[(1,.ptr 0 0),(2,.str []),(3,.int .i64 0),(4,.str (txt (headW x++(x.lets.take k).map letW))),(5,.int .i64 (k:Nat))],[(0,.cells 31 (celX x))],1⟩) trivial ((wk_of [(0,.id 0)] rfl ⟨wb0,wa0,wa0,.base (.tree _ _ (congrArg AV.str (by simp only [headW,List.take_zero,List.map_nil,txt_cons,txt_nil,line2,line4,line7,List.append_assoc,List.cons_append,List.nil_append,List.append_nil])) rfl),wa0,trivial⟩ ⟨wc0,trivial⟩)) ?_
  intro k hk _
  conv=>whnf
  refine ⟨fun hd=>?_,fun hd=>?_⟩
  ·have hd:=of_decide_eq_true hd
   have hlt:k<x.lets.length:=by omega
   have hek:(k:Int).toNat=k:=Int.toNat_natCast k
   have hm:x.lets.getD k l0∈x.lets:=getD_mem hlt
   have hfn:=letfn_ok _ (uniq_name R.ulets (List.mem_map_of_mem hm)) (R.lets _ hm) (hx.let1 _ hm).2
   have hwl:=(letW_ok (uniq_name R.ulets (List.mem_map_of_mem hm)) (R.lets _ hm) (hx.let1 _ hm).2).line
   have htl:=(LH.app (Llet k)).txt (by omega)
   conv=>whnf
   refine iO ?_;conv=>whnf
   refine And.intro rfl ?_;conv=>whnf
   rw [hek]
   conv=>whnf
   refine cO (fun _=>hfn) ?_
   conv=>whnf
   refine And.intro aa0 ?_
   conv=>whnf
   refine iO ?_
   conv=>whnf
   refine up hlt trivial ((wk_of [(0,.id 0)] rfl ⟨wb0,wa0,wa0,.base (.tree _ _ (congrArg AV.str (by rw [take_getD (d:=l0) hlt,List.map_append,← List.append_assoc];exact (txt_snoc _ _).symm)) rfl),wa0,trivial⟩ ⟨wc0,trivial⟩))
  have hd:=of_decide_eq_false hd
  obtain rfl:k=x.lets.length:=by omega
  conv=>whnf
  rw [List.take_length]
  refine .quiet (by kernel_rfl) ?_
  conv=>whnf
  refine And.intro aa0 ?_
  conv=>whnf
  refine .mk _ _ _ _ (fun _=>hcou) ah0 rfl ?_
  conv=>whnf
  refine And.intro aa0 ?_
  conv=>whnf
  refine And.intro aa0 ?_
  conv=>whnf
  refine .mk _ _ _ _ (fun _=>c_cap) ah0 rfl ?_
  conv=>whnf
  refine And.intro aa0 ?_
  conv=>whnf
  refine And.intro aa0 ?_
  conv=>whnf
  refine loop_up (cxOk _ _) x.cov.length (fun _=>True) (fun k=>⟨[(1,.ptr 0 0),(2,.str []),(3,.int .i64 0),(4,.str (txt (headW x++x.lets.map letW++midW x++(x.cov.take k).map covW))),(6,.int .i64 (k:Nat))],[(0,.cells 31 (celX x))],1⟩) trivial ((wk_of [(0,.id 0)] rfl ⟨wb0,wa0,wa0,.base (.tree _ _ (congrArg AV.str (by rw [List.take_zero,List.map_nil,List.append_nil,txt_app (headW x++x.lets.map letW) (midW x)];simp only [midW,txt_cons,txt_nil,line2,List.append_assoc,List.cons_append,List.nil_append,List.append_nil])) rfl),wa0,trivial⟩ ⟨wc0,trivial⟩)) ?_
  intro k hk _
  conv=>whnf
  refine ⟨fun hd=>?_,fun hd=>?_⟩
  ·have hd:=of_decide_eq_true hd
   have hlt:k<x.cov.length:=by omega
   have hek:(k:Int).toNat=k:=Int.toNat_natCast k
   have hm:x.cov.getD k c0∈x.cov:=getD_mem hlt
   have hg:=(R.cov _ hm).2
   have hfn:=covfn_ok _ (uniq_name R.ucov (List.mem_map_of_mem hm)) (R.cov _ hm).1 (hx.cov1 _ hm).2.1 ⟨by omega,by omega⟩
   have hwl:=(covW_ok (uniq_name R.ucov (List.mem_map_of_mem hm)) (R.cov _ hm).1 (hx.cov1 _ hm).2.1 hg.1 hg.2).line
   have htl:=(LB.app (Lcov k)).txt (by omega)
   conv=>whnf
   refine iO ?_;conv=>whnf
   refine And.intro rfl ?_;conv=>whnf
   rw [hek]
   conv=>whnf
   refine cO (fun _=>hfn) ?_
   conv=>whnf
   refine And.intro aa0 ?_
   conv=>whnf
   refine iO ?_
   conv=>whnf
   refine up hlt trivial ((wk_of [(0,.id 0)] rfl ⟨wb0,wa0,wa0,.base (.tree _ _ (congrArg AV.str (by rw [take_getD (d:=c0) hlt,List.map_append,← List.append_assoc];exact (txt_snoc _ _).symm)) rfl),wa0,trivial⟩ ⟨wc0,trivial⟩))
  have hd:=of_decide_eq_false hd
  obtain rfl:k=x.cov.length:=by omega
  conv=>whnf
  rw [List.take_length]
  have E1:txt (headW x++x.lets.map letW++midW x++x.cov.map covW++favW x++croW x)=txt (headW x++x.lets.map letW++midW x++x.cov.map covW)++txt (favW x)++txt (croW x):=by rw [txt_app,txt_app]
  have E2:txt (linesW x)=txt (headW x++x.lets.map letW++midW x++x.cov.map covW++favW x++croW x++x.calls.map callW)++txt (notW x)++txt (sinW x)++txt (endW x):=by unfold linesW;rw [txt_app,txt_app,txt_app]
  generalize hgC:txt (headW x++x.lets.map letW++midW x++x.cov.map covW)=tC at *
  have fvl:(tailT x.favour).length≤420:=by have h1:=tail_len x.favour (fun s hs=>name_len (uniq_name R.fav hs));have:x.favour.length*21≤20*21:=Nat.mul_le_mul_right _ (by omega);omega
  refine ⟨fun hf=>?_,fun hf=>?_⟩
  ·have hf:=of_decide_eq_true hf
   have qf:favW x=[[102,97,118,111,117,114]::x.favour]:=by unfold favW;rw [if_pos (by omega)]
   conv=>whnf
   refine And.intro aa0 ?_
   conv=>whnf
   refine loop_up (cxOk _ _) x.favour.length (fun _=>True) (fun k=>⟨[(1,.ptr 0 0),(2,.str []),(3,.int .i64 0),(4,.str (tC++[102,97,118,111,117,114]++tailT (x.favour.take k))),(7,.int .i64 (k:Nat))],[(0,.cells 31 (celX x))],1⟩) trivial ((wk_of [(0,.id 0)] rfl ⟨wb0,wa0,wa0,.base (.tree _ _ (congrArg AV.str (by simp [tailT,Lib.joinTail])) rfl),wa0,trivial⟩ ⟨wc0,trivial⟩)) ?_
   intro k hk _
   conv=>whnf
   refine ⟨fun hd=>?_,fun hd=>?_⟩
   ·have hd:=of_decide_eq_true hd
    have hlt:k<x.favour.length:=by omega
    have hek:(k:Int).toNat=k:=Int.toNat_natCast k
    have hm:x.favour.getD k []∈x.favour:=getD_mem hlt
    have hsl:=name_len (uniq_name R.fav hm)
    have htl:(tailT (x.favour.take k)).length≤420:=by have h1:=tail_len (x.favour.take k) (fun s hs=>name_len (uniq_name R.fav (List.mem_of_mem_take hs)));have:(x.favour.take k).length*21≤20*21:=Nat.mul_le_mul_right _ (by rw [List.length_take];omega);omega
    conv=>whnf
    refine And.intro aa0 ?_
    conv=>whnf
    refine iO ?_;conv=>whnf
    refine And.intro rfl ?_;conv=>whnf
    rw [hek]
    conv=>whnf
    refine And.intro aa0 ?_
    conv=>whnf
    refine iO ?_
    conv=>whnf
    refine up hlt trivial ((wk_of [(0,.id 0)] rfl ⟨wb0,wa0,wa0,.base (.tree _ _ (congrArg AV.str (by rw [take_getD (d:=[]) hlt,tail_snoc];simp only [List.append_assoc,List.cons_append,List.nil_append])) rfl),wa0,trivial⟩ ⟨wc0,trivial⟩))
   have hd:=of_decide_eq_false hd
   obtain rfl:k=x.favour.length:=by omega
   conv=>whnf
   rw [List.take_length]
   refine And.intro aa0 ?_
   conv=>whnf
   refine ⟨fun hc=>?_,fun hc=>?_⟩
   ·have hc:=of_decide_eq_true hc
    have qc:croW x=[[[99,114,111,115,115],Lib.itoa x.cross]]:=by unfold croW;rw [if_pos (by omega)]
    conv=>whnf
    refine And.intro aa0 ?_
    conv=>whnf
    refine cO (fun _=>c_cross) ?_
    conv=>whnf
    refine And.intro aa0 ?_
    conv=>whnf
    refine And.intro aa0 ?_
    conv=>whnf
    refine loop_up (cxOk _ _) x.calls.length (fun _=>True) (fun k=>⟨[(1,.ptr 0 0),(2,.str []),(3,.int .i64 0),(4,.str (txt (headW x++x.lets.map letW++midW x++x.cov.map covW++favW x++croW x++(x.calls.take k).map callW))),(8,.int .i64 (k:Nat))],[(0,.cells 31 (celX x))],1⟩) trivial ((wk_of [(0,.id 0)] rfl ⟨wb0,wa0,wa0,.base (.tree _ _ (congrArg AV.str (by rw [List.take_zero,List.map_nil,List.append_nil,E1,qf,qc];simp only [txt_cons,txt_nil,line2,lineF,List.append_assoc,List.cons_append,List.nil_append,List.append_nil])) rfl),wa0,trivial⟩ ⟨wc0,trivial⟩)) ?_
    intro k hk _
    conv=>whnf
    refine ⟨fun hd=>?_,fun hd=>?_⟩
    ·have hd:=of_decide_eq_true hd
     have hlt:k<x.calls.length:=by omega
     have hek:(k:Int).toNat=k:=Int.toNat_natCast k
     have hm:x.calls.getD k k0∈x.calls:=getD_mem hlt
     have hfn:=callfn_ok _ (R.calls _ hm)
     have hwl:=(callW_ok (R.calls _ hm)).line
     have htl:=(LD.app (Lcal k)).txt (by omega)
     conv=>whnf
     refine iO ?_;conv=>whnf
     refine And.intro rfl ?_;conv=>whnf
     rw [hek]
     conv=>whnf
     refine cO (fun _=>hfn) ?_
     conv=>whnf
     refine And.intro aa0 ?_
     conv=>whnf
     refine iO ?_
     conv=>whnf
     refine up hlt trivial ((wk_of [(0,.id 0)] rfl ⟨wb0,wa0,wa0,.base (.tree _ _ (congrArg AV.str (by rw [take_getD (d:=k0) hlt,List.map_append,← List.append_assoc];exact (txt_snoc _ _).symm)) rfl),wa0,trivial⟩ ⟨wc0,trivial⟩))
    have hd:=of_decide_eq_false hd
    obtain rfl:k=x.calls.length:=by omega
    conv=>whnf
    rw [List.take_length]
    refine ⟨fun hn=>?_,fun hn=>?_⟩
    ·have hn:=of_decide_eq_true hn
     have qn:notW x=[[[110,111,116,105,99,101],Lib.itoa x.notice]]:=by unfold notW;rw [if_pos (by omega)]
     conv=>whnf
     refine And.intro aa0 ?_
     conv=>whnf
     refine cO (fun _=>c_notice) ?_
     conv=>whnf
     refine And.intro aa0 ?_
     conv=>whnf
     refine And.intro aa0 ?_
     conv=>whnf
     refine ⟨fun hs=>?_,fun hs=>?_⟩
     ·have hs:=of_decide_eq_true hs
      have qs:sinW x=[[[115,105,110,107],Lib.itoa x.sink]]:=by unfold sinW;rw [if_pos (by omega)]
      conv=>whnf
      refine And.intro aa0 ?_
      conv=>whnf
      refine cO (fun _=>c_sink) ?_
      conv=>whnf
      refine And.intro aa0 ?_
      conv=>whnf
      refine And.intro aa0 ?_
      conv=>whnf
      refine .eff af0 ?_
      conv=>whnf
      refine And.intro aa0 ?_
      conv=>whnf
      refine cO (fun _=>c_majority) ?_
      conv=>whnf
      refine And.intro aa0 ?_
      conv=>whnf
      refine And.intro aa0 ?_
      conv=>whnf
      refine cO (fun _=>c_fast) ?_
      conv=>whnf
      refine And.intro aa0 ?_
      conv=>whnf
      refine And.intro aa0 ?_
      conv=>whnf
      refine .one _ _ _ (fun _=>hfit) (.cons (lsEq (t:=txt (linesW x)) (by rw [E2,qn,qs];simp only [endW,txt_cons,txt_nil,line2,List.append_assoc,List.cons_append,List.nil_append,List.append_nil])) .nil) (.inl rfl) (.inl rfl) ?_
      conv=>whnf
      refine ⟨by kernel_rfl,?_⟩
      conv=>whnf
      rfl
     ·have hs:=of_decide_eq_false hs
      have qs:sinW x=[]:=by unfold sinW;rw [if_neg (by omega)]
      conv=>whnf
      refine .eff af0 ?_
      conv=>whnf
      refine And.intro aa0 ?_
      conv=>whnf
      refine cO (fun _=>c_majority) ?_
      conv=>whnf
      refine And.intro aa0 ?_
      conv=>whnf
      refine And.intro aa0 ?_
      conv=>whnf
      refine cO (fun _=>c_fast) ?_
      conv=>whnf
      refine And.intro aa0 ?_
      conv=>whnf
      refine And.intro aa0 ?_
      conv=>whnf
      refine .one _ _ _ (fun _=>hfit) (.cons (lsEq (t:=txt (linesW x)) (by rw [E2,qn,qs];simp only [endW,txt_cons,txt_nil,line2,List.append_assoc,List.cons_append,List.nil_append,List.append_nil])) .nil) (.inl rfl) (.inl rfl) ?_
      conv=>whnf
      refine ⟨by kernel_rfl,?_⟩
      conv=>whnf
      rfl
    ·have hn:=of_decide_eq_false hn
     have qn:notW x=[]:=by unfold notW;rw [if_neg (by omega)]
     conv=>whnf
     refine ⟨fun hs=>?_,fun hs=>?_⟩
     ·have hs:=of_decide_eq_true hs
      have qs:sinW x=[[[115,105,110,107],Lib.itoa x.sink]]:=by unfold sinW;rw [if_pos (by omega)]
      conv=>whnf
      refine And.intro aa0 ?_
      conv=>whnf
      refine cO (fun _=>c_sink) ?_
      conv=>whnf
      refine And.intro aa0 ?_
      conv=>whnf
      refine And.intro aa0 ?_
      conv=>whnf
      refine .eff af0 ?_
      conv=>whnf
      refine And.intro aa0 ?_
      conv=>whnf
      refine cO (fun _=>c_majority) ?_
      conv=>whnf
      refine And.intro aa0 ?_
      conv=>whnf
      refine And.intro aa0 ?_
      conv=>whnf
      refine cO (fun _=>c_fast) ?_
      conv=>whnf
      refine And.intro aa0 ?_
      conv=>whnf
      refine And.intro aa0 ?_
      conv=>whnf
      refine .one _ _ _ (fun _=>hfit) (.cons (lsEq (t:=txt (linesW x)) (by rw [E2,qn,qs];simp only [endW,txt_cons,txt_nil,line2,List.append_assoc,List.cons_append,List.nil_append,List.append_nil])) .nil) (.inl rfl) (.inl rfl) ?_
      conv=>whnf
      refine ⟨by kernel_rfl,?_⟩
      conv=>whnf
      rfl
     ·have hs:=of_decide_eq_false hs
      have qs:sinW x=[]:=by unfold sinW;rw [if_neg (by omega)]
      conv=>whnf
      refine .eff af0 ?_
      conv=>whnf
      refine And.intro aa0 ?_
      conv=>whnf
      refine cO (fun _=>c_majority) ?_
      conv=>whnf
      refine And.intro aa0 ?_
      conv=>whnf
      refine And.intro aa0 ?_
      conv=>whnf
      refine cO (fun _=>c_fast) ?_
      conv=>whnf
      refine And.intro aa0 ?_
      conv=>whnf
      refine And.intro aa0 ?_
      conv=>whnf
      refine .one _ _ _ (fun _=>hfit) (.cons (lsEq (t:=txt (linesW x)) (by rw [E2,qn,qs];simp only [endW,txt_cons,txt_nil,line2,List.append_assoc,List.cons_append,List.nil_append,List.append_nil])) .nil) (.inl rfl) (.inl rfl) ?_
      conv=>whnf
      refine ⟨by kernel_rfl,?_⟩
      conv=>whnf
      rfl
   ·have hc:=of_decide_eq_false hc
    have qc:croW x=[]:=by unfold croW;rw [if_neg (by omega)]
    conv=>whnf
    refine loop_up (cxOk _ _) x.calls.length (fun _=>True) (fun k=>⟨[(1,.ptr 0 0),(2,.str []),(3,.int .i64 0),(4,.str (txt (headW x++x.lets.map letW++midW x++x.cov.map covW++favW x++croW x++(x.calls.take k).map callW))),(8,.int .i64 (k:Nat))],[(0,.cells 31 (celX x))],1⟩) trivial ((wk_of [(0,.id 0)] rfl ⟨wb0,wa0,wa0,.base (.tree _ _ (congrArg AV.str (by rw [List.take_zero,List.map_nil,List.append_nil,E1,qf,qc];simp only [txt_cons,txt_nil,line2,lineF,List.append_assoc,List.cons_append,List.nil_append,List.append_nil])) rfl),wa0,trivial⟩ ⟨wc0,trivial⟩)) ?_
    intro k hk _
    conv=>whnf
    refine ⟨fun hd=>?_,fun hd=>?_⟩
    ·have hd:=of_decide_eq_true hd
     have hlt:k<x.calls.length:=by omega
     have hek:(k:Int).toNat=k:=Int.toNat_natCast k
     have hm:x.calls.getD k k0∈x.calls:=getD_mem hlt
     have hfn:=callfn_ok _ (R.calls _ hm)
     have hwl:=(callW_ok (R.calls _ hm)).line
     have htl:=(LD.app (Lcal k)).txt (by omega)
     conv=>whnf
     refine iO ?_;conv=>whnf
     refine And.intro rfl ?_;conv=>whnf
     rw [hek]
     conv=>whnf
     refine cO (fun _=>hfn) ?_
     conv=>whnf
     refine And.intro aa0 ?_
     conv=>whnf
     refine iO ?_
     conv=>whnf
     refine up hlt trivial ((wk_of [(0,.id 0)] rfl ⟨wb0,wa0,wa0,.base (.tree _ _ (congrArg AV.str (by rw [take_getD (d:=k0) hlt,List.map_append,← List.append_assoc];exact (txt_snoc _ _).symm)) rfl),wa0,trivial⟩ ⟨wc0,trivial⟩))
    have hd:=of_decide_eq_false hd
    obtain rfl:k=x.calls.length:=by omega
    conv=>whnf
    rw [List.take_length]
    refine ⟨fun hn=>?_,fun hn=>?_⟩
    ·have hn:=of_decide_eq_true hn
     have qn:notW x=[[[110,111,116,105,99,101],Lib.itoa x.notice]]:=by unfold notW;rw [if_pos (by omega)]
     conv=>whnf
     refine And.intro aa0 ?_
     conv=>whnf
     refine cO (fun _=>c_notice) ?_
     conv=>whnf
     refine And.intro aa0 ?_
     conv=>whnf
     refine And.intro aa0 ?_
     conv=>whnf
     refine ⟨fun hs=>?_,fun hs=>?_⟩
     ·have hs:=of_decide_eq_true hs
      have qs:sinW x=[[[115,105,110,107],Lib.itoa x.sink]]:=by unfold sinW;rw [if_pos (by omega)]
      conv=>whnf
      refine And.intro aa0 ?_
      conv=>whnf
      refine cO (fun _=>c_sink) ?_
      conv=>whnf
      refine And.intro aa0 ?_
      conv=>whnf
      refine And.intro aa0 ?_
      conv=>whnf
      refine .eff af0 ?_
      conv=>whnf
      refine And.intro aa0 ?_
      conv=>whnf
      refine cO (fun _=>c_majority) ?_
      conv=>whnf
      refine And.intro aa0 ?_
      conv=>whnf
      refine And.intro aa0 ?_
      conv=>whnf
      refine cO (fun _=>c_fast) ?_
      conv=>whnf
      refine And.intro aa0 ?_
      conv=>whnf
      refine And.intro aa0 ?_
      conv=>whnf
      refine .one _ _ _ (fun _=>hfit) (.cons (lsEq (t:=txt (linesW x)) (by rw [E2,qn,qs];simp only [endW,txt_cons,txt_nil,line2,List.append_assoc,List.cons_append,List.nil_append,List.append_nil])) .nil) (.inl rfl) (.inl rfl) ?_
      conv=>whnf
      refine ⟨by kernel_rfl,?_⟩
      conv=>whnf
      rfl
     ·have hs:=of_decide_eq_false hs
      have qs:sinW x=[]:=by unfold sinW;rw [if_neg (by omega)]
      conv=>whnf
      refine .eff af0 ?_
      conv=>whnf
      refine And.intro aa0 ?_
      conv=>whnf
      refine cO (fun _=>c_majority) ?_
      conv=>whnf
      refine And.intro aa0 ?_
      conv=>whnf
      refine And.intro aa0 ?_
      conv=>whnf
      refine cO (fun _=>c_fast) ?_
      conv=>whnf
      refine And.intro aa0 ?_
      conv=>whnf
      refine And.intro aa0 ?_
      conv=>whnf
      refine .one _ _ _ (fun _=>hfit) (.cons (lsEq (t:=txt (linesW x)) (by rw [E2,qn,qs];simp only [endW,txt_cons,txt_nil,line2,List.append_assoc,List.cons_append,List.nil_append,List.append_nil])) .nil) (.inl rfl) (.inl rfl) ?_
      conv=>whnf
      refine ⟨by kernel_rfl,?_⟩
      conv=>whnf
      rfl
    ·have hn:=of_decide_eq_false hn
     have qn:notW x=[]:=by unfold notW;rw [if_neg (by omega)]
     conv=>whnf
     refine ⟨fun hs=>?_,fun hs=>?_⟩
     ·have hs:=of_decide_eq_true hs
      have qs:sinW x=[[[115,105,110,107],Lib.itoa x.sink]]:=by unfold sinW;rw [if_pos (by omega)]
      conv=>whnf
      refine And.intro aa0 ?_
      conv=>whnf
      refine cO (fun _=>c_sink) ?_
      conv=>whnf
      refine And.intro aa0 ?_
      conv=>whnf
      refine And.intro aa0 ?_
      conv=>whnf
      refine .eff af0 ?_
      conv=>whnf
      refine And.intro aa0 ?_
      conv=>whnf
      refine cO (fun _=>c_majority) ?_
      conv=>whnf
      refine And.intro aa0 ?_
      conv=>whnf
      refine And.intro aa0 ?_
      conv=>whnf
      refine cO (fun _=>c_fast) ?_
      conv=>whnf
      refine And.intro aa0 ?_
      conv=>whnf
      refine And.intro aa0 ?_
      conv=>whnf
      refine .one _ _ _ (fun _=>hfit) (.cons (lsEq (t:=txt (linesW x)) (by rw [E2,qn,qs];simp only [endW,txt_cons,txt_nil,line2,List.append_assoc,List.cons_append,List.nil_append,List.append_nil])) .nil) (.inl rfl) (.inl rfl) ?_
      conv=>whnf
      refine ⟨by kernel_rfl,?_⟩
      conv=>whnf
      rfl
     ·have hs:=of_decide_eq_false hs
      have qs:sinW x=[]:=by unfold sinW;rw [if_neg (by omega)]
      conv=>whnf
      refine .eff af0 ?_
      conv=>whnf
      refine And.intro aa0 ?_
      conv=>whnf
      refine cO (fun _=>c_majority) ?_
      conv=>whnf
      refine And.intro aa0 ?_
      conv=>whnf
      refine And.intro aa0 ?_
      conv=>whnf
      refine cO (fun _=>c_fast) ?_
      conv=>whnf
      refine And.intro aa0 ?_
      conv=>whnf
      refine And.intro aa0 ?_
      conv=>whnf
      refine .one _ _ _ (fun _=>hfit) (.cons (lsEq (t:=txt (linesW x)) (by rw [E2,qn,qs];simp only [endW,txt_cons,txt_nil,line2,List.append_assoc,List.cons_append,List.nil_append,List.append_nil])) .nil) (.inl rfl) (.inl rfl) ?_
      conv=>whnf
      refine ⟨by kernel_rfl,?_⟩
      conv=>whnf
      rfl
  ·have hf:=of_decide_eq_false hf
   have qf:favW x=[]:=by unfold favW;rw [if_neg (by omega)]
   conv=>whnf
   refine ⟨fun hc=>?_,fun hc=>?_⟩
   ·have hc:=of_decide_eq_true hc
    have qc:croW x=[[[99,114,111,115,115],Lib.itoa x.cross]]:=by unfold croW;rw [if_pos (by omega)]
    conv=>whnf
    refine And.intro aa0 ?_
    conv=>whnf
    refine cO (fun _=>c_cross) ?_
    conv=>whnf
    refine And.intro aa0 ?_
    conv=>whnf
    refine And.intro aa0 ?_
    conv=>whnf
    refine loop_up (cxOk _ _) x.calls.length (fun _=>True) (fun k=>⟨[(1,.ptr 0 0),(2,.str []),(3,.int .i64 0),(4,.str (txt (headW x++x.lets.map letW++midW x++x.cov.map covW++favW x++croW x++(x.calls.take k).map callW))),(8,.int .i64 (k:Nat))],[(0,.cells 31 (celX x))],1⟩) trivial ((wk_of [(0,.id 0)] rfl ⟨wb0,wa0,wa0,.base (.tree _ _ (congrArg AV.str (by rw [List.take_zero,List.map_nil,List.append_nil,E1,qf,qc];simp only [txt_cons,txt_nil,line2,lineF,List.append_assoc,List.cons_append,List.nil_append,List.append_nil])) rfl),wa0,trivial⟩ ⟨wc0,trivial⟩)) ?_
    intro k hk _
    conv=>whnf
    refine ⟨fun hd=>?_,fun hd=>?_⟩
    ·have hd:=of_decide_eq_true hd
     have hlt:k<x.calls.length:=by omega
     have hek:(k:Int).toNat=k:=Int.toNat_natCast k
     have hm:x.calls.getD k k0∈x.calls:=getD_mem hlt
     have hfn:=callfn_ok _ (R.calls _ hm)
     have hwl:=(callW_ok (R.calls _ hm)).line
     have htl:=(LD.app (Lcal k)).txt (by omega)
     conv=>whnf
     refine iO ?_;conv=>whnf
     refine And.intro rfl ?_;conv=>whnf
     rw [hek]
     conv=>whnf
     refine cO (fun _=>hfn) ?_
     conv=>whnf
     refine And.intro aa0 ?_
     conv=>whnf
     refine iO ?_
     conv=>whnf
     refine up hlt trivial ((wk_of [(0,.id 0)] rfl ⟨wb0,wa0,wa0,.base (.tree _ _ (congrArg AV.str (by rw [take_getD (d:=k0) hlt,List.map_append,← List.append_assoc];exact (txt_snoc _ _).symm)) rfl),wa0,trivial⟩ ⟨wc0,trivial⟩))
    have hd:=of_decide_eq_false hd
    obtain rfl:k=x.calls.length:=by omega
    conv=>whnf
    rw [List.take_length]
    refine ⟨fun hn=>?_,fun hn=>?_⟩
    ·have hn:=of_decide_eq_true hn
     have qn:notW x=[[[110,111,116,105,99,101],Lib.itoa x.notice]]:=by unfold notW;rw [if_pos (by omega)]
     conv=>whnf
     refine And.intro aa0 ?_
     conv=>whnf
     refine cO (fun _=>c_notice) ?_
     conv=>whnf
     refine And.intro aa0 ?_
     conv=>whnf
     refine And.intro aa0 ?_
     conv=>whnf
     refine ⟨fun hs=>?_,fun hs=>?_⟩
     ·have hs:=of_decide_eq_true hs
      have qs:sinW x=[[[115,105,110,107],Lib.itoa x.sink]]:=by unfold sinW;rw [if_pos (by omega)]
      conv=>whnf
      refine And.intro aa0 ?_
      conv=>whnf
      refine cO (fun _=>c_sink) ?_
      conv=>whnf
      refine And.intro aa0 ?_
      conv=>whnf
      refine And.intro aa0 ?_
      conv=>whnf
      refine .eff af0 ?_
      conv=>whnf
      refine And.intro aa0 ?_
      conv=>whnf
      refine cO (fun _=>c_majority) ?_
      conv=>whnf
      refine And.intro aa0 ?_
      conv=>whnf
      refine And.intro aa0 ?_
      conv=>whnf
      refine cO (fun _=>c_fast) ?_
      conv=>whnf
      refine And.intro aa0 ?_
      conv=>whnf
      refine And.intro aa0 ?_
      conv=>whnf
      refine .one _ _ _ (fun _=>hfit) (.cons (lsEq (t:=txt (linesW x)) (by rw [E2,qn,qs];simp only [endW,txt_cons,txt_nil,line2,List.append_assoc,List.cons_append,List.nil_append,List.append_nil])) .nil) (.inl rfl) (.inl rfl) ?_
      conv=>whnf
      refine ⟨by kernel_rfl,?_⟩
      conv=>whnf
      rfl
     ·have hs:=of_decide_eq_false hs
      have qs:sinW x=[]:=by unfold sinW;rw [if_neg (by omega)]
      conv=>whnf
      refine .eff af0 ?_
      conv=>whnf
      refine And.intro aa0 ?_
      conv=>whnf
      refine cO (fun _=>c_majority) ?_
      conv=>whnf
      refine And.intro aa0 ?_
      conv=>whnf
      refine And.intro aa0 ?_
      conv=>whnf
      refine cO (fun _=>c_fast) ?_
      conv=>whnf
      refine And.intro aa0 ?_
      conv=>whnf
      refine And.intro aa0 ?_
      conv=>whnf
      refine .one _ _ _ (fun _=>hfit) (.cons (lsEq (t:=txt (linesW x)) (by rw [E2,qn,qs];simp only [endW,txt_cons,txt_nil,line2,List.append_assoc,List.cons_append,List.nil_append,List.append_nil])) .nil) (.inl rfl) (.inl rfl) ?_
      conv=>whnf
      refine ⟨by kernel_rfl,?_⟩
      conv=>whnf
      rfl
    ·have hn:=of_decide_eq_false hn
     have qn:notW x=[]:=by unfold notW;rw [if_neg (by omega)]
     conv=>whnf
     refine ⟨fun hs=>?_,fun hs=>?_⟩
     ·have hs:=of_decide_eq_true hs
      have qs:sinW x=[[[115,105,110,107],Lib.itoa x.sink]]:=by unfold sinW;rw [if_pos (by omega)]
      conv=>whnf
      refine And.intro aa0 ?_
      conv=>whnf
      refine cO (fun _=>c_sink) ?_
      conv=>whnf
      refine And.intro aa0 ?_
      conv=>whnf
      refine And.intro aa0 ?_
      conv=>whnf
      refine .eff af0 ?_
      conv=>whnf
      refine And.intro aa0 ?_
      conv=>whnf
      refine cO (fun _=>c_majority) ?_
      conv=>whnf
      refine And.intro aa0 ?_
      conv=>whnf
      refine And.intro aa0 ?_
      conv=>whnf
      refine cO (fun _=>c_fast) ?_
      conv=>whnf
      refine And.intro aa0 ?_
      conv=>whnf
      refine And.intro aa0 ?_
      conv=>whnf
      refine .one _ _ _ (fun _=>hfit) (.cons (lsEq (t:=txt (linesW x)) (by rw [E2,qn,qs];simp only [endW,txt_cons,txt_nil,line2,List.append_assoc,List.cons_append,List.nil_append,List.append_nil])) .nil) (.inl rfl) (.inl rfl) ?_
      conv=>whnf
      refine ⟨by kernel_rfl,?_⟩
      conv=>whnf
      rfl
     ·have hs:=of_decide_eq_false hs
      have qs:sinW x=[]:=by unfold sinW;rw [if_neg (by omega)]
      conv=>whnf
      refine .eff af0 ?_
      conv=>whnf
      refine And.intro aa0 ?_
      conv=>whnf
      refine cO (fun _=>c_majority) ?_
      conv=>whnf
      refine And.intro aa0 ?_
      conv=>whnf
      refine And.intro aa0 ?_
      conv=>whnf
      refine cO (fun _=>c_fast) ?_
      conv=>whnf
      refine And.intro aa0 ?_
      conv=>whnf
      refine And.intro aa0 ?_
      conv=>whnf
      refine .one _ _ _ (fun _=>hfit) (.cons (lsEq (t:=txt (linesW x)) (by rw [E2,qn,qs];simp only [endW,txt_cons,txt_nil,line2,List.append_assoc,List.cons_append,List.nil_append,List.append_nil])) .nil) (.inl rfl) (.inl rfl) ?_
      conv=>whnf
      refine ⟨by kernel_rfl,?_⟩
      conv=>whnf
      rfl
   ·have hc:=of_decide_eq_false hc
    have qc:croW x=[]:=by unfold croW;rw [if_neg (by omega)]
    conv=>whnf
    refine loop_up (cxOk _ _) x.calls.length (fun _=>True) (fun k=>⟨[(1,.ptr 0 0),(2,.str []),(3,.int .i64 0),(4,.str (txt (headW x++x.lets.map letW++midW x++x.cov.map covW++favW x++croW x++(x.calls.take k).map callW))),(8,.int .i64 (k:Nat))],[(0,.cells 31 (celX x))],1⟩) trivial ((wk_of [(0,.id 0)] rfl ⟨wb0,wa0,wa0,.base (.tree _ _ (congrArg AV.str (by rw [List.take_zero,List.map_nil,List.append_nil,E1,qf,qc];simp only [txt_cons,txt_nil,line2,lineF,List.append_assoc,List.cons_append,List.nil_append,List.append_nil])) rfl),wa0,trivial⟩ ⟨wc0,trivial⟩)) ?_
    intro k hk _
    conv=>whnf
    refine ⟨fun hd=>?_,fun hd=>?_⟩
    ·have hd:=of_decide_eq_true hd
     have hlt:k<x.calls.length:=by omega
     have hek:(k:Int).toNat=k:=Int.toNat_natCast k
     have hm:x.calls.getD k k0∈x.calls:=getD_mem hlt
     have hfn:=callfn_ok _ (R.calls _ hm)
     have hwl:=(callW_ok (R.calls _ hm)).line
     have htl:=(LD.app (Lcal k)).txt (by omega)
     conv=>whnf
     refine iO ?_;conv=>whnf
     refine And.intro rfl ?_;conv=>whnf
     rw [hek]
     conv=>whnf
     refine cO (fun _=>hfn) ?_
     conv=>whnf
     refine And.intro aa0 ?_
     conv=>whnf
     refine iO ?_
     conv=>whnf
     refine up hlt trivial ((wk_of [(0,.id 0)] rfl ⟨wb0,wa0,wa0,.base (.tree _ _ (congrArg AV.str (by rw [take_getD (d:=k0) hlt,List.map_append,← List.append_assoc];exact (txt_snoc _ _).symm)) rfl),wa0,trivial⟩ ⟨wc0,trivial⟩))
    have hd:=of_decide_eq_false hd
    obtain rfl:k=x.calls.length:=by omega
    conv=>whnf
    rw [List.take_length]
    refine ⟨fun hn=>?_,fun hn=>?_⟩
    ·have hn:=of_decide_eq_true hn
     have qn:notW x=[[[110,111,116,105,99,101],Lib.itoa x.notice]]:=by unfold notW;rw [if_pos (by omega)]
     conv=>whnf
     refine And.intro aa0 ?_
     conv=>whnf
     refine cO (fun _=>c_notice) ?_
     conv=>whnf
     refine And.intro aa0 ?_
     conv=>whnf
     refine And.intro aa0 ?_
     conv=>whnf
     refine ⟨fun hs=>?_,fun hs=>?_⟩
     ·have hs:=of_decide_eq_true hs
      have qs:sinW x=[[[115,105,110,107],Lib.itoa x.sink]]:=by unfold sinW;rw [if_pos (by omega)]
      conv=>whnf
      refine And.intro aa0 ?_
      conv=>whnf
      refine cO (fun _=>c_sink) ?_
      conv=>whnf
      refine And.intro aa0 ?_
      conv=>whnf
      refine And.intro aa0 ?_
      conv=>whnf
      refine .eff af0 ?_
      conv=>whnf
      refine And.intro aa0 ?_
      conv=>whnf
      refine cO (fun _=>c_majority) ?_
      conv=>whnf
      refine And.intro aa0 ?_
      conv=>whnf
      refine And.intro aa0 ?_
      conv=>whnf
      refine cO (fun _=>c_fast) ?_
      conv=>whnf
      refine And.intro aa0 ?_
      conv=>whnf
      refine And.intro aa0 ?_
      conv=>whnf
      refine .one _ _ _ (fun _=>hfit) (.cons (lsEq (t:=txt (linesW x)) (by rw [E2,qn,qs];simp only [endW,txt_cons,txt_nil,line2,List.append_assoc,List.cons_append,List.nil_append,List.append_nil])) .nil) (.inl rfl) (.inl rfl) ?_
      conv=>whnf
      refine ⟨by kernel_rfl,?_⟩
      conv=>whnf
      rfl
     ·have hs:=of_decide_eq_false hs
      have qs:sinW x=[]:=by unfold sinW;rw [if_neg (by omega)]
      conv=>whnf
      refine .eff af0 ?_
      conv=>whnf
      refine And.intro aa0 ?_
      conv=>whnf
      refine cO (fun _=>c_majority) ?_
      conv=>whnf
      refine And.intro aa0 ?_
      conv=>whnf
      refine And.intro aa0 ?_
      conv=>whnf
      refine cO (fun _=>c_fast) ?_
      conv=>whnf
      refine And.intro aa0 ?_
      conv=>whnf
      refine And.intro aa0 ?_
      conv=>whnf
      refine .one _ _ _ (fun _=>hfit) (.cons (lsEq (t:=txt (linesW x)) (by rw [E2,qn,qs];simp only [endW,txt_cons,txt_nil,line2,List.append_assoc,List.cons_append,List.nil_append,List.append_nil])) .nil) (.inl rfl) (.inl rfl) ?_
      conv=>whnf
      refine ⟨by kernel_rfl,?_⟩
      conv=>whnf
      rfl
    ·have hn:=of_decide_eq_false hn
     have qn:notW x=[]:=by unfold notW;rw [if_neg (by omega)]
     conv=>whnf
     refine ⟨fun hs=>?_,fun hs=>?_⟩
     ·have hs:=of_decide_eq_true hs
      have qs:sinW x=[[[115,105,110,107],Lib.itoa x.sink]]:=by unfold sinW;rw [if_pos (by omega)]
      conv=>whnf
      refine And.intro aa0 ?_
      conv=>whnf
      refine cO (fun _=>c_sink) ?_
      conv=>whnf
      refine And.intro aa0 ?_
      conv=>whnf
      refine And.intro aa0 ?_
      conv=>whnf
      refine .eff af0 ?_
      conv=>whnf
      refine And.intro aa0 ?_
      conv=>whnf
      refine cO (fun _=>c_majority) ?_
      conv=>whnf
      refine And.intro aa0 ?_
      conv=>whnf
      refine And.intro aa0 ?_
      conv=>whnf
      refine cO (fun _=>c_fast) ?_
      conv=>whnf
      refine And.intro aa0 ?_
      conv=>whnf
      refine And.intro aa0 ?_
      conv=>whnf
      refine .one _ _ _ (fun _=>hfit) (.cons (lsEq (t:=txt (linesW x)) (by rw [E2,qn,qs];simp only [endW,txt_cons,txt_nil,line2,List.append_assoc,List.cons_append,List.nil_append,List.append_nil])) .nil) (.inl rfl) (.inl rfl) ?_
      conv=>whnf
      refine ⟨by kernel_rfl,?_⟩
      conv=>whnf
      rfl
     ·have hs:=of_decide_eq_false hs
      have qs:sinW x=[]:=by unfold sinW;rw [if_neg (by omega)]
      conv=>whnf
      refine .eff af0 ?_
      conv=>whnf
      refine And.intro aa0 ?_
      conv=>whnf
      refine cO (fun _=>c_majority) ?_
      conv=>whnf
      refine And.intro aa0 ?_
      conv=>whnf
      refine And.intro aa0 ?_
      conv=>whnf
      refine cO (fun _=>c_fast) ?_
      conv=>whnf
      refine And.intro aa0 ?_
      conv=>whnf
      refine And.intro aa0 ?_
      conv=>whnf
      refine .one _ _ _ (fun _=>hfit) (.cons (lsEq (t:=txt (linesW x)) (by rw [E2,qn,qs];simp only [endW,txt_cons,txt_nil,line2,List.append_assoc,List.cons_append,List.nil_append,List.append_nil])) .nil) (.inl rfl) (.inl rfl) ?_
      conv=>whnf
      refine ⟨by kernel_rfl,?_⟩
      conv=>whnf
      rfl
noncomputable instance:DecidableEq Exp:=fun _ _=>Classical.propDecidable _
noncomputable instance:DecidableEq LetE:=fun _ _=>Classical.propDecidable _
noncomputable instance:DecidableEq Cov:=fun _ _=>Classical.propDecidable _
noncomputable instance:DecidableEq CallE:=fun _ _=>Classical.propDecidable _
noncomputable instance:DecidableEq Ind:=fun _ _=>Classical.propDecidable _
theorem list_eq {α:Type} {d:α}:∀ {l r:List α},l.length=r.length→(∀ j,j<l.length→l.getD j d=r.getD j d)→l=r
 | [],[],_,_=>rfl
 | [],_::_,h,_=>by cases h
 | _::_,[],h,_=>by cases h
 | a::l,b::r,h,hj=>by
  have h0:a=b:=hj 0 (by simp)
  have h1:l=r:=list_eq (by simpa using h) fun j hl=>hj (j+1) (by simp;omega)
  rw [h0,h1]
theorem Exp.ext_iff' (a b:Exp):a=b↔a.op=b.op∧a.n=b.n∧a.unit=b.unit∧a.s=b.s∧a.args=b.args:=by
 cases a;cases b
 simp [Exp.op,Exp.n,Exp.unit,Exp.s,Exp.args]
theorem eqE_dec (a b:Exp):decide (a=b)=(decide (a.op=b.op)&&decide (a.n=b.n)&&decide (a.unit=b.unit)&&decide (a.s=b.s)&&decide (a.args=b.args)):=by
 rw [Bool.eq_iff_iff]
 simp only [Bool.and_eq_true,decide_eq_true_eq,Exp.ext_iff' a b]
 constructor
 ·rintro ⟨h1,h2,h3,h4,h5⟩;exact ⟨⟨⟨⟨h1,h2⟩,h3⟩,h4⟩,h5⟩
 ·rintro ⟨⟨⟨⟨h1,h2⟩,h3⟩,h4⟩,h5⟩;exact ⟨h1,h2,h3,h4,h5⟩
theorem eqL_dec (a b:LetE):decide (a=b)=(decide (a.name=b.name)&&decide (a.body=b.body)):=by
 rw [Bool.eq_iff_iff]
 cases a;cases b
 simp
theorem eqfE_ok (l r:List Exp) (hl:l.length≤9223372036854775807) (hr:r.length≤9223372036854775807) (hc:∀ x∈l,∀ y∈r,APureV Tryz.prog 33 [encE x,encE y] (.bool (decide (x=y)))) :
  APureV Tryz.prog 69 [.sl 5 encE ex0 l,.sl 5 encE ex0 r,.fn (.func 33) [] []] (.bool (decide (l=r))):=by
 refine aO (cxOk 32 [0,1,2,6,7,8,9,14,15,16,17,18,30]) Tryz.func69 ?_
 conv=>whnf
 refine ⟨fun hlen=>?_,fun hlen=>?_⟩
 ·have hne:¬ l=r:=by
   intro h
   rw [h] at hlen
   simp at hlen
  rw [decide_eq_false hne]
  conv=>whnf
  rfl
 have hlen:l.length=r.length:=by simp at hlen;omega
 conv=>whnf
 refine loop_up (cxOk _ _) l.length (fun k=>∀ j,j<k→l.getD j ex0=r.getD j ex0) (fun k=>⟨[(0,.sl 5 encE ex0 l),(1,.sl 5 encE ex0 r),(2,.fn (.func 33) [] []),(6,.bool false),(15,.sl 5 encE ex0 l),(16,.int .i64 (l.length:Nat)),(17,.int .i64 (k:Nat))],[],0⟩) (by intro j hj;omega) ((wk_of [] rfl ⟨wa0,wa0,.fn _ _ _ _ _ ac0 ac0,wa0,wa0,wa0,wa0,trivial⟩ trivial)) ?_
 intro k hk hP
 conv=>whnf
 refine ⟨fun hd=>?_,fun hd=>?_⟩
 ·have hd:=of_decide_eq_true hd
  have hlt:k<l.length:=by omega
  have hek:(k:Int).toNat=k:=Int.toNat_natCast k
  have h:=hc _ (getD_mem (d:=ex0) hlt) _ (getD_mem (d:=ex0) (show k<r.length by omega))
  conv=>whnf
  refine iO ?_;conv=>whnf
  refine And.intro rfl ?_;conv=>whnf
  refine iO ?_;conv=>whnf
  refine And.intro rfl ?_;conv=>whnf
  rw [hek]
  conv=>whnf
  refine cO (fun _=>h) ?_
  conv=>whnf
  refine ⟨fun he=>?_,fun he=>?_⟩
  ·have hne:¬ l=r:=by
    intro h
    rw [h] at he
    simp at he
   rw [decide_eq_false hne]
   conv=>whnf
   rfl
  ·have he:l.getD k ex0=r.getD k ex0:=by simpa using he
   conv=>whnf
   refine iO ?_;conv=>whnf
   refine up hlt (fun j hj=>?_) ((wk_of [] rfl ⟨wa0,wa0,.fn _ _ _ _ _ ac0 ac0,wa0,wa0,wa0,wa0,trivial⟩ trivial))
   by_cases e:j=k
   ·subst e;exact he
   ·exact hP j om0
 ·have hd:=of_decide_eq_false hd
  have he:l=r:=list_eq (d:=ex0) hlen fun j hj=>hP j (by omega)
  rw [decide_eq_true he]
  conv=>whnf
  rfl
theorem sameexp_ok:∀ (k:Nat) (a b:Exp),SizeOf.sizeOf a≤k→OkE a→OkE b→APureV Tryz.prog 33 [encE a,encE b] (.bool (decide (a=b))):=by
 intro k
 induction k with
 | zero=>intro a b h;cases a;simp at h
 | succ k ih =>
  intro a b hk ha hb
  have hq:=eqfE_ok a.args b.args ha.alen hb.alen (fun x hx y hy=>ih x y (by have:=args_lt a hx;omega) (ha.arg x hx) (hb.arg y hy))
  rw [eqE_dec]
  refine aO (cxOk 38 [0,1,2,3,4]) Tryz.func33 ?_
  conv=>whnf
  refine .one _ _ _ (fun _=>hq) (.cons (lX (argsE_eq a)) (.cons (lX (argsE_eq b)) (.cons (lS rfl) .nil))) (.inl rfl) (.inr rfl) ?_
  conv=>whnf
  rfl
theorem same_ok (a b:Exp) (ha:OkE a) (hb:OkE b):APureV Tryz.prog 33 [encE a,encE b] (.bool (decide (a=b))):=sameexp_ok _ a b (Nat.le_refl _) ha hb
theorem sameexp2_ok:∀ (k:Nat) (a b:Exp),SizeOf.sizeOf a≤k→OkE a→OkE b→APureV Tryz.prog 35 [encE a,encE b] (.bool (decide (a=b))):=by
 intro k
 induction k with
 | zero=>intro a b h;cases a;simp at h
 | succ k ih =>
  intro a b hk ha hb
  have hla:=argsE_len a
  have hlb:=argsE_len b
  have ha2:=ha.alen
  have hb2:=hb.alen
  refine aO (cxOk 60 [0,1,2,3,4,5,40,45,59]) Tryz.func35 ?_
  conv=>whnf
  refine ⟨fun hne=>?_,fun hne=>?_⟩
  ·have hf:¬ a=b:=by
    intro h
    rw [h] at hne
    simp at hne
   rw [decide_eq_false hf]
   conv=>whnf
   rfl
  simp only [Bool.or_eq_false_iff,Bool.not_eq_false',decide_eq_true_eq] at hne
  obtain ⟨⟨⟨⟨e1,e2⟩,e3⟩,e4⟩,e5⟩:=hne
  conv=>whnf
  refine loop_up (cxOk _ _) a.args.length (fun k=>∀ j,j<k→a.args.getD j ex0=b.args.getD j ex0) (fun k=>⟨[(2,.ptr 0 0),(3,.ptr 1 0),(4,.bool false),(5,.int .i64 (k:Nat))],[(0,.cells 27 (cellsE a)),(1,.cells 27 (cellsE b))],2⟩) (by intro j hj;omega) ((wk_of [(0,.id 0),(1,.id 1)] rfl ⟨wb0,wb0,wa0,wa0,trivial⟩ ⟨wc0,wc0,trivial⟩)) ?_
  intro k hk2 hP
  conv=>whnf
  refine ⟨fun hd=>?_,fun hd=>?_⟩
  ·have hd:=of_decide_eq_true hd
   have hlt:k<a.args.length:=by omega
   have hlt2:k<b.args.length:=by omega
   have hek:(k:Int).toNat=k:=Int.toNat_natCast k
   have h:=ih (argOf a k) (argOf b k) (by have:=args_lt a (getD_argOf hlt);omega) (ha.arg _ (getD_argOf hlt)) (hb.arg _ (getD_argOf hlt2))
   conv=>whnf
   refine .quiet (by kernel_rfl) ?_
   conv=>whnf
   refine iO ?_;conv=>whnf
   refine And.intro rfl ?_;conv=>whnf
   rw [hek,argsE_get a hlt]
   conv=>whnf
   refine iO ?_;conv=>whnf
   refine And.intro rfl ?_;conv=>whnf
   rw [hek,argsE_get b hlt2]
   conv=>whnf
   refine .mk _ _ _ _ (fun _=>h) ah0 rfl ?_
   conv=>whnf
   refine ⟨fun he=>?_,fun he=>?_⟩
   ·have hne2:¬ a=b:=by
     intro h
     rw [h] at he
     simp [argOf] at he
    rw [decide_eq_false hne2]
    conv=>whnf
    rfl
   ·have he:argOf a k=argOf b k:=by simpa using he
    conv=>whnf
    refine iO ?_;conv=>whnf
    refine up hlt (fun j hj=>?_) ((wk_of [(0,.id 0),(1,.id 1)] rfl ⟨wb0,wb0,wa0,wa0,trivial⟩ ⟨wc0,wc0,trivial⟩))
    by_cases e:j=k
    ·subst e;exact he
    ·exact hP j om0
  ·have hd:=of_decide_eq_false hd
   have he:a=b:=(Exp.ext_iff' a b).2 ⟨e1,e2,e3,e4,list_eq (d:=ex0) (by omega) fun j hj=>hP j (by omega)⟩
   rw [decide_eq_true he]
   conv=>whnf
   rfl
theorem same2_ok (a b:Exp) (ha:OkE a) (hb:OkE b):APureV Tryz.prog 35 [encE a,encE b] (.bool (decide (a=b))):=sameexp2_ok _ a b (Nat.le_refl _) ha hb
mutual
def nodesM:Exp→Int→Int
 | .mk _ _ _ s args,m=>nodesW m args (1+((s.length / 40:Nat):Int))
def nodesW:Int→List Exp→Int→Int
 | _,[],n=>n
 | m,x::l,n=>if n≤m then nodesW m l (n+nodesM x (m-n)) else n
end
theorem nodesM_eq (e:Exp) (m:Int):nodesM e m=nodesW m e.args (1+((e.s.length / 40:Nat):Int)):=by cases e;rw [nodesM];rfl
theorem nodesW_bnd (B:Int) (m:Int):∀ (l:List Exp),(∀ x∈l,∀ k:Int,0≤k→1≤nodesM x k∧nodesM x k≤k+B)→∀ n:Int,0≤m→1≤n→n≤m+B→n≤nodesW m l n∧nodesW m l n≤m+B:=by
 intro l
 induction l with
 | nil=>intro _ n h0 h1 h2;rw [nodesW];omega
 | cons x l ih =>
  intro h n h0 h1 h2
  rw [nodesW]
  split
  ·rename_i hn
   have:=h x List.mem_cons_self (m-n) (by omega)
   have:=ih (fun y hy=>h y (List.mem_cons_of_mem _ hy)) (n+nodesM x (m-n)) h0 (by omega) (by omega)
   omega
  ·omega
def bigB:Int:=230584300921369396
theorem nodesM_bnd:∀ (k:Nat) (e:Exp),SizeOf.sizeOf e≤k→OkE e→∀ m:Int,0≤m→1≤nodesM e m∧nodesM e m≤m+bigB:=by
 intro k
 induction k with
 | zero=>intro e h;cases e;simp at h
 | succ k ih =>
  intro e hk hok m hm
  have hs:=hok.slen
  have:=nodesW_bnd bigB m e.args (fun x hx j hj=>ih x (by have:=args_lt e hx;omega) (hok.arg x hx) j hj) (1+((e.s.length / 40:Nat):Int)) hm (by omega) (by unfold bigB;omega)
  rw [nodesM_eq]
  omega
theorem nodesW_stop {m n:Int} (h:m<n):∀ (l:List Exp),nodesW m l n=n
 | []=>by rw [nodesW]
 | x::l=>by rw [nodesW,if_neg (by omega)]
theorem nodesW_cons (m:Int) (x:Exp) (l:List Exp) (n:Int):nodesW m (x::l) n=if n≤m then nodesW m l (n+nodesM x (m-n)) else n:=by rw [nodesW]
theorem nodesW_nil (m n:Int):nodesW m [] n=n:=by rw [nodesW]
theorem nodesW_snoc {m:Int} {x:Exp}:∀ (l:List Exp) (n:Int),nodesW m (l++[x]) n=if nodesW m l n≤m then nodesW m l n+nodesM x (m-nodesW m l n) else nodesW m l n
 | [],n=>by rw [List.nil_append,nodesW_cons,nodesW_nil,nodesW_nil]
 | y::l,n=>by
  rw [List.cons_append]
  by_cases h:n≤m
  ·have e1:nodesW m (y::l) n=nodesW m l (n+nodesM y (m-n)):=by rw [nodesW_cons,if_pos h]
   rw [e1,nodesW_cons,if_pos h,nodesW_snoc l]
  ·have e1:nodesW m (y::l) n=n:=by rw [nodesW_cons,if_neg h]
   rw [e1,nodesW_cons,if_neg h,if_neg h]
theorem nodesW_over {m:Int}:∀ (l r:List Exp) (n:Int),m<nodesW m l n→nodesW m (l++r) n=nodesW m l n:=by
 intro l
 induction l with
 | nil=>intro r n h;simp only [nodesW] at h;rw [List.nil_append,nodesW_stop h];simp only [nodesW]
 | cons y l ih =>
  intro r n h
  rw [List.cons_append]
  simp only [nodesW] at h ⊢
  by_cases hn:n≤m
  ·rw [if_pos hn] at h ⊢
   rw [if_pos hn]
   exact ih r _ h
  ·rw [if_neg hn,if_neg hn]
theorem nodes34_ok:∀ (k:Nat) (e:Exp) (m:Int),SizeOf.sizeOf e≤k→0≤m→m≤1000→OkE e→APureV Tryz.prog 24 [encE e,.int .i64 m] (.int .i64 (nodesM e m)):=by
 intro k
 induction k with
 | zero=>intro e m h;cases e;simp at h
 | succ k ih =>
  intro e m hk h0 h1 hok
  have hal:=argsE_len e
  have hal2:=hok.alen
  have hsl:=hok.slen
  rw [nodesM_eq]
  refine aO (cxOk 36 [0,1,2,4,5,6,21]) Tryz.func24 ?_
  conv=>whnf
  have hq:((e.s.length:Int)).tdiv 40=((e.s.length / 40:Nat):Int):=by rw [Int.tdiv_eq_ediv_of_nonneg (by omega)];rfl
  rw [hq]
  refine And.intro dd0 ?_
  conv=>whnf
  refine iO ?_;conv=>whnf
  refine iO ?_;conv=>whnf
  generalize hN0:1+((e.s.length / 40:Nat):Int)=n0 at *
  have hn0:1≤n0∧n0≤m+bigB:=by unfold bigB;omega
  refine loop_inv (cxOk _ _) (fun k:Nat=>k≤e.args.length) (fun k=>e.args.length-k) (fun k=>⟨[(1,.int .i64 m),(2,.ptr 0 0),(5,.int .i64 (nodesW m (e.args.take k) n0)),(6,.int .i64 (k:Nat))],[(0,.cells 27 (cellsE e))],1⟩) 0 (by show 0≤_;omega) ((wk_of [(0,.id 0)] rfl ⟨wa0,wb0,.base (.tree _ _ (congrArg (AV.int .i64) (by rw [List.take_zero,nodesW])) rfl),wa0,trivial⟩ ⟨wc0,trivial⟩)) ?_
  intro k hk
  have hk:k≤e.args.length:=hk
  have hb:=nodesW_bnd bigB m (e.args.take k) (fun x hx j hj=>nodesM_bnd _ x (Nat.le_refl _) (hok.arg x (List.mem_of_mem_take hx)) j hj) n0 h0 hn0.1 hn0.2
  conv=>whnf
  by_cases hgo:k<e.args.length∧nodesW m (e.args.take k) n0≤m
  ·obtain ⟨hlt,hle⟩:=hgo
   have hek:(k:Int).toNat=k:=Int.toNat_natCast k
   have hin:=hok.arg _ (getD_argOf hlt)
   have hrec:=ih (argOf e k) (m-nodesW m (e.args.take k) n0) (by have:=args_lt e (getD_argOf hlt);omega) (by omega) (by omega) hin
   have hb2:=nodesM_bnd _ (argOf e k) (Nat.le_refl _) hin (m-nodesW m (e.args.take k) n0) (by omega)
   refine ⟨fun _=>?_,fun hx=>(by simp at hx;omega)⟩
   conv=>whnf
   refine iO ?_;conv=>whnf
   refine And.intro rfl ?_;conv=>whnf
   rw [hek,argsE_get e hlt]
   conv=>whnf
   refine iO ?_;conv=>whnf
   refine cO (fun _=>hrec) ?_
   conv=>whnf
   unfold bigB at *
   refine iO ?_;conv=>whnf
   refine iO ?_;conv=>whnf
   exact ⟨k+1,hlt,(by show e.args.length-(k+1)<e.args.length-k;omega),(wk_of [(0,.id 0)] rfl ⟨wa0,wb0,.base (.tree _ _ (congrArg (AV.int .i64) (by rw [take_getD (d:=ex0) hlt,nodesW_snoc,if_pos hle];rfl)) rfl),wa0,trivial⟩ ⟨wc0,trivial⟩)⟩
  ·refine ⟨fun hx=>(by simp at hx;omega),fun _=>?_⟩
   conv=>whnf
   have he:nodesW m e.args n0=nodesW m (e.args.take k) n0:=by
    by_cases hke:k=e.args.length
    ·rw [hke,List.take_length]
    ·have hlt2:m<nodesW m (e.args.take k) n0:=by omega
     have h2:=nodesW_over (e.args.take k) (e.args.drop k) n0 hlt2
     rw [List.take_append_drop] at h2
     exact h2
   rw [he]
   rfl
def few0 (x:Ind):Bool:=!(decide (4<(x.lets.length:Int))||decide (4<(x.cov.length:Int))||decide (4<(x.calls.length:Int))||decide (4<(x.favour.length:Int))||decide (40<(x.name.length:Int))||decide (40<(x.issuer.length:Int))||decide (20<nodesM x.coupon 20))
def fewL (l:LetE):Bool:=!(decide (40<(l.name.length:Int))||decide (20<nodesM l.body 20))
def fewC (c:Cov):Bool:=!(decide (40<(c.name.length:Int))||decide (20<nodesM c.must 20))
def fewF (s:List UInt8):Bool:=!decide (40<(s.length:Int))
def fewX (x:Ind):Bool:=few0 x&&x.lets.all fewL&&x.cov.all fewC&&x.favour.all fewF
theorem all_false {α:Type} {p:α→Bool} {l:List α} {x:α} (hm:x∈l) (h:p x=false):l.all p=false:=by
 rw [List.all_eq_false]
 exact ⟨x,hm,by rw [h];decide⟩
theorem all_true {α:Type} {p:α→Bool} {l:List α} {d:α} (h:∀ j,j<l.length→p (l.getD j d)=true):l.all p=true:=by
 rw [List.all_eq_true]
 intro x hx
 obtain ⟨j,hj,e⟩:=mem_getD (d:=d) hx
 have:=h j hj
 rw [e] at this
 exact this
theorem fewterms_ok (x:Ind) (h1:∀ l∈x.lets,OkE l.body) (h2:∀ c∈x.cov,OkE c.must) (h3:OkE x.coupon) (b1:x.name.length≤9223372036854775807) (b2:x.issuer.length≤9223372036854775807) (b3:x.lets.length≤9223372036854775807) (b4:x.cov.length≤9223372036854775807)
  (b5:x.favour.length≤9223372036854775807) (b6:x.calls.length≤9223372036854775807) (b7:∀ l∈x.lets,l.name.length≤9223372036854775807) (b8:∀ c∈x.cov,c.name.length≤9223372036854775807) (b9:∀ s∈x.favour,s.length≤9223372036854775807) :
  APureV Tryz.prog 7 [encX x] (.bool (fewX x)):=by
 have hc:=nodes34_ok _ x.coupon 20 (Nat.le_refl _) (by decide) (by decide) h3
 refine aO (cxOk 110 [0,1,2,3,4,5,45,50,70,75,95,100,109]) Tryz.func7 ?_
 conv=>whnf
 refine cO (fun _=>hc) ?_
 conv=>whnf
 refine ⟨fun hb=>?_,fun hb=>?_⟩
 ·rw [show fewX x=false by unfold fewX few0;rw [hb];rfl]
  conv=>whnf
  rfl
 have hf0:few0 x=true:=by unfold few0;rw [hb];rfl
 conv=>whnf
 refine loop_up (cxOk _ _) x.lets.length (fun k=>∀ j,j<k→fewL (x.lets.getD j l0)=true) (fun k=>⟨[(1,.ptr 0 0),(2,.bool false),(3,.int .i64 (k:Nat))],[(0,.cells 31 (celX x))],1⟩) (by intro j hj;omega) ((wk_of [(0,.id 0)] rfl ⟨wb0,wa0,wa0,trivial⟩ ⟨wc0,trivial⟩)) ?_
 intro k hk hP
 conv=>whnf
 refine ⟨fun hd=>?_,fun hd=>?_⟩
 ·have hd:=of_decide_eq_true hd
  have hlt:k<x.lets.length:=by omega
  have hek:(k:Int).toNat=k:=Int.toNat_natCast k
  have hm:x.lets.getD k l0∈x.lets:=getD_mem hlt
  have hn:=b7 _ hm
  have hq:=nodes34_ok _ _ 20 (Nat.le_refl _) (by decide) (by decide) (h1 _ hm)
  conv=>whnf
  refine iO ?_;conv=>whnf
  refine And.intro rfl ?_;conv=>whnf
  refine And.intro om0 (And.intro rfl ?_);conv=>whnf
  rw [hek]
  conv=>whnf
  refine cO (fun _=>hq) ?_
  conv=>whnf
  refine ⟨fun he=>?_,fun he=>?_⟩
  ·have hf:fewL (x.lets.getD k l0)=false:=by unfold fewL;rw [he];rfl
   rw [show fewX x=false by unfold fewX;rw [all_false hm hf];simp]
   conv=>whnf
   rfl
  ·have he:fewL (x.lets.getD k l0)=true:=by unfold fewL;rw [he];rfl
   conv=>whnf
   refine iO ?_;conv=>whnf
   refine up hlt (fun j hj=>?_) ((wk_of [(0,.id 0)] rfl ⟨wb0,wa0,wa0,trivial⟩ ⟨wc0,trivial⟩))
   by_cases e:j=k
   ·subst e;exact he
   ·exact hP j om0
 have hd:=of_decide_eq_false hd
 obtain rfl:k=x.lets.length:=by omega
 have hall_lets:x.lets.all fewL=true:=all_true hP
 conv=>whnf
 refine loop_up (cxOk _ _) x.cov.length (fun k=>∀ j,j<k→fewC (x.cov.getD j c0)=true) (fun k=>⟨[(1,.ptr 0 0),(2,.bool false),(4,.int .i64 (k:Nat))],[(0,.cells 31 (celX x))],1⟩) (by intro j hj;omega) ((wk_of [(0,.id 0)] rfl ⟨wb0,wa0,wa0,trivial⟩ ⟨wc0,trivial⟩)) ?_
 intro k hk hP
 conv=>whnf
 refine ⟨fun hd=>?_,fun hd=>?_⟩
 ·have hd:=of_decide_eq_true hd
  have hlt:k<x.cov.length:=by omega
  have hek:(k:Int).toNat=k:=Int.toNat_natCast k
  have hm:x.cov.getD k c0∈x.cov:=getD_mem hlt
  have hn:=b8 _ hm
  have hq:=nodes34_ok _ _ 20 (Nat.le_refl _) (by decide) (by decide) (h2 _ hm)
  conv=>whnf
  refine iO ?_;conv=>whnf
  refine And.intro rfl ?_;conv=>whnf
  refine And.intro om0 (And.intro rfl ?_);conv=>whnf
  rw [hek]
  conv=>whnf
  refine cO (fun _=>hq) ?_
  conv=>whnf
  refine ⟨fun he=>?_,fun he=>?_⟩
  ·have hf:fewC (x.cov.getD k c0)=false:=by unfold fewC;rw [he];rfl
   rw [show fewX x=false by unfold fewX;rw [all_false hm hf];simp]
   conv=>whnf
   rfl
  ·have he:fewC (x.cov.getD k c0)=true:=by unfold fewC;rw [he];rfl
   conv=>whnf
   refine iO ?_;conv=>whnf
   refine up hlt (fun j hj=>?_) ((wk_of [(0,.id 0)] rfl ⟨wb0,wa0,wa0,trivial⟩ ⟨wc0,trivial⟩))
   by_cases e:j=k
   ·subst e;exact he
   ·exact hP j om0
 have hd:=of_decide_eq_false hd
 obtain rfl:k=x.cov.length:=by omega
 have hall_cov:x.cov.all fewC=true:=all_true hP
 conv=>whnf
 refine loop_up (cxOk _ _) x.favour.length (fun k=>∀ j,j<k→fewF (x.favour.getD j [])=true) (fun k=>⟨[(1,.ptr 0 0),(2,.bool false),(5,.int .i64 (k:Nat))],[(0,.cells 31 (celX x))],1⟩) (by intro j hj;omega) ((wk_of [(0,.id 0)] rfl ⟨wb0,wa0,wa0,trivial⟩ ⟨wc0,trivial⟩)) ?_
 intro k hk hP
 conv=>whnf
 refine ⟨fun hd=>?_,fun hd=>?_⟩
 ·have hd:=of_decide_eq_true hd
  have hlt:k<x.favour.length:=by omega
  have hek:(k:Int).toNat=k:=Int.toNat_natCast k
  have hm:x.favour.getD k []∈x.favour:=getD_mem hlt
  have hn:=b9 _ hm
  conv=>whnf
  refine iO ?_;conv=>whnf
  refine And.intro rfl ?_;conv=>whnf
  rw [hek]
  conv=>whnf
  refine ⟨fun he=>?_,fun he=>?_⟩
  ·have hf:fewF (x.favour.getD k [])=false:=by unfold fewF;rw [he];rfl
   rw [show fewX x=false by unfold fewX;rw [all_false hm hf];simp]
   conv=>whnf
   rfl
  ·have he:fewF (x.favour.getD k [])=true:=by unfold fewF;rw [he];rfl
   conv=>whnf
   refine iO ?_;conv=>whnf
   refine up hlt (fun j hj=>?_) ((wk_of [(0,.id 0)] rfl ⟨wb0,wa0,wa0,trivial⟩ ⟨wc0,trivial⟩))
   by_cases e:j=k
   ·subst e;exact he
   ·exact hP j om0
 have hd:=of_decide_eq_false hd
 obtain rfl:k=x.favour.length:=by omega
 have hall_favour:x.favour.all fewF=true:=all_true hP
 conv=>whnf
 rw [show fewX x=true by unfold fewX;rw [hf0,hall_lets,hall_cov,hall_favour];rfl]
 rfl
theorem eqfR_ok (l r:List LetE) (hl:l.length≤9223372036854775807) (hr:r.length≤9223372036854775807) (hc:∀ x∈l,∀ y∈r,APureV Tryz.prog 32 [encL x,encL y] (.bool (decide (x=y)))) :
  APureV Tryz.prog 31 [.sl 6 encL l0 l,.sl 6 encL l0 r,.fn (.func 32) [] []] (.bool (decide (l=r))):=by
 refine aO (cxOk 32 [0,1,2,6,7,8,9,14,15,16,17,18,30]) Tryz.func31 ?_
 conv=>whnf
 refine ⟨fun hlen=>?_,fun hlen=>?_⟩
 ·have hne:¬ l=r:=by
   intro h
   rw [h] at hlen
   simp at hlen
  rw [decide_eq_false hne]
  conv=>whnf
  rfl
 have hlen:l.length=r.length:=by simp at hlen;omega
 conv=>whnf
 refine loop_up (cxOk _ _) l.length (fun k=>∀ j,j<k→l.getD j l0=r.getD j l0) (fun k=>⟨[(0,.sl 6 encL l0 l),(1,.sl 6 encL l0 r),(2,.fn (.func 32) [] []),(6,.bool false),(15,.sl 6 encL l0 l),(16,.int .i64 (l.length:Nat)),(17,.int .i64 (k:Nat))],[],0⟩) (by intro j hj;omega) ((wk_of [] rfl ⟨wa0,wa0,.fn _ _ _ _ _ ac0 ac0,wa0,wa0,wa0,wa0,trivial⟩ trivial)) ?_
 intro k hk hP
 conv=>whnf
 refine ⟨fun hd=>?_,fun hd=>?_⟩
 ·have hd:=of_decide_eq_true hd
  have hlt:k<l.length:=by omega
  have hek:(k:Int).toNat=k:=Int.toNat_natCast k
  have h:=hc _ (getD_mem (d:=l0) hlt) _ (getD_mem (d:=l0) (show k<r.length by omega))
  conv=>whnf
  refine iO ?_;conv=>whnf
  refine And.intro rfl ?_;conv=>whnf
  refine iO ?_;conv=>whnf
  refine And.intro rfl ?_;conv=>whnf
  rw [hek]
  conv=>whnf
  refine cO (fun _=>h) ?_
  conv=>whnf
  refine ⟨fun he=>?_,fun he=>?_⟩
  ·have hne:¬ l=r:=by
    intro h
    rw [h] at he
    simp at he
   rw [decide_eq_false hne]
   conv=>whnf
   rfl
  ·have he:l.getD k l0=r.getD k l0:=by simpa using he
   conv=>whnf
   refine iO ?_;conv=>whnf
   refine up hlt (fun j hj=>?_) ((wk_of [] rfl ⟨wa0,wa0,.fn _ _ _ _ _ ac0 ac0,wa0,wa0,wa0,wa0,trivial⟩ trivial))
   by_cases e:j=k
   ·subst e;exact he
   ·exact hP j om0
 ·have hd:=of_decide_eq_false hd
  have he:l=r:=list_eq (d:=l0) hlen fun j hj=>hP j (by omega)
  rw [decide_eq_true he]
  conv=>whnf
  rfl
theorem resc_ok (a b:LetE) (ha:OkE a.body) (hb:OkE b.body):APureV Tryz.prog 32 [encL a,encL b] (.bool (decide (a=b))):=by
 have h:=same_ok a.body b.body ha hb
 rw [eqL_dec]
 refine aO (cxOk 17 [0,1,2,3,4]) Tryz.func32 ?_
 conv=>whnf
 refine cO (fun _=>h) ?_
 conv=>whnf
 rfl
theorem lets34_ok (l r:List LetE) (hl:l.length≤9223372036854775807) (hr:r.length≤9223372036854775807) (ho:∀ x∈l,OkE x.body) (ho2:∀ x∈r,OkE x.body):APureV Tryz.prog 34 [.sl 6 encL l0 l,.sl 6 encL l0 r] (.bool (decide (l=r))):=by
 refine aO (cxOk 42 [0,1,4,5,10,14,41]) Tryz.func34 ?_
 conv=>whnf
 refine ⟨fun hlen=>?_,fun hlen=>?_⟩
 ·have hne:¬ l=r:=by
   intro h
   rw [h] at hlen
   simp at hlen
  rw [decide_eq_false hne]
  conv=>whnf
  rfl
 have hlen:l.length=r.length:=by simp at hlen;omega
 conv=>whnf
 refine loop_up (cxOk _ _) l.length (fun k=>∀ j,j<k→l.getD j l0=r.getD j l0) (fun k=>⟨[(0,.sl 6 encL l0 l),(1,.sl 6 encL l0 r),(5,.int .i64 (k:Nat))],[],0⟩) (by intro j hj;omega) ((wk_of [] rfl ⟨wa0,wa0,wa0,trivial⟩ trivial)) ?_
 intro k hk hP
 conv=>whnf
 refine ⟨fun hd=>?_,fun hd=>?_⟩
 ·have hd:=of_decide_eq_true hd
  have hlt:k<l.length:=by omega
  have hek:(k:Int).toNat=k:=Int.toNat_natCast k
  have h:=same2_ok _ _ (ho _ (getD_mem (d:=l0) hlt)) (ho2 _ (getD_mem (d:=l0) (show k<r.length by omega)))
  have hq:=eqL_dec (l.getD k l0) (r.getD k l0)
  conv=>whnf
  refine .quiet (by kernel_rfl) ?_;conv=>whnf
  refine iO ?_;conv=>whnf
  refine And.intro rfl ?_;conv=>whnf
  refine iO ?_;conv=>whnf
  refine And.intro rfl ?_;conv=>whnf
  refine And.intro om0 (And.intro rfl ?_);conv=>whnf
  refine And.intro om0 (And.intro rfl ?_);conv=>whnf
  rw [hek]
  conv=>whnf
  refine .mk _ _ _ _ (fun _=>h) ah0 rfl ?_
  conv=>whnf
  have he':(!decide ((l.getD k l0).name=(r.getD k l0).name)||!decide ((l.getD k l0).body=(r.getD k l0).body))=!decide (l.getD k l0=r.getD k l0):=by rw [hq,Bool.not_and]
  refine ⟨fun he=>?_,fun he=>?_⟩
  ·have he:=he'.symm.trans he
   have hne:¬ l=r:=by
    intro h
    rw [h] at he
    simp at he
   rw [decide_eq_false hne]
   conv=>whnf
   rfl
  ·have he:=he'.symm.trans he
   have he:l.getD k l0=r.getD k l0:=by simpa using he
   conv=>whnf
   refine iO ?_;conv=>whnf
   refine up hlt (fun j hj=>?_) ((wk_of [] rfl ⟨wa0,wa0,wa0,trivial⟩ trivial))
   by_cases e:j=k
   ·subst e;exact he
   ·exact hP j om0
 ·have hd:=of_decide_eq_false hd
  have he:l=r:=list_eq (d:=l0) hlen fun j hj=>hP j (by omega)
  rw [decide_eq_true he]
  conv=>whnf
  rfl
structure Mat where
 name:List UInt8
 same:Bool
abbrev m0:Mat:=⟨[],false⟩
def encM (m:Mat):AV:=.agg [.str m.name,.bool m.same]
def mats (b1 b2 b3 b4 b5 b6:Bool):List Mat:=[⟨[102,97,99,101],b1⟩,⟨[102,114,111,109],b2⟩,⟨[116,111],b3⟩,⟨[99,111,117,112,111,110],b4⟩,⟨[114,97,110,107],b5⟩,⟨[109,97,106,111,114,105,116,121],b6⟩]
def resL (l:List Mat):List (List UInt8):=(l.filter fun m=>!m.same).map Mat.name
noncomputable def matsX (a b:Ind):List Mat:=mats (decide (a.face=b.face)) (decide (a.frm=b.frm)) (decide (a.to=b.to)) (decide (a.lets=b.lets)&&decide (a.coupon=b.coupon)&&decide (a.cap=b.cap)) (decide (a.rank=b.rank)) (decide (a.majority=b.majority))
noncomputable def reservedL (a b:Ind):List (List UInt8):=resL (matsX a b)
theorem resL_take {M:List Mat} {k:Nat} (h:k<M.length):resL (M.take (k+1))=resL (M.take k)++(if (M.getD k m0).same=true then [] else [(M.getD k m0).name]):=by
 rw [take_getD (d:=m0) h]
 unfold resL
 rw [List.filter_append,List.map_append]
 generalize M.getD k m0=m
 cases hx:m.same<;>simp [List.filter_cons,hx]
theorem resL_len (M:List Mat) (k:Nat):(resL (M.take k)).length≤k:=by
 unfold resL
 rw [List.length_map]
 have:=List.length_filter_le (fun m:Mat=>!m.same) (M.take k)
 rw [List.length_take] at this
 omega
theorem reserved_ok (a b:Ind) (ha:OkX a) (hb:OkX b):APure Tryz.prog 16 [encX a,encX b] (fun rs=>rs=[.new (.row 9 1 encS [] (reservedL a b))]):=by
 have hq:=eqfR_ok a.lets b.lets (by have:=ha.lets;omega) (by have:=hb.lets;omega) (fun x hx y hy=>resc_ok x y (ha.let1 x hx).2 (hb.let1 y hy).2)
 have hs:=same_ok a.coupon b.coupon ha.coupon hb.coupon
 have hfin:∀ c4,(decide (a.lets=b.lets)&&decide (a.coupon=b.coupon)&&decide (a.cap=b.cap))=c4→reservedL a b=resL (mats (decide (a.face=b.face)) (decide (a.frm=b.frm)) (decide (a.to=b.to)) c4 (decide (a.rank=b.rank)) (decide (a.majority=b.majority))):=fun c4 h=>by rw [reservedL,matsX,h]
 cases h1:decide (a.lets=b.lets) with
 | false =>
  rw [h1] at hq
  rw [hfin false (by rw [h1];rfl)]
  refine aO (cxOk 76 [0,1,2,3,4,5,6,8,60,61,62,63,68]) Tryz.func16 ?_
  conv=>whnf
  refine cO (fun _=>hq) ?_
  conv=>whnf
  refine .eff af0 ?_;conv=>whnf
  refine nD ?_;conv=>whnf
  refine nD ?_;conv=>whnf
  refine nD ?_;conv=>whnf
  refine nD ?_;conv=>whnf
  refine nD ?_;conv=>whnf
  refine nD ?_;conv=>whnf
  refine nD ?_;conv=>whnf
  refine nD ?_;conv=>whnf
  refine nD ?_;conv=>whnf
  refine nD ?_;conv=>whnf
  refine nD ?_;conv=>whnf
  refine nD ?_;conv=>whnf
  refine And.intro rfl ?_;conv=>whnf
  generalize hM:mats (decide (a.face=b.face)) (decide (a.frm=b.frm)) (decide (a.to=b.to)) false (decide (a.rank=b.rank)) (decide (a.majority=b.majority))=M
  have hMl:M.length=6:=by rw [← hM];rfl
  refine loop_up (cxOk _ _) 6 (fun k=>True) (fun k=>⟨[(6,.own 1),(60,.own 0),(61,.int .i64 6),(62,.int .i64 (k:Nat))],[(0,.row 70 2 encM m0 M),(1,.row 9 1 encS [] (resL (M.take k)))],2⟩) trivial ((wk_of [(0,.id 2),(1,.nil)] rfl ⟨ae0,ae0,wa0,wa0,trivial⟩ ⟨⟨_,rfl,(by first | exact .row _ _ _ _ _ _ _ rfl (by rw [← hM];rfl) | exact .lstrow _ _ _ _ _ _ _ rfl (by rw [← hM];rfl) | exact .nilrow _ _ _ _ _ (by rw [← hM];rfl) | exact .truncrow _ _ _ _ _ _ _ _ rfl (by omega) (by rw [← hM];rfl))⟩,⟨_,rfl,ag0⟩,trivial⟩)) ?_
  intro k hk _
  conv=>whnf
  refine ⟨fun hd=>?_,fun hd=>?_⟩
  ·have hd:=of_decide_eq_true hd
   have hlt:k<M.length:=by omega
   have hek:(k:Int).toNat=k:=Int.toNat_natCast k
   have hrl:=resL_len M k
   have hrs:=resL_take hlt
   generalize resL (M.take k)=R at *
   conv=>whnf
   refine iO ?_;conv=>whnf
   refine And.intro om0 (And.intro rfl ?_);conv=>whnf
   rw [hek]
   conv=>whnf
   cases hx:(M.getD k m0).same with
   | true =>
    rw [hx,if_pos rfl,List.append_nil] at hrs
    refine gF ?_
    conv=>whnf
    refine iO ?_;conv=>whnf
    refine up om0 trivial ((wk_of [(0,.id 0),(1,.id 1)] rfl ⟨ae0,ae0,wa0,wa0,trivial⟩ ⟨⟨_,rfl,ag0⟩,⟨_,rfl,(by first | exact .row _ _ _ _ _ _ _ rfl hrs.symm | exact .lstrow _ _ _ _ _ _ _ rfl hrs.symm | exact .nilrow _ _ _ _ _ hrs.symm | exact .truncrow _ _ _ _ _ _ _ _ rfl om0 hrs.symm)⟩,trivial⟩))
   | false =>
    rw [hx,if_neg (by decide)] at hrs
    refine gT ?_
    conv=>whnf
    refine And.intro rfl ?_;conv=>whnf
    refine And.intro ⟨rfl,rfl⟩ (And.intro (show (R.length+1)*16≤140737488355328 by omega) ?_)
    conv=>whnf
    refine ⟨_,rfl,?_⟩
    conv=>whnf
    refine iO ?_;conv=>whnf
    refine up om0 trivial ((wk_of [(0,.id 0),(1,.id 4)] rfl ⟨ae0,ae0,wa0,wa0,trivial⟩ ⟨⟨_,rfl,ag0⟩,⟨_,rfl,(by first | exact .row _ _ _ _ _ _ _ rfl hrs.symm | exact .lstrow _ _ _ _ _ _ _ rfl hrs.symm | exact .nilrow _ _ _ _ _ hrs.symm | exact .truncrow _ _ _ _ _ _ _ _ rfl om0 hrs.symm)⟩,trivial⟩))
  ·have hd:=of_decide_eq_false hd
   obtain rfl:k=6:=by omega
   rw [List.take_of_length_le (by omega)]
   conv=>whnf
   rfl
 | true =>
  rw [h1] at hq
  cases h2:decide (a.coupon=b.coupon) with
  | false =>
   rw [h2] at hs
   rw [hfin false (by rw [h1,h2];rfl)]
   refine aO (cxOk 76 [0,1,2,3,4,5,6,8,60,61,62,63,68]) Tryz.func16 ?_
   conv=>whnf
   refine cO (fun _=>hq) ?_
   conv=>whnf
   refine .eff af0 ?_;conv=>whnf
   refine nE ?_;conv=>whnf
   refine nE ?_;conv=>whnf
   refine nE ?_;conv=>whnf
   refine nE ?_;conv=>whnf
   refine nE ?_;conv=>whnf
   refine cO (fun _=>hs) ?_
   conv=>whnf
   refine nE ?_;conv=>whnf
   refine nD ?_;conv=>whnf
   refine nD ?_;conv=>whnf
   refine nD ?_;conv=>whnf
   refine nD ?_;conv=>whnf
   refine nD ?_;conv=>whnf
   refine nD ?_;conv=>whnf
   refine And.intro rfl ?_;conv=>whnf
   generalize hM:mats (decide (a.face=b.face)) (decide (a.frm=b.frm)) (decide (a.to=b.to)) false (decide (a.rank=b.rank)) (decide (a.majority=b.majority))=M
   have hMl:M.length=6:=by rw [← hM];rfl
   refine loop_up (cxOk _ _) 6 (fun k=>True) (fun k=>⟨[(6,.own 1),(60,.own 0),(61,.int .i64 6),(62,.int .i64 (k:Nat))],[(0,.row 70 2 encM m0 M),(1,.row 9 1 encS [] (resL (M.take k)))],2⟩) trivial ((wk_of [(0,.id 2),(1,.nil)] rfl ⟨ae0,ae0,wa0,wa0,trivial⟩ ⟨⟨_,rfl,(by first | exact .row _ _ _ _ _ _ _ rfl (by rw [← hM];rfl) | exact .lstrow _ _ _ _ _ _ _ rfl (by rw [← hM];rfl) | exact .nilrow _ _ _ _ _ (by rw [← hM];rfl) | exact .truncrow _ _ _ _ _ _ _ _ rfl (by omega) (by rw [← hM];rfl))⟩,⟨_,rfl,ag0⟩,trivial⟩)) ?_
   intro k hk _
   conv=>whnf
   refine ⟨fun hd=>?_,fun hd=>?_⟩
   ·have hd:=of_decide_eq_true hd
    have hlt:k<M.length:=by omega
    have hek:(k:Int).toNat=k:=Int.toNat_natCast k
    have hrl:=resL_len M k
    have hrs:=resL_take hlt
    generalize resL (M.take k)=R at *
    conv=>whnf
    refine iO ?_;conv=>whnf
    refine And.intro om0 (And.intro rfl ?_);conv=>whnf
    rw [hek]
    conv=>whnf
    cases hx:(M.getD k m0).same with
    | true =>
     rw [hx,if_pos rfl,List.append_nil] at hrs
     refine gF ?_
     conv=>whnf
     refine iO ?_;conv=>whnf
     refine up om0 trivial ((wk_of [(0,.id 0),(1,.id 1)] rfl ⟨ae0,ae0,wa0,wa0,trivial⟩ ⟨⟨_,rfl,ag0⟩,⟨_,rfl,(by first | exact .row _ _ _ _ _ _ _ rfl hrs.symm | exact .lstrow _ _ _ _ _ _ _ rfl hrs.symm | exact .nilrow _ _ _ _ _ hrs.symm | exact .truncrow _ _ _ _ _ _ _ _ rfl om0 hrs.symm)⟩,trivial⟩))
    | false =>
     rw [hx,if_neg (by decide)] at hrs
     refine gT ?_
     conv=>whnf
     refine And.intro rfl ?_;conv=>whnf
     refine And.intro ⟨rfl,rfl⟩ (And.intro (show (R.length+1)*16≤140737488355328 by omega) ?_)
     conv=>whnf
     refine ⟨_,rfl,?_⟩
     conv=>whnf
     refine iO ?_;conv=>whnf
     refine up om0 trivial ((wk_of [(0,.id 0),(1,.id 4)] rfl ⟨ae0,ae0,wa0,wa0,trivial⟩ ⟨⟨_,rfl,ag0⟩,⟨_,rfl,(by first | exact .row _ _ _ _ _ _ _ rfl hrs.symm | exact .lstrow _ _ _ _ _ _ _ rfl hrs.symm | exact .nilrow _ _ _ _ _ hrs.symm | exact .truncrow _ _ _ _ _ _ _ _ rfl om0 hrs.symm)⟩,trivial⟩))
   ·have hd:=of_decide_eq_false hd
    obtain rfl:k=6:=by omega
    rw [List.take_of_length_le (by omega)]
    conv=>whnf
    rfl
  | true =>
   rw [h2] at hs
   rw [hfin (decide (a.cap=b.cap)) (by rw [h1,h2];rfl)]
   refine aO (cxOk 76 [0,1,2,3,4,5,6,8,60,61,62,63,68]) Tryz.func16 ?_
   conv=>whnf
   refine cO (fun _=>hq) ?_
   conv=>whnf
   refine .eff af0 ?_;conv=>whnf
   refine nE ?_;conv=>whnf
   refine nE ?_;conv=>whnf
   refine nE ?_;conv=>whnf
   refine nE ?_;conv=>whnf
   refine nE ?_;conv=>whnf
   refine cO (fun _=>hs) ?_
   conv=>whnf
   refine nE ?_;conv=>whnf
   refine nE ?_;conv=>whnf
   refine nE ?_;conv=>whnf
   refine nE ?_;conv=>whnf
   refine nE ?_;conv=>whnf
   refine nE ?_;conv=>whnf
   refine nE ?_;conv=>whnf
   refine And.intro rfl ?_;conv=>whnf
   generalize hM:mats (decide (a.face=b.face)) (decide (a.frm=b.frm)) (decide (a.to=b.to)) (decide (a.cap=b.cap)) (decide (a.rank=b.rank)) (decide (a.majority=b.majority))=M
   have hMl:M.length=6:=by rw [← hM];rfl
   refine loop_up (cxOk _ _) 6 (fun k=>True) (fun k=>⟨[(6,.own 1),(60,.own 0),(61,.int .i64 6),(62,.int .i64 (k:Nat))],[(0,.row 70 2 encM m0 M),(1,.row 9 1 encS [] (resL (M.take k)))],2⟩) trivial ((wk_of [(0,.id 2),(1,.nil)] rfl ⟨ae0,ae0,wa0,wa0,trivial⟩ ⟨⟨_,rfl,(by first | exact .row _ _ _ _ _ _ _ rfl (by rw [← hM];rfl) | exact .lstrow _ _ _ _ _ _ _ rfl (by rw [← hM];rfl) | exact .nilrow _ _ _ _ _ (by rw [← hM];rfl) | exact .truncrow _ _ _ _ _ _ _ _ rfl (by omega) (by rw [← hM];rfl))⟩,⟨_,rfl,ag0⟩,trivial⟩)) ?_
   intro k hk _
   conv=>whnf
   refine ⟨fun hd=>?_,fun hd=>?_⟩
   ·have hd:=of_decide_eq_true hd
    have hlt:k<M.length:=by omega
    have hek:(k:Int).toNat=k:=Int.toNat_natCast k
    have hrl:=resL_len M k
    have hrs:=resL_take hlt
    generalize resL (M.take k)=R at *
    conv=>whnf
    refine iO ?_;conv=>whnf
    refine And.intro om0 (And.intro rfl ?_);conv=>whnf
    rw [hek]
    conv=>whnf
    cases hx:(M.getD k m0).same with
    | true =>
     rw [hx,if_pos rfl,List.append_nil] at hrs
     refine gF ?_
     conv=>whnf
     refine iO ?_;conv=>whnf
     refine up om0 trivial ((wk_of [(0,.id 0),(1,.id 1)] rfl ⟨ae0,ae0,wa0,wa0,trivial⟩ ⟨⟨_,rfl,ag0⟩,⟨_,rfl,(by first | exact .row _ _ _ _ _ _ _ rfl hrs.symm | exact .lstrow _ _ _ _ _ _ _ rfl hrs.symm | exact .nilrow _ _ _ _ _ hrs.symm | exact .truncrow _ _ _ _ _ _ _ _ rfl om0 hrs.symm)⟩,trivial⟩))
    | false =>
     rw [hx,if_neg (by decide)] at hrs
     refine gT ?_
     conv=>whnf
     refine And.intro rfl ?_;conv=>whnf
     refine And.intro ⟨rfl,rfl⟩ (And.intro (show (R.length+1)*16≤140737488355328 by omega) ?_)
     conv=>whnf
     refine ⟨_,rfl,?_⟩
     conv=>whnf
     refine iO ?_;conv=>whnf
     refine up om0 trivial ((wk_of [(0,.id 0),(1,.id 4)] rfl ⟨ae0,ae0,wa0,wa0,trivial⟩ ⟨⟨_,rfl,ag0⟩,⟨_,rfl,(by first | exact .row _ _ _ _ _ _ _ rfl hrs.symm | exact .lstrow _ _ _ _ _ _ _ rfl hrs.symm | exact .nilrow _ _ _ _ _ hrs.symm | exact .truncrow _ _ _ _ _ _ _ _ rfl om0 hrs.symm)⟩,trivial⟩))
   ·have hd:=of_decide_eq_false hd
    obtain rfl:k=6:=by omega
    rw [List.take_of_length_le (by omega)]
    conv=>whnf
    rfl
set_option maxHeartbeats 400000000
theorem reserved2_raw (a b:Ind) (ha:OkX a) (hb:OkX b):APure Tryz.prog 17 [encX a,encX b] (fun rs=>rs=[.new (.lst 9 1 ((reservedL a b).map encS))]∨reservedL a b=[]∧rs=[.val .nils]):=by
 have hq:=lets34_ok a.lets b.lets (by have:=ha.lets;omega) (by have:=hb.lets;omega) (fun x hx=>(ha.let1 x hx).2) (fun x hx=>(hb.let1 x hx).2)
 have hs:=same2_ok a.coupon b.coupon ha.coupon hb.coupon
 have hc4:(!decide (a.lets=b.lets)||!decide (a.coupon=b.coupon)||!decide (a.cap=b.cap))=!(decide (a.lets=b.lets)&&decide (a.coupon=b.coupon)&&decide (a.cap=b.cap)):=by rw [Bool.not_and,Bool.not_and]
 unfold reservedL matsX
 generalize (decide (a.lets=b.lets)&&decide (a.coupon=b.coupon)&&decide (a.cap=b.cap))=c4 at *
 refine aO (cxOk 71 [0,1,2,3,4,5,10,18,26,50,58,66]) Tryz.func17 ?_
 conv=>whnf
 cases d0:decide (a.face=b.face) with
 | true =>
  refine gF ?_
  conv=>whnf
  cases d1:decide (a.frm=b.frm) with
  | true =>
   refine gF ?_
   conv=>whnf
   cases d2:decide (a.to=b.to) with
   | true =>
    refine gF ?_
    conv=>whnf
    refine cO (fun _=>hq) ?_
    conv=>whnf
    refine cO (fun _=>hs) ?_
    conv=>whnf
    rw [hc4]
    cases c4 with
    | true =>
     refine gF ?_
     conv=>whnf
     cases d4:decide (a.rank=b.rank) with
     | true =>
      refine gF ?_
      conv=>whnf
      cases d5:decide (a.majority=b.majority) with
      | true =>
       refine gF ?_
       conv=>whnf
       first | exact .inl rfl | exact .inr ⟨rfl,rfl⟩
      | false =>
       refine gT ?_
       conv=>whnf
       refine And.intro rfl ?_;conv=>whnf
       refine And.intro (show 1*16≤140737488355328 by decide) ?_
       conv=>whnf
       first | exact .inl rfl | exact .inr ⟨rfl,rfl⟩
     | false =>
      refine gT ?_
      conv=>whnf
      refine And.intro rfl ?_;conv=>whnf
      refine And.intro (show 1*16≤140737488355328 by decide) ?_
      conv=>whnf
      cases d5:decide (a.majority=b.majority) with
      | true =>
       refine gF ?_
       conv=>whnf
       first | exact .inl rfl | exact .inr ⟨rfl,rfl⟩
      | false =>
       refine gT ?_
       conv=>whnf
       refine And.intro rfl ?_;conv=>whnf
       refine And.intro ⟨rfl,rfl⟩ (And.intro (show (1+1)*16≤140737488355328 by decide) ?_)
       conv=>whnf
       first | exact .inl rfl | exact .inr ⟨rfl,rfl⟩
    | false =>
     refine gT ?_
     conv=>whnf
     refine And.intro rfl ?_;conv=>whnf
     refine And.intro (show 1*16≤140737488355328 by decide) ?_
     conv=>whnf
     cases d4:decide (a.rank=b.rank) with
     | true =>
      refine gF ?_
      conv=>whnf
      cases d5:decide (a.majority=b.majority) with
      | true =>
       refine gF ?_
       conv=>whnf
       first | exact .inl rfl | exact .inr ⟨rfl,rfl⟩
      | false =>
       refine gT ?_
       conv=>whnf
       refine And.intro rfl ?_;conv=>whnf
       refine And.intro ⟨rfl,rfl⟩ (And.intro (show (1+1)*16≤140737488355328 by decide) ?_)
       conv=>whnf
       first | exact .inl rfl | exact .inr ⟨rfl,rfl⟩
     | false =>
      refine gT ?_
      conv=>whnf
      refine And.intro rfl ?_;conv=>whnf
      refine And.intro ⟨rfl,rfl⟩ (And.intro (show (1+1)*16≤140737488355328 by decide) ?_)
      conv=>whnf
      cases d5:decide (a.majority=b.majority) with
      | true =>
       refine gF ?_
       conv=>whnf
       first | exact .inl rfl | exact .inr ⟨rfl,rfl⟩
      | false =>
       refine gT ?_
       conv=>whnf
       refine And.intro rfl ?_;conv=>whnf
       refine And.intro ⟨rfl,rfl⟩ (And.intro (show (2+1)*16≤140737488355328 by decide) ?_)
       conv=>whnf
       first | exact .inl rfl | exact .inr ⟨rfl,rfl⟩
   | false =>
    refine gT ?_
    conv=>whnf
    refine And.intro rfl ?_;conv=>whnf
    refine And.intro (show 1*16≤140737488355328 by decide) ?_
    conv=>whnf
    refine cO (fun _=>hq) ?_
    conv=>whnf
    refine cO (fun _=>hs) ?_
    conv=>whnf
    rw [hc4]
    cases c4 with
    | true =>
     refine gF ?_
     conv=>whnf
     cases d4:decide (a.rank=b.rank) with
     | true =>
      refine gF ?_
      conv=>whnf
      cases d5:decide (a.majority=b.majority) with
      | true =>
       refine gF ?_
       conv=>whnf
       first | exact .inl rfl | exact .inr ⟨rfl,rfl⟩
      | false =>
       refine gT ?_
       conv=>whnf
       refine And.intro rfl ?_;conv=>whnf
       refine And.intro ⟨rfl,rfl⟩ (And.intro (show (1+1)*16≤140737488355328 by decide) ?_)
       conv=>whnf
       first | exact .inl rfl | exact .inr ⟨rfl,rfl⟩
     | false =>
      refine gT ?_
      conv=>whnf
      refine And.intro rfl ?_;conv=>whnf
      refine And.intro ⟨rfl,rfl⟩ (And.intro (show (1+1)*16≤140737488355328 by decide) ?_)
      conv=>whnf
      cases d5:decide (a.majority=b.majority) with
      | true =>
       refine gF ?_
       conv=>whnf
       first | exact .inl rfl | exact .inr ⟨rfl,rfl⟩
      | false =>
       refine gT ?_
       conv=>whnf
       refine And.intro rfl ?_;conv=>whnf
       refine And.intro ⟨rfl,rfl⟩ (And.intro (show (2+1)*16≤140737488355328 by decide) ?_)
       conv=>whnf
       first | exact .inl rfl | exact .inr ⟨rfl,rfl⟩
    | false =>
     refine gT ?_
     conv=>whnf
     refine And.intro rfl ?_;conv=>whnf
     refine And.intro ⟨rfl,rfl⟩ (And.intro (show (1+1)*16≤140737488355328 by decide) ?_)
     conv=>whnf
     cases d4:decide (a.rank=b.rank) with
     | true =>
      refine gF ?_
      conv=>whnf
      cases d5:decide (a.majority=b.majority) with
      | true =>
       refine gF ?_
       conv=>whnf
       first | exact .inl rfl | exact .inr ⟨rfl,rfl⟩
      | false =>
       refine gT ?_
       conv=>whnf
       refine And.intro rfl ?_;conv=>whnf
       refine And.intro ⟨rfl,rfl⟩ (And.intro (show (2+1)*16≤140737488355328 by decide) ?_)
       conv=>whnf
       first | exact .inl rfl | exact .inr ⟨rfl,rfl⟩
     | false =>
      refine gT ?_
      conv=>whnf
      refine And.intro rfl ?_;conv=>whnf
      refine And.intro ⟨rfl,rfl⟩ (And.intro (show (2+1)*16≤140737488355328 by decide) ?_)
      conv=>whnf
      cases d5:decide (a.majority=b.majority) with
      | true =>
       refine gF ?_
       conv=>whnf
       first | exact .inl rfl | exact .inr ⟨rfl,rfl⟩
      | false =>
       refine gT ?_
       conv=>whnf
       refine And.intro rfl ?_;conv=>whnf
       refine And.intro ⟨rfl,rfl⟩ (And.intro (show (3+1)*16≤140737488355328 by decide) ?_)
       conv=>whnf
       first | exact .inl rfl | exact .inr ⟨rfl,rfl⟩
  | false =>
   refine gT ?_
   conv=>whnf
   refine And.intro rfl ?_;conv=>whnf
   refine And.intro (show 1*16≤140737488355328 by decide) ?_
   conv=>whnf
   cases d2:decide (a.to=b.to) with
   | true =>
    refine gF ?_
    conv=>whnf
    refine cO (fun _=>hq) ?_
    conv=>whnf
    refine cO (fun _=>hs) ?_
    conv=>whnf
    rw [hc4]
    cases c4 with
    | true =>
     refine gF ?_
     conv=>whnf
     cases d4:decide (a.rank=b.rank) with
     | true =>
      refine gF ?_
      conv=>whnf
      cases d5:decide (a.majority=b.majority) with
      | true =>
       refine gF ?_
       conv=>whnf
       first | exact .inl rfl | exact .inr ⟨rfl,rfl⟩
      | false =>
       refine gT ?_
       conv=>whnf
       refine And.intro rfl ?_;conv=>whnf
       refine And.intro ⟨rfl,rfl⟩ (And.intro (show (1+1)*16≤140737488355328 by decide) ?_)
       conv=>whnf
       first | exact .inl rfl | exact .inr ⟨rfl,rfl⟩
     | false =>
      refine gT ?_
      conv=>whnf
      refine And.intro rfl ?_;conv=>whnf
      refine And.intro ⟨rfl,rfl⟩ (And.intro (show (1+1)*16≤140737488355328 by decide) ?_)
      conv=>whnf
      cases d5:decide (a.majority=b.majority) with
      | true =>
       refine gF ?_
       conv=>whnf
       first | exact .inl rfl | exact .inr ⟨rfl,rfl⟩
      | false =>
       refine gT ?_
       conv=>whnf
       refine And.intro rfl ?_;conv=>whnf
       refine And.intro ⟨rfl,rfl⟩ (And.intro (show (2+1)*16≤140737488355328 by decide) ?_)
       conv=>whnf
       first | exact .inl rfl | exact .inr ⟨rfl,rfl⟩
    | false =>
     refine gT ?_
     conv=>whnf
     refine And.intro rfl ?_;conv=>whnf
     refine And.intro ⟨rfl,rfl⟩ (And.intro (show (1+1)*16≤140737488355328 by decide) ?_)
     conv=>whnf
     cases d4:decide (a.rank=b.rank) with
     | true =>
      refine gF ?_
      conv=>whnf
      cases d5:decide (a.majority=b.majority) with
      | true =>
       refine gF ?_
       conv=>whnf
       first | exact .inl rfl | exact .inr ⟨rfl,rfl⟩
      | false =>
       refine gT ?_
       conv=>whnf
       refine And.intro rfl ?_;conv=>whnf
       refine And.intro ⟨rfl,rfl⟩ (And.intro (show (2+1)*16≤140737488355328 by decide) ?_)
       conv=>whnf
       first | exact .inl rfl | exact .inr ⟨rfl,rfl⟩
     | false =>
      refine gT ?_
      conv=>whnf
      refine And.intro rfl ?_;conv=>whnf
      refine And.intro ⟨rfl,rfl⟩ (And.intro (show (2+1)*16≤140737488355328 by decide) ?_)
      conv=>whnf
      cases d5:decide (a.majority=b.majority) with
      | true =>
       refine gF ?_
       conv=>whnf
       first | exact .inl rfl | exact .inr ⟨rfl,rfl⟩
      | false =>
       refine gT ?_
       conv=>whnf
       refine And.intro rfl ?_;conv=>whnf
       refine And.intro ⟨rfl,rfl⟩ (And.intro (show (3+1)*16≤140737488355328 by decide) ?_)
       conv=>whnf
       first | exact .inl rfl | exact .inr ⟨rfl,rfl⟩
   | false =>
    refine gT ?_
    conv=>whnf
    refine And.intro rfl ?_;conv=>whnf
    refine And.intro ⟨rfl,rfl⟩ (And.intro (show (1+1)*16≤140737488355328 by decide) ?_)
    conv=>whnf
    refine cO (fun _=>hq) ?_
    conv=>whnf
    refine cO (fun _=>hs) ?_
    conv=>whnf
    rw [hc4]
    cases c4 with
    | true =>
     refine gF ?_
     conv=>whnf
     cases d4:decide (a.rank=b.rank) with
     | true =>
      refine gF ?_
      conv=>whnf
      cases d5:decide (a.majority=b.majority) with
      | true =>
       refine gF ?_
       conv=>whnf
       first | exact .inl rfl | exact .inr ⟨rfl,rfl⟩
      | false =>
       refine gT ?_
       conv=>whnf
       refine And.intro rfl ?_;conv=>whnf
       refine And.intro ⟨rfl,rfl⟩ (And.intro (show (2+1)*16≤140737488355328 by decide) ?_)
       conv=>whnf
       first | exact .inl rfl | exact .inr ⟨rfl,rfl⟩
     | false =>
      refine gT ?_
      conv=>whnf
      refine And.intro rfl ?_;conv=>whnf
      refine And.intro ⟨rfl,rfl⟩ (And.intro (show (2+1)*16≤140737488355328 by decide) ?_)
      conv=>whnf
      cases d5:decide (a.majority=b.majority) with
      | true =>
       refine gF ?_
       conv=>whnf
       first | exact .inl rfl | exact .inr ⟨rfl,rfl⟩
      | false =>
       refine gT ?_
       conv=>whnf
       refine And.intro rfl ?_;conv=>whnf
       refine And.intro ⟨rfl,rfl⟩ (And.intro (show (3+1)*16≤140737488355328 by decide) ?_)
       conv=>whnf
       first | exact .inl rfl | exact .inr ⟨rfl,rfl⟩
    | false =>
     refine gT ?_
     conv=>whnf
     refine And.intro rfl ?_;conv=>whnf
     refine And.intro ⟨rfl,rfl⟩ (And.intro (show (2+1)*16≤140737488355328 by decide) ?_)
     conv=>whnf
     cases d4:decide (a.rank=b.rank) with
     | true =>
      refine gF ?_
      conv=>whnf
      cases d5:decide (a.majority=b.majority) with
      | true =>
       refine gF ?_
       conv=>whnf
       first | exact .inl rfl | exact .inr ⟨rfl,rfl⟩
      | false =>
       refine gT ?_
       conv=>whnf
       refine And.intro rfl ?_;conv=>whnf
       refine And.intro ⟨rfl,rfl⟩ (And.intro (show (3+1)*16≤140737488355328 by decide) ?_)
       conv=>whnf
       first | exact .inl rfl | exact .inr ⟨rfl,rfl⟩
     | false =>
      refine gT ?_
      conv=>whnf
      refine And.intro rfl ?_;conv=>whnf
      refine And.intro ⟨rfl,rfl⟩ (And.intro (show (3+1)*16≤140737488355328 by decide) ?_)
      conv=>whnf
      cases d5:decide (a.majority=b.majority) with
      | true =>
       refine gF ?_
       conv=>whnf
       first | exact .inl rfl | exact .inr ⟨rfl,rfl⟩
      | false =>
       refine gT ?_
       conv=>whnf
       refine And.intro rfl ?_;conv=>whnf
       refine And.intro ⟨rfl,rfl⟩ (And.intro (show (4+1)*16≤140737488355328 by decide) ?_)
       conv=>whnf
       first | exact .inl rfl | exact .inr ⟨rfl,rfl⟩
 | false =>
  refine gT ?_
  conv=>whnf
  refine And.intro rfl ?_;conv=>whnf
  refine And.intro (show 1*16≤140737488355328 by decide) ?_
  conv=>whnf
  cases d1:decide (a.frm=b.frm) with
  | true =>
   refine gF ?_
   conv=>whnf
   cases d2:decide (a.to=b.to) with
   | true =>
    refine gF ?_
    conv=>whnf
    refine cO (fun _=>hq) ?_
    conv=>whnf
    refine cO (fun _=>hs) ?_
    conv=>whnf
    rw [hc4]
    cases c4 with
    | true =>
     refine gF ?_
     conv=>whnf
     cases d4:decide (a.rank=b.rank) with
     | true =>
      refine gF ?_
      conv=>whnf
      cases d5:decide (a.majority=b.majority) with
      | true =>
       refine gF ?_
       conv=>whnf
       first | exact .inl rfl | exact .inr ⟨rfl,rfl⟩
      | false =>
       refine gT ?_
       conv=>whnf
       refine And.intro rfl ?_;conv=>whnf
       refine And.intro ⟨rfl,rfl⟩ (And.intro (show (1+1)*16≤140737488355328 by decide) ?_)
       conv=>whnf
       first | exact .inl rfl | exact .inr ⟨rfl,rfl⟩
     | false =>
      refine gT ?_
      conv=>whnf
      refine And.intro rfl ?_;conv=>whnf
      refine And.intro ⟨rfl,rfl⟩ (And.intro (show (1+1)*16≤140737488355328 by decide) ?_)
      conv=>whnf
      cases d5:decide (a.majority=b.majority) with
      | true =>
       refine gF ?_
       conv=>whnf
       first | exact .inl rfl | exact .inr ⟨rfl,rfl⟩
      | false =>
       refine gT ?_
       conv=>whnf
       refine And.intro rfl ?_;conv=>whnf
       refine And.intro ⟨rfl,rfl⟩ (And.intro (show (2+1)*16≤140737488355328 by decide) ?_)
       conv=>whnf
       first | exact .inl rfl | exact .inr ⟨rfl,rfl⟩
    | false =>
     refine gT ?_
     conv=>whnf
     refine And.intro rfl ?_;conv=>whnf
     refine And.intro ⟨rfl,rfl⟩ (And.intro (show (1+1)*16≤140737488355328 by decide) ?_)
     conv=>whnf
     cases d4:decide (a.rank=b.rank) with
     | true =>
      refine gF ?_
      conv=>whnf
      cases d5:decide (a.majority=b.majority) with
      | true =>
       refine gF ?_
       conv=>whnf
       first | exact .inl rfl | exact .inr ⟨rfl,rfl⟩
      | false =>
       refine gT ?_
       conv=>whnf
       refine And.intro rfl ?_;conv=>whnf
       refine And.intro ⟨rfl,rfl⟩ (And.intro (show (2+1)*16≤140737488355328 by decide) ?_)
       conv=>whnf
       first | exact .inl rfl | exact .inr ⟨rfl,rfl⟩
     | false =>
      refine gT ?_
      conv=>whnf
      refine And.intro rfl ?_;conv=>whnf
      refine And.intro ⟨rfl,rfl⟩ (And.intro (show (2+1)*16≤140737488355328 by decide) ?_)
      conv=>whnf
      cases d5:decide (a.majority=b.majority) with
      | true =>
       refine gF ?_
       conv=>whnf
       first | exact .inl rfl | exact .inr ⟨rfl,rfl⟩
      | false =>
       refine gT ?_
       conv=>whnf
       refine And.intro rfl ?_;conv=>whnf
       refine And.intro ⟨rfl,rfl⟩ (And.intro (show (3+1)*16≤140737488355328 by decide) ?_)
       conv=>whnf
       first | exact .inl rfl | exact .inr ⟨rfl,rfl⟩
   | false =>
    refine gT ?_
    conv=>whnf
    refine And.intro rfl ?_;conv=>whnf
    refine And.intro ⟨rfl,rfl⟩ (And.intro (show (1+1)*16≤140737488355328 by decide) ?_)
    conv=>whnf
    refine cO (fun _=>hq) ?_
    conv=>whnf
    refine cO (fun _=>hs) ?_
    conv=>whnf
    rw [hc4]
    cases c4 with
    | true =>
     refine gF ?_
     conv=>whnf
     cases d4:decide (a.rank=b.rank) with
     | true =>
      refine gF ?_
      conv=>whnf
      cases d5:decide (a.majority=b.majority) with
      | true =>
       refine gF ?_
       conv=>whnf
       first | exact .inl rfl | exact .inr ⟨rfl,rfl⟩
      | false =>
       refine gT ?_
       conv=>whnf
       refine And.intro rfl ?_;conv=>whnf
       refine And.intro ⟨rfl,rfl⟩ (And.intro (show (2+1)*16≤140737488355328 by decide) ?_)
       conv=>whnf
       first | exact .inl rfl | exact .inr ⟨rfl,rfl⟩
     | false =>
      refine gT ?_
      conv=>whnf
      refine And.intro rfl ?_;conv=>whnf
      refine And.intro ⟨rfl,rfl⟩ (And.intro (show (2+1)*16≤140737488355328 by decide) ?_)
      conv=>whnf
      cases d5:decide (a.majority=b.majority) with
      | true =>
       refine gF ?_
       conv=>whnf
       first | exact .inl rfl | exact .inr ⟨rfl,rfl⟩
      | false =>
       refine gT ?_
       conv=>whnf
       refine And.intro rfl ?_;conv=>whnf
       refine And.intro ⟨rfl,rfl⟩ (And.intro (show (3+1)*16≤140737488355328 by decide) ?_)
       conv=>whnf
       first | exact .inl rfl | exact .inr ⟨rfl,rfl⟩
    | false =>
     refine gT ?_
     conv=>whnf
     refine And.intro rfl ?_;conv=>whnf
     refine And.intro ⟨rfl,rfl⟩ (And.intro (show (2+1)*16≤140737488355328 by decide) ?_)
     conv=>whnf
     cases d4:decide (a.rank=b.rank) with
     | true =>
      refine gF ?_
      conv=>whnf
      cases d5:decide (a.majority=b.majority) with
      | true =>
       refine gF ?_
       conv=>whnf
       first | exact .inl rfl | exact .inr ⟨rfl,rfl⟩
      | false =>
       refine gT ?_
       conv=>whnf
       refine And.intro rfl ?_;conv=>whnf
       refine And.intro ⟨rfl,rfl⟩ (And.intro (show (3+1)*16≤140737488355328 by decide) ?_)
       conv=>whnf
       first | exact .inl rfl | exact .inr ⟨rfl,rfl⟩
     | false =>
      refine gT ?_
      conv=>whnf
      refine And.intro rfl ?_;conv=>whnf
      refine And.intro ⟨rfl,rfl⟩ (And.intro (show (3+1)*16≤140737488355328 by decide) ?_)
      conv=>whnf
      cases d5:decide (a.majority=b.majority) with
      | true =>
       refine gF ?_
       conv=>whnf
       first | exact .inl rfl | exact .inr ⟨rfl,rfl⟩
      | false =>
       refine gT ?_
       conv=>whnf
       refine And.intro rfl ?_;conv=>whnf
       refine And.intro ⟨rfl,rfl⟩ (And.intro (show (4+1)*16≤140737488355328 by decide) ?_)
       conv=>whnf
       first | exact .inl rfl | exact .inr ⟨rfl,rfl⟩
  | false =>
   refine gT ?_
   conv=>whnf
   refine And.intro rfl ?_;conv=>whnf
   refine And.intro ⟨rfl,rfl⟩ (And.intro (show (1+1)*16≤140737488355328 by decide) ?_)
   conv=>whnf
   cases d2:decide (a.to=b.to) with
   | true =>
    refine gF ?_
    conv=>whnf
    refine cO (fun _=>hq) ?_
    conv=>whnf
    refine cO (fun _=>hs) ?_
    conv=>whnf
    rw [hc4]
    cases c4 with
    | true =>
     refine gF ?_
     conv=>whnf
     cases d4:decide (a.rank=b.rank) with
     | true =>
      refine gF ?_
      conv=>whnf
      cases d5:decide (a.majority=b.majority) with
      | true =>
       refine gF ?_
       conv=>whnf
       first | exact .inl rfl | exact .inr ⟨rfl,rfl⟩
      | false =>
       refine gT ?_
       conv=>whnf
       refine And.intro rfl ?_;conv=>whnf
       refine And.intro ⟨rfl,rfl⟩ (And.intro (show (2+1)*16≤140737488355328 by decide) ?_)
       conv=>whnf
       first | exact .inl rfl | exact .inr ⟨rfl,rfl⟩
     | false =>
      refine gT ?_
      conv=>whnf
      refine And.intro rfl ?_;conv=>whnf
      refine And.intro ⟨rfl,rfl⟩ (And.intro (show (2+1)*16≤140737488355328 by decide) ?_)
      conv=>whnf
      cases d5:decide (a.majority=b.majority) with
      | true =>
       refine gF ?_
       conv=>whnf
       first | exact .inl rfl | exact .inr ⟨rfl,rfl⟩
      | false =>
       refine gT ?_
       conv=>whnf
       refine And.intro rfl ?_;conv=>whnf
       refine And.intro ⟨rfl,rfl⟩ (And.intro (show (3+1)*16≤140737488355328 by decide) ?_)
       conv=>whnf
       first | exact .inl rfl | exact .inr ⟨rfl,rfl⟩
    | false =>
     refine gT ?_
     conv=>whnf
     refine And.intro rfl ?_;conv=>whnf
     refine And.intro ⟨rfl,rfl⟩ (And.intro (show (2+1)*16≤140737488355328 by decide) ?_)
     conv=>whnf
     cases d4:decide (a.rank=b.rank) with
     | true =>
      refine gF ?_
      conv=>whnf
      cases d5:decide (a.majority=b.majority) with
      | true =>
       refine gF ?_
       conv=>whnf
       first | exact .inl rfl | exact .inr ⟨rfl,rfl⟩
      | false =>
       refine gT ?_
       conv=>whnf
       refine And.intro rfl ?_;conv=>whnf
       refine And.intro ⟨rfl,rfl⟩ (And.intro (show (3+1)*16≤140737488355328 by decide) ?_)
       conv=>whnf
       first | exact .inl rfl | exact .inr ⟨rfl,rfl⟩
     | false =>
      refine gT ?_
      conv=>whnf
      refine And.intro rfl ?_;conv=>whnf
      refine And.intro ⟨rfl,rfl⟩ (And.intro (show (3+1)*16≤140737488355328 by decide) ?_)
      conv=>whnf
      cases d5:decide (a.majority=b.majority) with
      | true =>
       refine gF ?_
       conv=>whnf
       first | exact .inl rfl | exact .inr ⟨rfl,rfl⟩
      | false =>
       refine gT ?_
       conv=>whnf
       refine And.intro rfl ?_;conv=>whnf
       refine And.intro ⟨rfl,rfl⟩ (And.intro (show (4+1)*16≤140737488355328 by decide) ?_)
       conv=>whnf
       first | exact .inl rfl | exact .inr ⟨rfl,rfl⟩
   | false =>
    refine gT ?_
    conv=>whnf
    refine And.intro rfl ?_;conv=>whnf
    refine And.intro ⟨rfl,rfl⟩ (And.intro (show (2+1)*16≤140737488355328 by decide) ?_)
    conv=>whnf
    refine cO (fun _=>hq) ?_
    conv=>whnf
    refine cO (fun _=>hs) ?_
    conv=>whnf
    rw [hc4]
    cases c4 with
    | true =>
     refine gF ?_
     conv=>whnf
     cases d4:decide (a.rank=b.rank) with
     | true =>
      refine gF ?_
      conv=>whnf
      cases d5:decide (a.majority=b.majority) with
      | true =>
       refine gF ?_
       conv=>whnf
       first | exact .inl rfl | exact .inr ⟨rfl,rfl⟩
      | false =>
       refine gT ?_
       conv=>whnf
       refine And.intro rfl ?_;conv=>whnf
       refine And.intro ⟨rfl,rfl⟩ (And.intro (show (3+1)*16≤140737488355328 by decide) ?_)
       conv=>whnf
       first | exact .inl rfl | exact .inr ⟨rfl,rfl⟩
     | false =>
      refine gT ?_
      conv=>whnf
      refine And.intro rfl ?_;conv=>whnf
      refine And.intro ⟨rfl,rfl⟩ (And.intro (show (3+1)*16≤140737488355328 by decide) ?_)
      conv=>whnf
      cases d5:decide (a.majority=b.majority) with
      | true =>
       refine gF ?_
       conv=>whnf
       first | exact .inl rfl | exact .inr ⟨rfl,rfl⟩
      | false =>
       refine gT ?_
       conv=>whnf
       refine And.intro rfl ?_;conv=>whnf
       refine And.intro ⟨rfl,rfl⟩ (And.intro (show (4+1)*16≤140737488355328 by decide) ?_)
       conv=>whnf
       first | exact .inl rfl | exact .inr ⟨rfl,rfl⟩
    | false =>
     refine gT ?_
     conv=>whnf
     refine And.intro rfl ?_;conv=>whnf
     refine And.intro ⟨rfl,rfl⟩ (And.intro (show (3+1)*16≤140737488355328 by decide) ?_)
     conv=>whnf
     cases d4:decide (a.rank=b.rank) with
     | true =>
      refine gF ?_
      conv=>whnf
      cases d5:decide (a.majority=b.majority) with
      | true =>
       refine gF ?_
       conv=>whnf
       first | exact .inl rfl | exact .inr ⟨rfl,rfl⟩
      | false =>
       refine gT ?_
       conv=>whnf
       refine And.intro rfl ?_;conv=>whnf
       refine And.intro ⟨rfl,rfl⟩ (And.intro (show (4+1)*16≤140737488355328 by decide) ?_)
       conv=>whnf
       first | exact .inl rfl | exact .inr ⟨rfl,rfl⟩
     | false =>
      refine gT ?_
      conv=>whnf
      refine And.intro rfl ?_;conv=>whnf
      refine And.intro ⟨rfl,rfl⟩ (And.intro (show (4+1)*16≤140737488355328 by decide) ?_)
      conv=>whnf
      cases d5:decide (a.majority=b.majority) with
      | true =>
       refine gF ?_
       conv=>whnf
       first | exact .inl rfl | exact .inr ⟨rfl,rfl⟩
      | false =>
       refine gT ?_
       conv=>whnf
       refine And.intro rfl ?_;conv=>whnf
       refine And.intro ⟨rfl,rfl⟩ (And.intro (show (5+1)*16≤140737488355328 by decide) ?_)
       conv=>whnf
       first | exact .inl rfl | exact .inr ⟨rfl,rfl⟩
theorem le_one {P:Program} {f:FuncId} {args:List AV} {R:List AR→Prop} {r':AR} (h:APure P f args R) (hle:∀ rs,R rs→∃ r,rs=[r]∧LeR r r'):APure P f args (fun rs=>rs=[r']):=by
 refine h.le fun rs hrs=>?_
 obtain ⟨r,rfl,hr⟩:=hle rs hrs
 exact ⟨_,rfl,rfl,fun j a b h1 h2=>by
  cases j with
  | zero=>simp at h1 h2;subst h1;subst h2;exact hr
  | succ j=>simp at h1⟩
theorem reserved2_ok (a b:Ind) (ha:OkX a) (hb:OkX b):APure Tryz.prog 17 [encX a,encX b] (fun rs=>rs=[.new (.row 9 1 encS [] (reservedL a b))]):=by
 refine le_one (reserved2_raw a b ha hb) ?_
 rintro rs (rfl | ⟨h,rfl⟩)
 ·exact ⟨_,rfl,.lst _ _ _ _ _ _ rfl⟩
 ·rw [h];exact ⟨_,rfl,.nil _ _ _ _⟩
noncomputable def clausesL (x:Ind):List (List UInt8):=if (printI x).2=0 then cutL (printI x).1 [] else []
theorem txt_end {L:List (List (List UInt8))} (h:L≠[]):∃ s,txt L=s++[10]:=by
 obtain ⟨M,w,rfl⟩:∃ M w,L=M++[w]:=⟨L.dropLast,L.getLast h,(List.dropLast_concat_getLast h).symm⟩
 rw [txt_snoc]
 unfold lineT
 exact ⟨txt M++(Lib.join w [32]++[32,59]),by simp⟩
theorem print_cases (x:Ind):(∃ s,printI x=(s++[10],0)∧s.length<4000)∨(printI x).2≠0:=by
 unfold printI
 split
 ·unfold fitsT
  split
  ·right;decide
  ·rename_i h
   left
   obtain ⟨s,hs⟩:=txt_end (L:=linesW x) (by unfold linesW headW;simp)
   rw [hs] at h ⊢
   rw [List.length_append] at h
   simp at h
   exact ⟨s,rfl,by omega⟩
 ·right;decide
theorem clauses_ok (x:Ind) (hx:OkX x):APureV Tryz.prog 14 [encX x] (.sl 1 encS [] (clausesL x)):=by
 have hp:=print_ok x hx
 unfold clausesL
 rcases print_cases x with ⟨s,e,hs⟩ | hne
 ·rw [e] at hp ⊢
  rw [if_pos rfl]
  have ht:=trim_c (s++[10]) [10] (by simp;omega)
  have hsp:=split_c s [10] (by omega) (by simp)
  have hcs:=clauses_same s
  rw [trim_end] at ht hcs
  unfold splitC at hcs
  rw [hcs] at hsp
  refine aO (cxOk 15 [0,1,2,3,4,11]) Tryz.func14 ?_
  conv=>whnf
  refine cO (fun _=>hp) ?_
  conv=>whnf
  refine gF ?_
  conv=>whnf
  refine cO (fun _=>ht) ?_
  conv=>whnf
  refine cO (fun _=>hsp) ?_
  conv=>whnf
  rfl
 ·rw [if_neg hne]
  generalize (printI x).2=e at *
  generalize (printI x).1=s at *
  have hd:decide (e=0)=false:=decide_eq_false hne
  refine le_one (R:=fun rs=>rs=[.val .nils]) ?_ (fun rs h=>⟨_,h,.nilsl _ _ _⟩)
  refine aO (cxOk 15 [0,1,2,3,4,11]) Tryz.func14 ?_
  conv=>whnf
  refine cO (fun _=>hp) ?_
  conv=>whnf
  rw [hd]
  refine gT ?_
  conv=>whnf
  rfl
theorem acc_step {s:List UInt8} {f i:Nat} (hf:f≤i) (hi:i<s.length):(s.take i).drop f++[s.getD i 0]=(s.take (i+1)).drop f:=by
 rw [take_getD (d:=(0:UInt8)) hi,List.drop_append_of_le_length (by rw [List.length_take];omega)]
theorem acc_nil (s:List UInt8) (i:Nat):(s.take i).drop i=[]:=List.drop_eq_nil_of_le (by rw [List.length_take];omega)
theorem clauses2_ok (x:Ind) (hx:OkX x):APure Tryz.prog 15 [encX x] (fun rs=>rs=[.new (.row 9 1 encS [] (clausesL x))]):=by
 have hp:=print2_ok x hx
 unfold clausesL
 rcases print_cases x with ⟨s,e,hs⟩ | hne
 ·rw [e] at hp ⊢
  rw [if_pos rfl]
  have hl:(s++[10]).length≤4000:=by simp;omega
  show APure Tryz.prog 15 [encX x] (fun rs=>rs=[.new (.row 9 1 encS [] (cutL (s++[10]) []))])
  generalize s++[10]=s at *
  refine aO (cxOk 35 [0,1,2,3,4,5,6,7,14,18,24]) Tryz.func15 ?_
  conv=>whnf
  refine cO (fun _=>hp) ?_
  conv=>whnf
  refine gF ?_
  conv=>whnf
  refine loop_inv (cxOk _ _) (σ:=Nat×Nat×List (List UInt8)) (fun t=>t.1≤t.2.1∧t.2.1≤s.length∧t.2.2.length≤t.2.1∧t.2.2++cutL (s.drop t.2.1) ((s.take t.2.1).drop t.1)=cutL s []) (fun t=>s.length-t.2.1) (fun t=>⟨[(3,.str s),(5,.own 0),(6,.int .i64 ((t.1):Nat)),(7,.int .i64 ((t.2.1):Nat))],[(0,.row 9 1 encS [] (t.2.2))],1⟩) (0,0,[]) ⟨Nat.zero_le _,Nat.zero_le _,Nat.zero_le _,by simp⟩ ((wk_of [(0,.nil)] rfl ⟨wa0,ae0,wa0,wa0,trivial⟩ ⟨⟨_,rfl,ag0⟩,trivial⟩)) ?_
  rintro ⟨f,i,L⟩ ⟨hf,hi,hL,hP⟩
  simp only at hf hi hL hP
  show evCode _ _ (⟨[(3,.str s),(5,.own 0),(6,.int .i64 (f:Nat)),(7,.int .i64 (i:Nat))],[(0,.row 9 1 encS [] L)],1⟩) _
  have eI:(i:Int).toNat=i:=Int.toNat_natCast i
  have eF:(f:Int).toNat=f:=Int.toNat_natCast f
  conv=>whnf
  refine ⟨fun hc=>?_,fun hc=>?_⟩
  ·have hc:=of_decide_eq_true hc
   have hlt:i<s.length:=by omega
   have hst:=acc_step hf hlt
   rw [drop_at 0 hlt,cutL] at hP
   conv=>whnf
   refine iO ?_;conv=>whnf
   have hbyte:((s.getD i 0).toNat:Int)=10↔s.getD i 0=10:=by
    generalize s.getD i 0=c
    constructor
    ·intro h
     apply UInt8.toNat_inj.1
     show c.toNat=10
     omega
    ·rintro rfl
     rfl
   refine ⟨fun hd=>?_,fun hd=>?_⟩
   ·rw [eI] at hd
    have hd:=hbyte.1 (of_decide_eq_true hd)
    rw [if_pos hd] at hP
    conv=>whnf
    refine iO ?_;conv=>whnf
    refine And.intro rfl ?_;conv=>whnf
    refine And.intro ⟨rfl,rfl⟩ (And.intro (show (L.length+1)*16≤140737488355328 by omega) ?_)
    conv=>whnf
    refine ⟨_,rfl,?_⟩
    conv=>whnf
    refine iO ?_;conv=>whnf
    refine iO ?_;conv=>whnf
    refine ⟨(i+1,i+1,L++[(s.take i).drop f]),⟨Nat.le_refl _,hlt,by simp;omega,?_⟩,by show s.length-(i+1)<s.length-i;omega,(wk_of [(0,.id 2)] rfl ⟨wa0,ae0,wa0,wa0,trivial⟩ ⟨⟨_,rfl,(by first | exact .row _ _ _ _ _ _ _ rfl (by show L++[(s.take (i:Int).toNat).drop (f:Int).toNat]=L++[(s.take i).drop f];rw [eI,eF]) | exact .lstrow _ _ _ _ _ _ _ rfl (by show L++[(s.take (i:Int).toNat).drop (f:Int).toNat]=L++[(s.take i).drop f];rw [eI,eF]) | exact .nilrow _ _ _ _ _ (by show L++[(s.take (i:Int).toNat).drop (f:Int).toNat]=L++[(s.take i).drop f];rw [eI,eF]) | exact .truncrow _ _ _ _ _ _ _ _ rfl (by omega) (by show L++[(s.take (i:Int).toNat).drop (f:Int).toNat]=L++[(s.take i).drop f];rw [eI,eF]))⟩,trivial⟩)⟩
    rw [acc_nil,List.append_assoc]
    exact hP
   ·rw [eI] at hd
    have hd:=mt hbyte.2 (of_decide_eq_false hd)
    rw [if_neg hd,hst] at hP
    conv=>whnf
    refine iO ?_;conv=>whnf
    refine ⟨(f,i+1,L),⟨by show f≤i+1;omega,hlt,by show L.length≤i+1;omega,hP⟩,by show s.length-(i+1)<s.length-i;omega,(wk_of [(0,.id 0)] rfl ⟨wa0,ae0,wa0,wa0,trivial⟩ ⟨⟨_,rfl,ag0⟩,trivial⟩)⟩
  ·have hc:=of_decide_eq_false hc
   rw [List.drop_eq_nil_of_le (show s.length≤i by omega),cutL,List.append_nil] at hP
   conv=>whnf
   rw [hP]
   rfl
 ·rw [if_neg hne]
  generalize (printI x).2=e at *
  generalize (printI x).1=s at *
  have hd:decide (e=0)=false:=decide_eq_false hne
  refine le_one (R:=fun rs=>rs=[.val .nils]) ?_ (fun rs h=>⟨_,h,.nil _ _ _ _⟩)
  refine aO (cxOk 35 [0,1,2,3,4,5,6,7,14,18,24]) Tryz.func15 ?_
  conv=>whnf
  refine cO (fun _=>hp) ?_
  conv=>whnf
  rw [hd]
  refine gT ?_
  conv=>whnf
  rfl
end Go.Proofs.YtohankpncipefaaGreatDoor
