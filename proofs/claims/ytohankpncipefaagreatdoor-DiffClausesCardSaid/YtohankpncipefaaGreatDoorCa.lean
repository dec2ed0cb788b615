import Derived.Test.YtohankpncipefaaGreatDoorProg
import Derived.Test.YtohankpncipefaaGreatDoorLc
import Derived.Test.YtohankpncipefaaGreatDoorLd
import Derived.KernelRfl
import Derived.Shelf.Strconv.Itoa3
import Derived.Shelf.Small.Wraps
import Derived.Shelf.Small.Strs
import Derived.Shelf.Strings.OnBuilder
import Derived.Shelf.Strings.Split
import Derived.Shelf.Strings.Prefix
import Derived.Ground.NamesProg
import Derived.Lib.ItoaLen
namespace Go.Proofs.YtohankpncipefaaGreatDoor
open Go.Own
def signs:List (List UInt8):=[[61,61],[59],[44],[61],[60],[43],[45],[42],[47],[40],[41]]
instance:Tabs:=⟨fun g=>match g with
 | 0=>some fun cs=>cs=(signs.map fun s=>Value.string ⟨s.toArray⟩).toArray
 | 1=>some fun cs=>∃ m:Int,cs=#[.int .i64 m]
 | 2=>some fun cs=>cs=(Lib.pow10Tab.map fun z=>Value.int .u64 z).toArray
 | _=>none⟩
def tab:Tab:=[
 (3,{ desc:=.int .i64,size:=1,bytes:=8,zero:=.int .i64 0 }),
 (4,{ desc:=.bool,size:=1,bytes:=1,zero:=.bool false }),
 (5,{ desc:=.int .u8,size:=1,bytes:=1,zero:=.int .u8 0 }),
 (9,{ desc:=.string,size:=1,bytes:=16,zero:=.string ⟨#[]⟩ }),
 (20,{ desc:=.interface #[],size:=1,bytes:=16,zero:=.nilIface }),
 (22,{ desc:=.slice 9,size:=1,bytes:=24,zero:=.slice none 0 0 }),
 (23,{ desc:=.slice 50,size:=1,bytes:=24,zero:=.slice none 0 0 }),
 (24,{ desc:=.slice 55,size:=1,bytes:=24,zero:=.slice none 0 0 }),
 (25,{ desc:=.slice 27,size:=1,bytes:=24,zero:=.slice none 0 0 }),
 (27, { desc := .struct #[{ name := "Op", type := 3, offset := 0, embedded := false, tag := "", pkgPath := "", byteOffset := 0 }, { name := "N", type := 3, offset := 1, embedded := false, tag := "", pkgPath := "", byteOffset := 8 }, { name := "Unit", type := 3, offset := 2, embedded := false, tag := "", pkgPath := "", byteOffset := 16 }, { name := "S", type := 9, offset := 3, embedded := false, tag := "", pkgPath := "", byteOffset := 24 }, { name := "Args", type := 25, offset := 4, embedded := false, tag := "", pkgPath := "", byteOffset := 40 }], size := 5, bytes := 64, zero := .agg #[.int .i64 0, .int .i64 0, .int .i64 0, .string ⟨#[]⟩, .slice none 0 0] }),
 (28,{ desc:=.slice 57,size:=1,bytes:=24,zero:=.slice none 0 0 }),
 (29,{ desc:=.slice 87,size:=1,bytes:=24,zero:=.slice none 0 0 }),
 (31, { desc := .struct #[{ name := "Name", type := 9, offset := 0, embedded := false, tag := "", pkgPath := "", byteOffset := 0 }, { name := "Issuer", type := 9, offset := 1, embedded := false, tag := "", pkgPath := "", byteOffset := 16 }, { name := "Face", type := 3, offset := 2, embedded := false, tag := "", pkgPath := "", byteOffset := 32 }, { name := "From", type := 3, offset := 3, embedded := false, tag := "", pkgPath := "", byteOffset := 40 }, { name := "To", type := 3, offset := 4, embedded := false, tag := "", pkgPath := "", byteOffset := 48 }, { name := "Every", type := 3, offset := 5, embedded := false, tag := "", pkgPath := "", byteOffset := 56 }, { name := "Count", type := 3, offset := 6, embedded := false, tag := "", pkgPath := "", byteOffset := 64 }, { name := "Adjust", type := 3, offset := 7, embedded := false, tag := "", pkgPath := "", byteOffset := 72 }, { name := "Record", type := 3, offset := 8, embedded := false, tag := "", pkgPath := "", byteOffset := 80 }, { name := "Rank", type := 3, offset := 9, embedded := false, tag := "", pkgPath := "", byteOffset := 88 }, { name := "Lets", type := 24, offset := 10, embedded := false, tag := "", pkgPath := "", byteOffset := 96 }, { name := "Coupon", type := 27, offset := 11, embedded := false, tag := "", pkgPath := "", byteOffset := 120 }, { name := "Cap", type := 3, offset := 16, embedded := false, tag := "", pkgPath := "", byteOffset := 184 }, { name := "Covenants", type := 28, offset := 17, embedded := false, tag := "", pkgPath := "", byteOffset := 192 }, { name := "Favour", type := 22, offset := 18, embedded := false, tag := "", pkgPath := "", byteOffset := 216 }, { name := "Cross", type := 3, offset := 19, embedded := false, tag := "", pkgPath := "", byteOffset := 240 }, { name := "Calls", type := 29, offset := 20, embedded := false, tag := "", pkgPath := "", byteOffset := 248 }, { name := "Notice", type := 3, offset := 21, embedded := false, tag := "", pkgPath := "", byteOffset := 272 }, { name := "Sink", type := 3, offset := 22, embedded := false, tag := "", pkgPath := "", byteOffset := 280 }, { name := "Majority", type := 3, offset := 23, embedded := false, tag := "", pkgPath := "", byteOffset := 288 }, { name := "Fast", type := 3, offset := 24, embedded := false, tag := "", pkgPath := "", byteOffset := 296 }], size := 25, bytes := 304, zero := .agg #[.string ⟨#[]⟩, .string ⟨#[]⟩, .int .i64 0, .int .i64 0, .int .i64 0, .int .i64 0, .int .i64 0, .int .i64 0, .int .i64 0, .int .i64 0, .slice none 0 0, .int .i64 0, .int .i64 0, .int .i64 0, .string ⟨#[]⟩, .slice none 0 0, .int .i64 0, .slice none 0 0, .slice none 0 0, .int .i64 0, .slice none 0 0, .int .i64 0, .int .i64 0, .int .i64 0, .int .i64 0] }),
 (35,{ desc:=.int .i64,size:=1,bytes:=8,zero:=.int .i64 0 }),
 (50, { desc := .struct #[{ name := "Old", type := 3, offset := 0, embedded := false, tag := "", pkgPath := "", byteOffset := 0 }, { name := "New", type := 3, offset := 1, embedded := false, tag := "", pkgPath := "", byteOffset := 8 }], size := 2, bytes := 16, zero := .agg #[.int .i64 0, .int .i64 0] }),
 (55, { desc := .struct #[{ name := "Name", type := 9, offset := 0, embedded := false, tag := "", pkgPath := "", byteOffset := 0 }, { name := "Body", type := 27, offset := 1, embedded := false, tag := "", pkgPath := "", byteOffset := 16 }], size := 6, bytes := 80, zero := .agg #[.string ⟨#[]⟩, .int .i64 0, .int .i64 0, .int .i64 0, .string ⟨#[]⟩, .slice none 0 0] }),
 (57, { desc := .struct #[{ name := "Name", type := 9, offset := 0, embedded := false, tag := "", pkgPath := "", byteOffset := 0 }, { name := "Must", type := 27, offset := 1, embedded := false, tag := "", pkgPath := "", byteOffset := 16 }, { name := "Grace", type := 3, offset := 6, embedded := false, tag := "", pkgPath := "", byteOffset := 80 }], size := 7, bytes := 88, zero := .agg #[.string ⟨#[]⟩, .int .i64 0, .int .i64 0, .int .i64 0, .string ⟨#[]⟩, .slice none 0 0, .int .i64 0] }),
 (59,{ desc:=.array 201 3,size:=201,bytes:=1608,zero:=.agg (Array.replicate 201 (.int .i64 0)) }),
 (60,{ desc:=.array 201 59,size:=40401,bytes:=323208,zero:=.agg (Array.replicate 40401 (.int .i64 0)) }),
 (62,{ desc:=.slice 64,size:=1,bytes:=24,zero:=.slice none 0 0 }),
 (64,{ desc:=.slice 3,size:=1,bytes:=24,zero:=.slice none 0 0 }),
 (70, { desc := .struct #[{ name := "name", type := 9, offset := 0, embedded := false, tag := "", pkgPath := "consol/diff", byteOffset := 0 }, { name := "same", type := 4, offset := 1, embedded := false, tag := "", pkgPath := "consol/diff", byteOffset := 16 }], size := 2, bytes := 24, zero := .agg #[.string ⟨#[]⟩, .bool false] }),
 (71,{ desc:=.slice 70,size:=1,bytes:=24,zero:=.slice none 0 0 }),
 (73,{ desc:=.pointer 76,size:=1,bytes:=8,zero:=.pointer none }),
 (74,{ desc:=.slice 5,size:=1,bytes:=24,zero:=.slice none 0 0 }),
 (76, { desc := .struct #[{ name := "addr", type := 73, offset := 0, embedded := false, tag := "", pkgPath := "strings", byteOffset := 0 }, { name := "buf", type := 74, offset := 1, embedded := false, tag := "", pkgPath := "strings", byteOffset := 8 }], size := 2, bytes := 32, zero := .agg #[.pointer none, .slice none 0 0] }),
 (87, { desc := .struct #[{ name := "From", type := 3, offset := 0, embedded := false, tag := "", pkgPath := "", byteOffset := 0 }, { name := "Price", type := 3, offset := 1, embedded := false, tag := "", pkgPath := "", byteOffset := 8 }], size := 2, bytes := 16, zero := .agg #[.int .i64 0, .int .i64 0] }),
 (90,{ desc:=.pointer 132,size:=1,bytes:=8,zero:=.pointer none }),
 (94,{ desc:=.pointer 3,size:=1,bytes:=8,zero:=.pointer none }),
 (95,{ desc:=.pointer 35,size:=1,bytes:=8,zero:=.pointer none }),
 (118,{ desc:=.func #[3,3] #[9] false,size:=1,bytes:=8,zero:=.nilFunc }),
 (122, { desc := .struct #[{ name := "text", type := 9, offset := 0, embedded := false, tag := "", pkgPath := "consol/syntax", byteOffset := 0 }, { name := "op", type := 3, offset := 1, embedded := false, tag := "", pkgPath := "consol/syntax", byteOffset := 16 }, { name := "form", type := 3, offset := 2, embedded := false, tag := "", pkgPath := "consol/syntax", byteOffset := 24 }], size := 3, bytes := 32, zero := .agg #[.string ⟨#[]⟩, .int .i64 0, .int .i64 0] }),
 (123,{ desc:=.slice 122,size:=1,bytes:=24,zero:=.slice none 0 0 }),
 (127,{ desc:=.pointer 5,size:=1,bytes:=8,zero:=.pointer none }),
 (128,{ desc:=.slice 145,size:=1,bytes:=24,zero:=.slice none 0 0 }),
 (132, { desc := .struct #[{ name := "l", type := 128, offset := 0, embedded := false, tag := "", pkgPath := "consol/syntax", byteOffset := 0 }, { name := "at", type := 3, offset := 1, embedded := false, tag := "", pkgPath := "consol/syntax", byteOffset := 24 }], size := 2, bytes := 32, zero := .agg #[.slice none 0 0, .int .i64 0] }),
 (134, { desc := .struct #[{ name := "pos", type := 3, offset := 0, embedded := false, tag := "", pkgPath := "consol/syntax", byteOffset := 0 }, { name := "err", type := 35, offset := 1, embedded := false, tag := "", pkgPath := "consol/syntax", byteOffset := 8 }], size := 2, bytes := 16, zero := .agg #[.int .i64 0, .int .i64 0] }),
 (141,{ desc:=.pointer 31,size:=1,bytes:=8,zero:=.pointer none }),
 (145, { desc := .struct #[{ name := "Kind", type := 3, offset := 0, embedded := false, tag := "", pkgPath := "", byteOffset := 0 }, { name := "Text", type := 9, offset := 1, embedded := false, tag := "", pkgPath := "", byteOffset := 8 }, { name := "N", type := 3, offset := 2, embedded := false, tag := "", pkgPath := "", byteOffset := 24 }, { name := "Pos", type := 3, offset := 3, embedded := false, tag := "", pkgPath := "", byteOffset := 32 }], size := 4, bytes := 40, zero := .agg #[.int .i64 0, .string ⟨#[]⟩, .int .i64 0, .int .i64 0] }),
 (186,{ desc:=.array 11 9,size:=11,bytes:=176,zero:=.agg #[.string ⟨#[]⟩,.string ⟨#[]⟩,.string ⟨#[]⟩,.string ⟨#[]⟩,.string ⟨#[]⟩,.string ⟨#[]⟩,.string ⟨#[]⟩,.string ⟨#[]⟩,.string ⟨#[]⟩,.string ⟨#[]⟩,.string ⟨#[]⟩] })]
theorem tabOk:TabOk Tryz.prog tab:=tabOk_of ⟨by kernel_rfl,by kernel_rfl,by kernel_rfl,by kernel_rfl,by kernel_rfl,by kernel_rfl,by kernel_rfl,by kernel_rfl,by kernel_rfl,by kernel_rfl,by kernel_rfl,by kernel_rfl,by kernel_rfl,by kernel_rfl,by kernel_rfl,by kernel_rfl,by kernel_rfl,big_entry (by kernel_rfl) (by kernel_rfl) (by kernel_rfl),big_entry (by kernel_rfl) (by kernel_rfl) (by kernel_rfl),by kernel_rfl,by kernel_rfl,by kernel_rfl,by kernel_rfl,by kernel_rfl,by kernel_rfl,by kernel_rfl,by kernel_rfl,by kernel_rfl,by kernel_rfl,by kernel_rfl,by kernel_rfl,by kernel_rfl,by kernel_rfl,by kernel_rfl,by kernel_rfl,by kernel_rfl,by kernel_rfl,by kernel_rfl,by kernel_rfl,by kernel_rfl,trivial⟩
theorem mixed:Tryz.prog.follows .mixedOrders=true:=by kernel_rfl
noncomputable abbrev cx (N:Nat) (keep:List Nat):Cx:=⟨Tryz.prog,tab,N,keep,0,false,fun _=>False⟩
theorem cxOk (N:Nat) (keep:List Nat):CxOk (cx N keep):=⟨tabOk,mixed⟩
noncomputable abbrev cxP (pn N:Nat) (keep:List Nat):Cx:=⟨Tryz.prog,tab,N,keep,pn,false,fun _=>False⟩
theorem cxPOk (pn N:Nat) (keep:List Nat):CxOk (cxP pn N keep):=⟨tabOk,mixed⟩
noncomputable abbrev cxW (N:Nat) (keep:List Nat):Cx:=⟨Tryz.prog,tab,N,keep,0,true,fun _=>False⟩
noncomputable abbrev cxX (px:List PanicEntry→Prop) (pn N:Nat) (keep:List Nat):Cx:=⟨Tryz.prog,tab,N,keep,pn,false,px⟩
theorem cxXOk (px:List PanicEntry→Prop) (pn N:Nat) (keep:List Nat):CxOk (cxX px pn N keep):=⟨tabOk,mixed⟩
inductive Exp where
 | mk (op n unit:Int) (s:List UInt8) (args:List Exp)
def Exp.op:Exp→Int | .mk a _ _ _ _=>a
def Exp.n:Exp→Int | .mk _ a _ _ _=>a
def Exp.unit:Exp→Int | .mk _ _ a _ _=>a
def Exp.s:Exp→List UInt8 | .mk _ _ _ a _=>a
def Exp.args:Exp→List Exp | .mk _ _ _ _ a=>a
mutual
def encT:Exp→AV
 | .mk op n unit s args=>.agg [.int .i64 op,.int .i64 n,.int .i64 unit,.str s,.lsl 5 (encTs args)]
def encTs:List Exp→List AV
 | []=>[]
 | e::l=>encT e::encTs l
end
def argsE (e:Exp):List AV:=encTs e.args
def encE (e:Exp):AV:=.agg [.int .i64 e.op,.int .i64 e.n,.int .i64 e.unit,.str e.s,.lsl 5 (argsE e)]
theorem encT_eq (e:Exp):encT e=encE e:=by
 cases e
 rw [encT]
 rfl
theorem encTs_eq:∀ l:List Exp,encTs l=l.map encE
 | []=>by rw [encTs];rfl
 | e::l=>by rw [encTs,encT_eq,encTs_eq l];rfl
theorem argsE_eq (e:Exp):argsE e=e.args.map encE:=encTs_eq e.args
theorem argsE_len (e:Exp):(argsE e).length=e.args.length:=by rw [argsE_eq,List.length_map]
def ex0:Exp:=.mk 0 0 0 [] []
instance:Inhabited Exp:=⟨ex0⟩
theorem argsE_get (e:Exp) {k:Nat} (h:k<e.args.length):(argsE e).getD k .undef=encE (e.args.getD k ex0):=by
 rw [argsE_eq,List.getD_eq_getElem?_getD,List.getD_eq_getElem?_getD,List.getElem?_map,List.getElem?_eq_getElem h]
 rfl
theorem args_lt (e:Exp) {x:Exp} (h:x∈e.args):SizeOf.sizeOf x<SizeOf.sizeOf e:=by
 cases e with
 | mk a b c d l =>
  have h1:=List.sizeOf_lt_of_mem (show x∈l from h)
  simp only [Exp.mk.sizeOf_spec]
  omega
def encI (n:Int):AV:=.int .i64 n
def encIs (l:List Int):AV:=.sl 1 encI 0 l
def encB (b:Bool):AV:=.bool b
def encS (s:List UInt8):AV:=.str s
structure LetE where
 name:List UInt8
 body:Exp
def l0:LetE:=⟨[],ex0⟩
instance:Inhabited LetE:=⟨l0⟩
def encL (x:LetE):AV:=.agg [.str x.name,.int .i64 x.body.op,.int .i64 x.body.n,.int .i64 x.body.unit,.str x.body.s,.lsl 5 (argsE x.body)]
structure Cov where
 name:List UInt8
 must:Exp
 grace:Int
def c0:Cov:=⟨[],ex0,0⟩
instance:Inhabited Cov:=⟨c0⟩
def encC (x:Cov):AV:=.agg [.str x.name,.int .i64 x.must.op,.int .i64 x.must.n,.int .i64 x.must.unit,.str x.must.s,.lsl 5 (argsE x.must),.int .i64 x.grace]
structure CallE where
 a:Int
 b:Int
def k0:CallE:=⟨0,0⟩
instance:Inhabited CallE:=⟨k0⟩
def encK (x:CallE):AV:=.agg [.int .i64 x.a,.int .i64 x.b]
structure Ind where
 name:List UInt8
 issuer:List UInt8
 face:Int
 frm:Int
 to:Int
 every:Int
 count:Int
 adjust:Int
 record:Int
 rank:Int
 lets:List LetE
 coupon:Exp
 cap:Int
 cov:List Cov
 favour:List (List UInt8)
 cross:Int
 calls:List CallE
 notice:Int
 sink:Int
 majority:Int
 fast:Int
def i0:Ind:=⟨[],[],0,0,0,0,0,0,0,0,[],ex0,0,[],[],0,[],0,0,0,0⟩
instance:Inhabited Ind:=⟨i0⟩
def celX (x:Ind):List AV:=[.str x.name,.str x.issuer,.int .i64 x.face,.int .i64 x.frm,.int .i64 x.to,.int .i64 x.every,.int .i64 x.count,.int .i64 x.adjust,.int .i64 x.record,.int .i64 x.rank,
 .sl 6 encL l0 x.lets,.int .i64 x.coupon.op,.int .i64 x.coupon.n,.int .i64 x.coupon.unit,.str x.coupon.s,.lsl 5 (argsE x.coupon),.int .i64 x.cap,.sl 7 encC c0 x.cov,.sl 1 encS [] x.favour,.int .i64 x.cross,.sl 2 encK k0 x.calls,
 .int .i64 x.notice,.int .i64 x.sink,.int .i64 x.majority,.int .i64 x.fast]
def encX (x:Ind):AV:=.agg [.str x.name,.str x.issuer,.int .i64 x.face,.int .i64 x.frm,.int .i64 x.to,.int .i64 x.every,.int .i64 x.count,.int .i64 x.adjust,.int .i64 x.record,.int .i64 x.rank,
 .sl 6 encL l0 x.lets,.int .i64 x.coupon.op,.int .i64 x.coupon.n,.int .i64 x.coupon.unit,.str x.coupon.s,.lsl 5 (argsE x.coupon),.int .i64 x.cap,.sl 7 encC c0 x.cov,.sl 1 encS [] x.favour,.int .i64 x.cross,.sl 2 encK k0 x.calls,
 .int .i64 x.notice,.int .i64 x.sink,.int .i64 x.majority,.int .i64 x.fast]
def encXs (l:List Ind):AV:=.sl 25 encX i0 l
structure Tok where
 kind:Int
 text:List UInt8
 n:Int
 pos:Int
deriving DecidableEq
def t0:Tok:=⟨0,[],0,0⟩
instance:Inhabited Tok:=⟨t0⟩
def encTk (t:Tok):AV:=.agg [.int .i64 t.kind,.str t.text,.int .i64 t.n,.int .i64 t.pos]
def encTks (l:List Tok):AV:=.sl 4 encTk t0 l
structure Opr where
 text:List UInt8
 op:Int
 form:Int
deriving DecidableEq
def o0:Opr:=⟨[],0,0⟩
instance:Inhabited Opr:=⟨o0⟩
def encO (o:Opr):AV:=.agg [.str o.text,.int .i64 o.op,.int .i64 o.form]
structure Chg where
 o:Int
 n:Int
instance:Inhabited Chg:=⟨⟨0,0⟩⟩
abbrev g0:Chg:=⟨0,0⟩
def encG (c:Chg):AV:=.agg [.int .i64 c.o,.int .i64 c.n]
def encGs (l:List Chg):AV:=.sl 2 encG g0 l
open Go.Shelf
def Tryz.itoaB_ren:Go.Shelf.Ren:=⟨fun | 171=>40 | 243=>82 | 246=>130 | 283=>164 | 284=>165 | 285=>166 | 286=>167 | 129=>184 | 317=>183 | 318=>185 | 319=>186 | 320=>187 | 337=>192 | 338=>193 | n=>n,fun | 3=>3 | 9=>9 | 2=>2 | 4=>4 | 171=>178 | 0=>0 | 53=>179 | 37=>74 | 5=>5 | 173=>182 | 212=>192 | 51=>193 | 20=>20 | 213=>194 | 46=>189 | 232=>205 | 233=>206 | n=>n,fun | 17=>2 | 18=>5 | 19=>6 | n=>n⟩
theorem Tryz.itoaB:Go.Proofs.LaysM.n171 Tryz.prog Tryz.itoaB_ren:={
 mixed:=by kernel_rfl
 f129:=Tryz.func184.trans (congrArg some (by kernel_rfl))
 f171:=Tryz.func40.trans (congrArg some (by kernel_rfl))
 f243:=Tryz.func82.trans (congrArg some (by kernel_rfl))
 f246:=Tryz.func130.trans (congrArg some (by kernel_rfl))
 f283:=Tryz.func164.trans (congrArg some (by kernel_rfl))
 f284:=Tryz.func165.trans (congrArg some (by kernel_rfl))
 f285:=Tryz.func166.trans (congrArg some (by kernel_rfl))
 f286:=Tryz.func167.trans (congrArg some (by kernel_rfl))
 f317:=Tryz.func183.trans (congrArg some (by kernel_rfl))
 f318:=Tryz.func185.trans (congrArg some (by kernel_rfl))
 f319:=Tryz.func186.trans (congrArg some (by kernel_rfl))
 f320:=Tryz.func187.trans (congrArg some (by kernel_rfl))
 f337:=Tryz.func192.trans (congrArg some (by kernel_rfl))
 f338:=Tryz.func193.trans (congrArg some (by kernel_rfl))
 t0:=Tryz.underlying0
 a0:=Tryz.isAgg0
 z0:=Tryz.sizeOf0
 v0:=Tryz.zeroValue0
 t2:=Tryz.underlying2
 a2:=Tryz.isAgg2
 z2:=Tryz.sizeOf2
 v2:=Tryz.zeroValue2
 t3:=Tryz.underlying3
 a3:=Tryz.isAgg3
 z3:=Tryz.sizeOf3
 v3:=Tryz.zeroValue3
 t4:=Tryz.underlying4
 a4:=Tryz.isAgg4
 z4:=Tryz.sizeOf4
 v4:=Tryz.zeroValue4
 t5:=Tryz.underlying5
 a5:=Tryz.isAgg5
 z5:=Tryz.sizeOf5
 v5:=Tryz.zeroValue5
 t9:=Tryz.underlying9
 a9:=Tryz.isAgg9
 z9:=Tryz.sizeOf9
 v9:=Tryz.zeroValue9
 t20:=Tryz.underlying20
 a20:=Tryz.isAgg20
 z20:=Tryz.sizeOf20
 v20:=Tryz.zeroValue20
 t37:=Tryz.underlying74
 a37:=Tryz.isAgg74
 z37:=Tryz.sizeOf74
 v37:=Tryz.zeroValue74
 t46:=Tryz.underlying189
 a46:=Tryz.isAgg189
 z46:=Tryz.sizeOf189
 v46:=Tryz.zeroValue189
 t51:=Tryz.underlying193
 a51:=Tryz.isAgg193
 z51:=Tryz.sizeOf193
 v51:=Tryz.zeroValue193
 t53:=Tryz.underlying179
 a53:=Tryz.isAgg179
 z53:=Tryz.sizeOf179
 v53:=Tryz.zeroValue179
 t171:=Tryz.underlying178
 a171:=Tryz.isAgg178
 z171:=Tryz.sizeOf178
 v171:=Tryz.zeroValue178
 t173:=Tryz.underlying182
 a173:=Tryz.isAgg182
 z173:=Tryz.sizeOf182
 v173:=Tryz.zeroValue182
 t212:=Tryz.underlying192
 a212:=Tryz.isAgg192
 z212:=Tryz.sizeOf192
 v212:=Tryz.zeroValue192
 t213:=Tryz.underlying194
 a213:=Tryz.isAgg194
 z213:=Tryz.sizeOf194
 t232:=Tryz.underlying205
 a232:=Tryz.isAgg205
 z232:=Tryz.sizeOf205
 v232:=Tryz.zeroValue205
 t233:=Tryz.underlying206
 a233:=Tryz.isAgg206
 z233:=Tryz.sizeOf206
 v233:=Tryz.zeroValue206
 g17:=by kernel_rfl
 g18:=by kernel_rfl
 g19:=by kernel_rfl
 i0:=by kernel_rfl
 i2:=by kernel_rfl
 i3:=by kernel_rfl
 i4:=by kernel_rfl
 i5:=by kernel_rfl
 i9:=by kernel_rfl
 i20:=by kernel_rfl
 i37:=by kernel_rfl
 i46:=by kernel_rfl
 i51:=by kernel_rfl
 i53:=by kernel_rfl
 i171:=by kernel_rfl
 i173:=by kernel_rfl
 i212:=by kernel_rfl
 i232:=by kernel_rfl
 i233:=by kernel_rfl
 m17:=by kernel_rfl
 m18:=by kernel_rfl
 m19:=by kernel_rfl }
def Tryz.joinB_ren:Go.Shelf.Ren:=⟨fun | 156=>39 | 165=>81 | 166=>38 | 169=>46 | 240=>80 | 241=>129 | 276=>128 | 277=>163 | n=>n,fun | 31=>22 | 9=>9 | 3=>3 | 4=>4 | 0=>0 | 20=>20 | 72=>76 | 76=>79 | 70=>73 | 37=>74 | 75=>78 | 127=>127 | 164=>159 | 5=>5 | 80=>89 | n=>n,fun | n=>n⟩
theorem Tryz.joinB:Go.Proofs.Lays.n156 Tryz.prog Tryz.joinB_ren:={
 mixed:=by kernel_rfl
 f156:=Tryz.func39.trans (congrArg some (by kernel_rfl))
 f165:=Tryz.func81.trans (congrArg some (by kernel_rfl))
 f166:=Tryz.func38.trans (congrArg some (by kernel_rfl))
 f169:=Tryz.func46.trans (congrArg some (by kernel_rfl))
 f240:=Tryz.func80.trans (congrArg some (by kernel_rfl))
 f241:=Tryz.func129.trans (congrArg some (by kernel_rfl))
 f276:=Tryz.func128.trans (congrArg some (by kernel_rfl))
 f277:=Tryz.func163.trans (congrArg some (by kernel_rfl))
 t0:=Tryz.underlying0
 a0:=Tryz.isAgg0
 z0:=Tryz.sizeOf0
 v0:=Tryz.zeroValue0
 t3:=Tryz.underlying3
 a3:=Tryz.isAgg3
 z3:=Tryz.sizeOf3
 v3:=Tryz.zeroValue3
 t4:=Tryz.underlying4
 a4:=Tryz.isAgg4
 z4:=Tryz.sizeOf4
 v4:=Tryz.zeroValue4
 t9:=Tryz.underlying9
 a9:=Tryz.isAgg9
 z9:=Tryz.sizeOf9
 v9:=Tryz.zeroValue9
 t20:=Tryz.underlying20
 a20:=Tryz.isAgg20
 z20:=Tryz.sizeOf20
 v20:=Tryz.zeroValue20
 t31:=Tryz.underlying22
 a31:=Tryz.isAgg22
 z31:=Tryz.sizeOf22
 v31:=Tryz.zeroValue22
 t37:=Tryz.underlying74
 a37:=Tryz.isAgg74
 z37:=Tryz.sizeOf74
 v37:=Tryz.zeroValue74
 t70:=Tryz.underlying73
 a70:=Tryz.isAgg73
 z70:=Tryz.sizeOf73
 v70:=Tryz.zeroValue73
 t72:=Tryz.underlying76
 a72:=Tryz.isAgg76
 z72:=Tryz.sizeOf76
 v72:=Tryz.zeroValue76
 t75:=Tryz.underlying78
 a75:=Tryz.isAgg78
 z75:=Tryz.sizeOf78
 v75:=Tryz.zeroValue78
 t76:=Tryz.underlying79
 a76:=Tryz.isAgg79
 z76:=Tryz.sizeOf79
 v76:=Tryz.zeroValue79
 t127:=Tryz.underlying127
 a127:=Tryz.isAgg127
 z127:=Tryz.sizeOf127
 v127:=Tryz.zeroValue127
 t164:=Tryz.underlying159
 a164:=Tryz.isAgg159
 z164:=Tryz.sizeOf159
 v164:=Tryz.zeroValue159 }
def Tryz.splitB_ren:Go.Shelf.Ren:=⟨fun | 146=>28 | 221=>57 | 268=>107 | 138=>108 | 143=>109 | 195=>145 | 197=>146 | 218=>147 | 219=>148 | 260=>174 | 217=>175 | 225=>176 | 224=>177 | 267=>178 | 266=>190 | 314=>191 | n=>n,fun | 9=>9 | 31=>22 | 3=>3 | 4=>4 | 0=>0 | 105=>171 | 21=>21 | 5=>5 | 46=>189 | 119=>197 | 139=>200 | 138=>199 | 146=>201 | 51=>193 | n=>n,fun | 1=>1 | 3=>3 | 4=>4 | n=>n⟩
theorem Tryz.splitB:Go.Proofs.Lays.n146 Tryz.prog Tryz.splitB_ren:={
 mixed:=by kernel_rfl
 f138:=Tryz.func108.trans (congrArg some (by kernel_rfl))
 f143:=Tryz.func109.trans (congrArg some (by kernel_rfl))
 f146:=Tryz.func28.trans (congrArg some (by kernel_rfl))
 f195:=Tryz.func145.trans (congrArg some (by kernel_rfl))
 f197:=Tryz.func146.trans (congrArg some (by kernel_rfl))
 f217:=Tryz.func175.trans (congrArg some (by kernel_rfl))
 f218:=Tryz.func147.trans (congrArg some (by kernel_rfl))
 f219:=Tryz.func148.trans (congrArg some (by kernel_rfl))
 f221:=Tryz.func57.trans (congrArg some (by kernel_rfl))
 f224:=Tryz.func177.trans (congrArg some (by kernel_rfl))
 f225:=Tryz.func176.trans (congrArg some (by kernel_rfl))
 f260:=Tryz.func174.trans (congrArg some (by kernel_rfl))
 f266:=Tryz.func190.trans (congrArg some (by kernel_rfl))
 f267:=Tryz.func178.trans (congrArg some (by kernel_rfl))
 f268:=Tryz.func107.trans (congrArg some (by kernel_rfl))
 f314:=Tryz.func191.trans (congrArg some (by kernel_rfl))
 t0:=Tryz.underlying0
 a0:=Tryz.isAgg0
 z0:=Tryz.sizeOf0
 v0:=Tryz.zeroValue0
 t3:=Tryz.underlying3
 a3:=Tryz.isAgg3
 z3:=Tryz.sizeOf3
 v3:=Tryz.zeroValue3
 t4:=Tryz.underlying4
 a4:=Tryz.isAgg4
 z4:=Tryz.sizeOf4
 v4:=Tryz.zeroValue4
 t5:=Tryz.underlying5
 a5:=Tryz.isAgg5
 z5:=Tryz.sizeOf5
 v5:=Tryz.zeroValue5
 t9:=Tryz.underlying9
 a9:=Tryz.isAgg9
 z9:=Tryz.sizeOf9
 v9:=Tryz.zeroValue9
 t21:=Tryz.underlying21
 a21:=Tryz.isAgg21
 z21:=Tryz.sizeOf21
 v21:=Tryz.zeroValue21
 t31:=Tryz.underlying22
 a31:=Tryz.isAgg22
 z31:=Tryz.sizeOf22
 v31:=Tryz.zeroValue22
 t46:=Tryz.underlying189
 a46:=Tryz.isAgg189
 z46:=Tryz.sizeOf189
 v46:=Tryz.zeroValue189
 t51:=Tryz.underlying193
 a51:=Tryz.isAgg193
 z51:=Tryz.sizeOf193
 v51:=Tryz.zeroValue193
 t105:=Tryz.underlying171
 a105:=Tryz.isAgg171
 z105:=Tryz.sizeOf171
 v105:=Tryz.zeroValue171
 t119:=Tryz.underlying197
 a119:=Tryz.isAgg197
 z119:=Tryz.sizeOf197
 t138:=Tryz.underlying199
 a138:=Tryz.isAgg199
 z138:=Tryz.sizeOf199
 v138:=Tryz.zeroValue199
 t139:=Tryz.underlying200
 a139:=Tryz.isAgg200
 z139:=Tryz.sizeOf200
 v139:=Tryz.zeroValue200
 t146:=Tryz.underlying201
 a146:=Tryz.isAgg201
 z146:=Tryz.sizeOf201
 v146:=Tryz.zeroValue201
 g1:=by kernel_rfl
 g3:=by kernel_rfl
 g4:=by kernel_rfl }
def Tryz.trimB_ren:Go.Shelf.Ren:=⟨fun | 102=>29 | 209=>58 | 207=>110 | n=>n,fun | 9=>9 | 4=>4 | 3=>3 | n=>n,fun | n=>n⟩
theorem Tryz.trimB:Go.Proofs.Lays.n102 Tryz.prog Tryz.trimB_ren:={
 mixed:=by kernel_rfl
 f102:=Tryz.func29.trans (congrArg some (by kernel_rfl))
 f207:=Tryz.func110.trans (congrArg some (by kernel_rfl))
 f209:=Tryz.func58.trans (congrArg some (by kernel_rfl))
 t3:=Tryz.underlying3
 a3:=Tryz.isAgg3
 z3:=Tryz.sizeOf3
 v3:=Tryz.zeroValue3
 t4:=Tryz.underlying4
 a4:=Tryz.isAgg4
 z4:=Tryz.sizeOf4
 v4:=Tryz.zeroValue4
 t9:=Tryz.underlying9
 a9:=Tryz.isAgg9
 z9:=Tryz.sizeOf9
 v9:=Tryz.zeroValue9 }
theorem Tryz.joinX:Builder.Extra Tryz.prog Tryz.joinB_ren:={
 sizeBuilder:=by kernel_rfl
 liesBuilder:=by kernel_rfl
 t5:=Tryz.underlying5
 a5:=Tryz.isAgg5
 z5:=Tryz.sizeOf5
 v5:=Tryz.zeroValue5
 infoByte:=by kernel_rfl
 cellsByte:=by kernel_rfl
 sizeByte:=by kernel_rfl
 neB5:=by decide }
set_option maxHeartbeats 4000000
set_option maxRecDepth 100000
theorem tab_pow (S : Blocks) (w : World) (h : TabAt S w) : Lib.TabIs Tryz.prog w "internal/strconv.uint64pow10" .u64 Lib.pow10Tab := by
 obtain ⟨_,cs,e,fz,h1,h2⟩:=h 2 _ rfl
 have hg : Tryz.prog.globalNamed "internal/strconv.uint64pow10" = some 2 := by kernel_rfl
 have h2':cs=(Lib.pow10Tab.map fun z=>Value.int .u64 z).toArray:=h2
 unfold Lib.TabIs World.var?
 rw [hg]
 show (match w.heap[2]? with | some (.cells cs _ _)=>some cs | _=>none)=_
 rw [h1,h2']
theorem itoa_c (n:Int) (h0:-9223372036854775808≤n) (h1:n≤9223372036854775807):APureV Tryz.prog 40 [.int .i64 n] (.str (Lib.itoa n)) :=
 itoa_ok Tryz.itoaB ⟨_,Tryz.func40,rfl,by decide⟩ tab_pow n h0 h1
theorem join_c (xs:List (List UInt8)) (sep:List UInt8) (hN:xs.length≤140737488355328) (hlen:(Lib.join xs sep).length≤140737488355328):APureV Tryz.prog 39 [.lsl 1 (xs.map fun s=>AV.str s),.str sep] (.str (Lib.join xs sep)) :=
 join_ok Tryz.joinB Tryz.joinX ⟨_,Tryz.func39,rfl,by decide⟩ xs sep hN hlen
theorem trim_c (s t:List UInt8) (hs:s.length≤9223372036854775807):APureV Tryz.prog 29 [.str s,.str t] (.str (Lib.trimSuffix s t)) :=
 trimSuffix_ok Tryz.trimB ⟨_,Tryz.func29,rfl,by decide⟩ s t hs
theorem max_len (S:Blocks) (w:World) (h:TabAt S w):∃ m,w.cell? ⟨1,0,none⟩=some (.int .i64 m):=by
 obtain ⟨_,cs,e,fz,h1,m,rfl⟩:=h 1 _ rfl
 exact ⟨m,by simp [World.cell?,h1]⟩
theorem split_c (s t:List UInt8) (hs:s.length<4294967281) (ht:1≤t.length):APureV Tryz.prog 28 [.str s,.str t] (.sl 1 encS [] (Lib.splitK t 0 (Lib.count s t) s)) :=
 split_ok Tryz.splitB ⟨_,Tryz.func28,rfl,by decide⟩ (by kernel_rfl) max_len encS (fun _=>rfl) s t hs ht
def letB (c:Int):Bool:=decide (97≤c)&&decide (c≤122)
def digB (c:Int):Bool:=decide (48≤c)&&decide (c≤57)
def blkB (c:Int):Bool:=decide (c=32)||decide (c=9)||decide (c=10)
theorem letter_ok (c:Int):APureV Tryz.prog 156 [.int .u8 c] (.bool (letB c)):=by
 refine aO (cxOk 9 [0,2]) Tryz.func156 ?_
 conv=>whnf
 rfl
theorem digit_ok (c:Int):APureV Tryz.prog 158 [.int .u8 c] (.bool (digB c)):=by
 refine aO (cxOk 9 [0,2]) Tryz.func158 ?_
 conv=>whnf
 rfl
theorem blank_ok (c:Int):APureV Tryz.prog 135 [.int .u8 c] (.bool (blkB c)):=by
 refine aO (cxOk 13 [0,2]) Tryz.func135 ?_
 conv=>whnf
 rfl
theorem wordc_ok (c:Int):APureV Tryz.prog 157 [.int .u8 c] (.bool (letB c||digB c)):=by
 have h1:=letter_ok c
 have h2:=digit_ok c
 refine aO (cxOk 9 [0,2]) Tryz.func157 ?_
 conv=>whnf
 refine cO (fun _=>h1) ?_
 conv=>whnf
 refine cO (fun _=>h2) ?_
 conv=>whnf
 rfl
theorem wordd_ok (c:Int):APureV Tryz.prog 169 [.int .u8 c] (.bool (letB c||digB c)):=by
 have h1:=letter_ok c
 have h2:=digit_ok c
 refine aO (cxOk 9 [0,2]) Tryz.func169 ?_
 conv=>whnf
 refine cO (fun _=>h1) ?_
 conv=>whnf
 refine cO (fun _=>h2) ?_
 conv=>whnf
 rfl
def spanN (p:Int→Bool) (s:List UInt8):Nat:=(s.takeWhile fun b=>p (b.toNat:Int)).length
theorem spanN_le (p:Int→Bool) (s:List UInt8):spanN p s≤s.length:=(List.takeWhile_sublist _).length_le
theorem spanN_lt {p:Int→Bool} {s:List UInt8} {k:Nat} (h:k<spanN p s):p ((s.getD k 0).toNat:Int)=true:=by
 have hk:k<s.length:=Nat.lt_of_lt_of_le h (spanN_le p s)
 have h2:(s.takeWhile fun b=>p (b.toNat:Int))[k]=s[k]:=(List.takeWhile_prefix _).getElem h
 have h3:(s.takeWhile fun b=>p (b.toNat:Int))[k]∈s.takeWhile fun b=>p (b.toNat:Int):=List.getElem_mem h
 have h4:=(List.all_eq_true.1 (List.all_takeWhile (p:=fun b:UInt8=>p (b.toNat:Int)) (l:=s))) _ h3
 rw [h2] at h4
 simpa [List.getD,List.getElem?_eq_getElem hk] using h4
theorem spanN_at {p:Int→Bool}:∀ {s:List UInt8},spanN p s<s.length→p ((s.getD (spanN p s) 0).toNat:Int)=false
 | [],h=>by simp at h
 | b::s,h=>by
  unfold spanN at h ⊢
  rw [List.takeWhile_cons] at h ⊢
  split at h
  ·rename_i hb
   rw [if_pos hb]
   simp only [List.length_cons,List.getD_cons_succ] at h ⊢
   exact spanN_at (s:=s) (by unfold spanN;omega)
  ·rename_i hb
   rw [if_neg hb]
   simpa using hb
theorem span_ok (s:List UInt8) (f:FuncId) (p:Int→Bool) (hf:∀ c,APureV Tryz.prog f [.int .u8 c] (.bool (p c))) (hs:s.length≤9223372036854775807):APureV Tryz.prog 134 [.str s,.fn (.func f) [] []] (.int .i64 (spanN p s)):=by
 have hle:=spanN_le p s
 refine aO (cxOk 20 [0,1,4,5,16]) Tryz.func134 ?_
 conv=>whnf
 refine loop_up (cxOk _ _) (spanN p s) (fun _=>True) (fun k=>⟨[(0,.str s),(1,.fn (.func f) [] []),(5,.int .i64 (k:Nat))],[],0⟩) trivial ((wk_of [] rfl ⟨wa0,.fn _ _ _ _ _ ae0 ae0,wa0,trivial⟩ trivial)) ?_
 intro k hk _
 conv=>whnf
 have hek:(k:Int).toNat=k:=Int.toNat_natCast k
 refine And.intro (fun h=>(by simp only [andG,polB,decide_eq_true_eq] at h;omega)) ?_
 conv=>whnf
 rw [hek]
 conv=>whnf
 refine cO (fun _=>hf ((s.getD k 0).toNat:Int)) ?_
 conv=>whnf
 refine ⟨fun hc=>?_,fun hc=>?_⟩
 ·have hlt:k<s.length:=by simp at hc;omega
  have hpk:p ((s.getD k 0).toNat:Int)=true:=by simp at hc;simpa using hc.2
  have hne:k<spanN p s:=by
   apply Classical.byContradiction
   intro hh
   have he:k=spanN p s:=by omega
   have hat:=spanN_at (p:=p) (s:=s) (by omega)
   rw [← he,hpk] at hat
   cases hat
  conv=>whnf
  refine iO ?_;conv=>whnf
  refine ⟨k+1,⟨hne,trivial⟩,(by show spanN p s-(k+1)<spanN p s-k;omega),(wk_of [] rfl ⟨wa0,.fn _ _ _ _ _ ae0 ae0,wa0,trivial⟩ trivial)⟩
 ·have he:k=spanN p s:=by
   apply Classical.byContradiction
   intro hh
   have hlt:k<spanN p s:=by omega
   have:=spanN_lt hlt
   rw [this] at hc
   simp at hc
   omega
  conv=>whnf
  rw [he]
  rfl
def wordB (s:List UInt8):Bool:=decide (s≠[])&&letB ((s.getD 0 0).toNat:Int)&&decide (s.length≤20)&&decide (spanN (fun c=>letB c||digB c) s=s.length)
theorem word_ok (s:List UInt8) (hs:s.length≤9223372036854775807):APureV Tryz.prog 121 [.str s] (.bool (wordB s)):=by
 have hsp:=span_ok s 157 _ wordc_ok hs
 unfold wordB
 have hpos:s≠[]→0<s.length:=fun h=>List.length_pos_iff.2 h
 refine aO (cxOk 21 [0,2,15]) Tryz.func121 ?_
 conv=>whnf
 refine And.intro (fun h=>(by have h2:s≠[]:=by simpa [andG,polB] using h
                              have:=hpos h2
                              omega)) ?_
 conv=>whnf
 refine cO (fun _=>letter_ok ((s.getD 0 0).toNat:Int)) ?_
 conv=>whnf
 have e1:decide (20<(s.length:Int))=!decide (s.length≤20):=by
  by_cases h:s.length≤20
  ·simp [h];omega
  ·simp [h];omega
 have e2:decide (s≠[])=!decide (s=[]):=by simp
 have e3:decide ((spanN (fun c=>letB c||digB c) s:Int)=(s.length:Int))=decide (spanN (fun c=>letB c||digB c) s=s.length):=by
  by_cases h:spanN (fun c=>letB c||digB c) s=s.length
  ·simp [h]
  ·simp [h];omega
 rw [e1,e2]
 have e4:decide (s=(⟨#[]⟩:ByteArray).data.toList)=decide (s=[]):=rfl
 rw [e4]
 generalize decide (s=[])=b1
 generalize letB ((s.getD 0 0).toNat:Int)=b2
 generalize decide (s.length≤20)=b3
 refine ⟨fun hc=>?_,fun hc=>?_⟩
 ·conv=>whnf
  have hb:(!b1&&b2&&b3)=false:=by cases b1<;>cases b2<;>cases b3<;>simp_all
  rw [hb]
  rfl
 ·conv=>whnf
  have hb:(!b1&&b2&&b3)=true:=by cases b1<;>cases b2<;>cases b3<;>simp_all
  rw [hb,Bool.true_and]
  refine cO (fun _=>hsp) ?_
  conv=>whnf
  rw [e3]
  rfl
def encSs (l:List (List UInt8)):AV:=.sl 1 encS [] l
theorem index_ok (l:List (List UInt8)) (x:List UInt8) (hl:l.length≤9223372036854775807):APure Tryz.prog 159 [encSs l,.str x] (fun rs=>∃ v:Int,(0≤v↔x∈l)∧rs=[.val (.int .i64 v)]):=by
 refine aO (cxOk 19 [0,1,4,5,7,8,9,16]) Tryz.func159 ?_
 conv=>whnf
 refine loop_up (cxOk _ _) l.length (fun k=>∀ j,j<k→l.getD j []≠x) (fun k=>⟨[(0,encSs l),(1,.str x),(7,.int .i64 (l.length:Nat)),(8,.int .i64 (k:Nat))],[],0⟩) (by intro j hj;omega) ((wk_of [] rfl ⟨wa0,wa0,wa0,wa0,trivial⟩ trivial)) ?_
 intro k hk hP
 conv=>whnf
 refine ⟨fun hd=>?_,fun hd=>?_⟩
 ·have hd:=of_decide_eq_true hd
  have hlt:k<l.length:=by omega
  have hek:(k:Int).toNat=k:=Int.toNat_natCast k
  conv=>whnf
  refine iO ?_;conv=>whnf
  refine And.intro rfl ?_;conv=>whnf
  rw [hek]
  conv=>whnf
  refine ⟨fun he=>?_,fun he=>?_⟩
  ·have he:=of_decide_eq_true he
   conv=>whnf
   refine ⟨(k:Int),⟨fun _=>by rw [he];exact getD_mem hlt,fun _=>by omega⟩,rfl⟩
  ·have he:=of_decide_eq_false he
   conv=>whnf
   refine iO ?_;conv=>whnf
   refine up hlt (fun j hj=>?_) ((wk_of [] rfl ⟨wa0,wa0,wa0,wa0,trivial⟩ trivial))
   by_cases e:j=k
   ·subst e;exact fun e=>he e.symm
   ·exact hP j om0
 ·have hd:=of_decide_eq_false hd
  obtain rfl:k=l.length:=by omega
  conv=>whnf
  refine ⟨-1,⟨fun h=>by omega,fun h=>?_⟩,rfl⟩
  obtain ⟨j,hj,e⟩:=mem_getD (d:=[]) h
  exact (hP j hj e).elim
theorem contains_ok (l:List (List UInt8)) (x:List UInt8) (hl:l.length≤9223372036854775807):APureV Tryz.prog 122 [encSs l,.str x] (.bool (decide (x∈l))):=by
 refine aO (cxOk 9 [0,1,4]) Tryz.func122 ?_
 conv=>whnf
 refine .any _ _ _ ⟨rfl,rfl⟩ (index_ok l x hl) ai0 al0 ?_
 rintro rs ⟨v,hv,rfl⟩
 conv=>whnf
 rw [show decide (x∈l)=decide (0≤v) by simp only [hv]]
 rfl
def resW:List (List UInt8):=[[97,99,116,117,97,108],[97,100,106,117,115,116],[97,110,100],[97,116],[98,101,102,111,114,101],[99,97,108,108],[99,97,112],[99,111,105,110,115],[99,111,117,110,116],[99,111,117,112,111,110],[99,111,118,101,110,97,110,116],[99,114,111,115,115],[100,97,121,115],[101,108,115,101],[101,118,101,114],[101,118,101,114,121],[102,97,99,101],[102,97,99,116],[102,97,108,115,101],[102,97,115,116],[102,97,118,111,117,114],[102,105,120,101,100],[102,114,111,109],[103,114,97,99,101],[105,102],[105,115,115,117,101],[108,101,116],[108,111,110,103],[109,97,106,111,114,105,116,121],[109,97,120],[109,105,108,108,101],[109,105,110],[109,111,100,105,102,105,101,100],[109,111,110,116,104,115],[109,117,115,116],[110,101,120,116],[110,111,110,101],[110,111,116],[110,111,116,105,99,101],[111,102],[111,114],[114,97,110,107],[114,97,116,101],[114,101,99,111,114,100],[115,105,110,107],[115,111,111,110],[116,104,101,110],[116,104,105,114,116,121],[116,111],[116,114,117,101]]
def cntW:List (List UInt8):=[[116,104,105,114,116,121],[102,105,120,101,100],[97,99,116,117,97,108]]
def adjW:List (List UInt8):=[[110,111,110,101],[110,101,120,116],[109,111,100,105,102,105,101,100],[98,101,102,111,114,101]]
def oprL:List Opr:=[⟨[111,114],14,1⟩,⟨[97,110,100],13,2⟩,⟨[61,61],11,4⟩,⟨[60],10,4⟩,⟨[43],4,5⟩,⟨[45],5,5⟩,⟨[42],6,6⟩,⟨[47],7,6⟩]
theorem res_raw:APure Tryz.prog 123 [] (fun rs=>rs=[.new (.lst 9 1 (resW.map fun s=>AV.str s))]):=by
 refine aO (cxOk 2 [0]) Tryz.func123 ?_
 conv=>whnf
 rfl
theorem res_ok:APureV Tryz.prog 123 [] (encSs resW):=res_raw.freeze1.le1 (.lsl _ _ _ _ _ rfl)
theorem cnt_raw:APure Tryz.prog 42 [] (fun rs=>rs=[.new (.lst 9 1 (cntW.map fun s=>AV.str s))]):=by
 refine aO (cxOk 2 [0]) Tryz.func42 ?_
 conv=>whnf
 rfl
theorem cnt_ok:APureV Tryz.prog 42 [] (encSs cntW):=cnt_raw.freeze1.le1 (.lsl _ _ _ _ _ rfl)
theorem adj_raw:APure Tryz.prog 43 [] (fun rs=>rs=[.new (.lst 9 1 (adjW.map fun s=>AV.str s))]):=by
 refine aO (cxOk 2 [0]) Tryz.func43 ?_
 conv=>whnf
 rfl
theorem adj_ok:APureV Tryz.prog 43 [] (encSs adjW):=adj_raw.freeze1.le1 (.lsl _ _ _ _ _ rfl)
theorem opr_raw:APure Tryz.prog 89 [] (fun rs=>rs=[.new (.lst 122 3 (oprL.map encO))]):=by
 refine aO (cxOk 10 [0]) Tryz.func89 ?_
 conv=>whnf
 rfl
def encOs (l:List Opr):AV:=.sl 3 encO o0 l
theorem opr_ok:APureV Tryz.prog 89 [] (encOs oprL):=opr_raw.freeze1.le1 (.lsl _ _ _ _ _ rfl)
def nameB (s:List UInt8):Bool:=wordB s&&!decide (s∈resW)
theorem name_ok (s:List UInt8) (hs:s.length≤9223372036854775807):APureV Tryz.prog 71 [.str s] (.bool (nameB s)):=by
 have hw:=word_ok s hs
 have hr:=res_ok
 have hc:=contains_ok resW s (by decide)
 unfold nameB
 cases hb:wordB s
 ·rw [hb] at hw
  refine aO (cxOk 11 [0,2]) Tryz.func71 ?_
  conv=>whnf
  refine cO (fun _=>hw) ?_
  conv=>whnf
  refine ⟨fun h=>(by cases h),fun _=>?_⟩
  conv=>whnf
  refine cF [.undef,.str s] [.val (.bool false)] ?_
  conv=>whnf
  rfl
 ·rw [hb] at hw
  refine aO (cxOk 11 [0,2]) Tryz.func71 ?_
  conv=>whnf
  refine cO (fun _=>hw) ?_
  conv=>whnf
  refine ⟨fun _=>?_,fun h=>(by cases h)⟩
  conv=>whnf
  refine cO (fun _=>hr) ?_
  conv=>whnf
  refine cO (fun _=>hc) ?_
  conv=>whnf
  rfl
def idxP {X:Type} (p:X→Bool):List X→Int
 | []=>-1
 | x::l=>if p x then 0 else (if idxP p l<0 then -1 else idxP p l+1)
theorem idxP_ge {X:Type} (p:X→Bool):∀ l:List X,-1≤idxP p l
 | []=>by simp [idxP]
 | x::l=>by
  have:=idxP_ge p l
  unfold idxP
  split
  ·omega
  ·split<;>omega
theorem idxP_found {X:Type} {p:X→Bool} {d:X}:∀ {l:List X} {k:Nat},k<l.length→(∀ j,j<k→p (l.getD j d)=false)→p (l.getD k d)=true→idxP p l=k
 | [],k,h,_,_=>by simp at h
 | x::l,0,h,_,hk=>by
  have hx:p x=true:=by simpa using hk
  simp [idxP,hx]
 | x::l,k+1,h,hj,hk=>by
  have hx:p x=false:=by have:=hj 0 (by omega);simpa using this
  have ih:=idxP_found (p:=p) (d:=d) (l:=l) (k:=k) (by simpa using h) (fun j hj'=>by have:=hj (j+1) (by omega);simpa using this) (by simpa using hk)
  unfold idxP
  rw [ih]
  simp [hx]
  omega
theorem idxP_none {X:Type} {p:X→Bool} {d:X}:∀ {l:List X},(∀ j,j<l.length→p (l.getD j d)=false)→idxP p l=-1
 | [],_=>rfl
 | x::l,h=>by
  have hx:p x=false:=by have:=h 0 (by simp);simpa using this
  have ih:=idxP_none (p:=p) (d:=d) (l:=l) (fun j hj=>by have:=h (j+1) (by simpa using hj);simpa using this)
  unfold idxP
  rw [ih]
  simp [hx]
theorem idxP_any {X:Type} (p:X→Bool):∀ l:List X,decide (0≤idxP p l)=l.any p
 | []=>by simp [idxP]
 | x::l=>by
  have ih:=idxP_any p l
  have hge:=idxP_ge p l
  unfold idxP
  rw [List.any_cons,← ih]
  cases p x
  ·simp only [Bool.false_eq_true,if_false,Bool.false_or]
   split
   ·simp;omega
   ·simp;omega
  ·simp
theorem idxI_ok (l:List Int) (fid:FuncId) (x y:Int) (p:Int→Bool) (hf:∀ e∈l,APureV Tryz.prog fid (encI e::[.rop [.int .i64 x],.rop [.int .i64 y]]) (.bool (p e))) (hl:l.length≤9223372036854775807) :
  APureV Tryz.prog 155 [.sl 1 encI 0 l,.fn (.func fid) [] [.rop [.int .i64 x],.rop [.int .i64 y]]] (.int .i64 (idxP p l)):=by
 refine aO (cxOk 19 [0,1,4,5,7,8,9,16]) Tryz.func155 ?_
 conv=>whnf
 refine loop_up (cxOk _ _) l.length (fun k=>∀ j,j<k→p (l.getD j 0)=false) (fun k=>⟨[(0,.sl 1 encI 0 l),(1,.fn (.func fid) [] [.rop [.int .i64 x],.rop [.int .i64 y]]),(7,.int .i64 (l.length:Nat)),(8,.int .i64 (k:Nat))],[],0⟩) (by intro j hj;omega) ((wk_of [] rfl ⟨wa0,.fn _ _ _ _ _ ae0 ae0,wa0,wa0,trivial⟩ trivial)) ?_
 intro k hk hP
 conv=>whnf
 refine ⟨fun hd=>?_,fun hd=>?_⟩
 ·have hd:=of_decide_eq_true hd
  have hlt:k<l.length:=by omega
  have hek:(k:Int).toNat=k:=Int.toNat_natCast k
  have hc:=hf _ (getD_mem (d:=0) hlt)
  conv=>whnf
  refine iO ?_;conv=>whnf
  refine And.intro rfl ?_;conv=>whnf
  rw [hek]
  conv=>whnf
  refine cO (fun _=>hc) ?_
  conv=>whnf
  refine ⟨fun he=>?_,fun he=>?_⟩
  ·conv=>whnf
   rw [idxP_found hlt hP he]
   rfl
  ·conv=>whnf
   refine iO ?_;conv=>whnf
   refine up hlt (fun j hj=>?_) ((wk_of [] rfl ⟨wa0,.fn _ _ _ _ _ ae0 ae0,wa0,wa0,trivial⟩ trivial))
   by_cases e:j=k
   ·subst e;exact he
   ·exact hP j om0
 ·have hd:=of_decide_eq_false hd
  obtain rfl:k=l.length:=by omega
  conv=>whnf
  rw [idxP_none hP]
  rfl
theorem anyI_ok (l:List Int) (fid:FuncId) (x y:Int) (p:Int→Bool) (hf:∀ e∈l,APureV Tryz.prog fid (encI e::[.rop [.int .i64 x],.rop [.int .i64 y]]) (.bool (p e))) (hl:l.length≤9223372036854775807) :
  APureV Tryz.prog 119 [.sl 1 encI 0 l,.fn (.func fid) [] [.rop [.int .i64 x],.rop [.int .i64 y]]] (.bool (l.any p)):=by
 have h:=idxI_ok l fid x y p hf hl
 refine aO (cxOk 9 [0,1,4]) Tryz.func119 ?_
 conv=>whnf
 refine .one _ _ _ (fun _=>h) (.cons (lS rfl) (.cons (.fn _ _ _ _ _ _ _ .nil (.cons (.base (.base (.same _ rfl))) (.cons (.base (.base (.same _ rfl))) (.nil)))) .nil)) (.inl rfl) (.inl rfl) ?_
 conv=>whnf
 show [AR.val (AV.bool (decide (idxP p l ≥ 0)))]=_
 rw [← idxP_any p l]
theorem idxL_ok (l:List LetE) (fid:FuncId)  (p:LetE→Bool) (hf:∀ e∈l,APureV Tryz.prog fid (encL e::[]) (.bool (p e))) (hl:l.length≤9223372036854775807) :
  APureV Tryz.prog 125 [.sl 6 encL l0 l,.fn (.func fid) [] []] (.int .i64 (idxP p l)):=by
 refine aO (cxOk 19 [0,1,4,5,7,8,9,16]) Tryz.func125 ?_
 conv=>whnf
 refine loop_up (cxOk _ _) l.length (fun k=>∀ j,j<k→p (l.getD j l0)=false) (fun k=>⟨[(0,.sl 6 encL l0 l),(1,.fn (.func fid) [] []),(7,.int .i64 (l.length:Nat)),(8,.int .i64 (k:Nat))],[],0⟩) (by intro j hj;omega) ((wk_of [] rfl ⟨wa0,.fn _ _ _ _ _ ae0 ae0,wa0,wa0,trivial⟩ trivial)) ?_
 intro k hk hP
 conv=>whnf
 refine ⟨fun hd=>?_,fun hd=>?_⟩
 ·have hd:=of_decide_eq_true hd
  have hlt:k<l.length:=by omega
  have hek:(k:Int).toNat=k:=Int.toNat_natCast k
  have hc:=hf _ (getD_mem (d:=l0) hlt)
  conv=>whnf
  refine iO ?_;conv=>whnf
  refine And.intro rfl ?_;conv=>whnf
  rw [hek]
  conv=>whnf
  refine cO (fun _=>hc) ?_
  conv=>whnf
  refine ⟨fun he=>?_,fun he=>?_⟩
  ·conv=>whnf
   rw [idxP_found hlt hP he]
   rfl
  ·conv=>whnf
   refine iO ?_;conv=>whnf
   refine up hlt (fun j hj=>?_) ((wk_of [] rfl ⟨wa0,.fn _ _ _ _ _ ae0 ae0,wa0,wa0,trivial⟩ trivial))
   by_cases e:j=k
   ·subst e;exact he
   ·exact hP j om0
 ·have hd:=of_decide_eq_false hd
  obtain rfl:k=l.length:=by omega
  conv=>whnf
  rw [idxP_none hP]
  rfl
theorem anyL_ok (l:List LetE) (fid:FuncId)  (p:LetE→Bool) (hf:∀ e∈l,APureV Tryz.prog fid (encL e::[]) (.bool (p e))) (hl:l.length≤9223372036854775807) :
  APureV Tryz.prog 74 [.sl 6 encL l0 l,.fn (.func fid) [] []] (.bool (l.any p)):=by
 have h:=idxL_ok l fid  p hf hl
 refine aO (cxOk 9 [0,1,4]) Tryz.func74 ?_
 conv=>whnf
 refine .one _ _ _ (fun _=>h) (.cons (lS rfl) (.cons (.fn _ _ _ _ _ _ _ .nil (.nil)) .nil)) (.inl rfl) (.inl rfl) ?_
 conv=>whnf
 show [AR.val (AV.bool (decide (idxP p l ≥ 0)))]=_
 rw [← idxP_any p l]
theorem idxC_ok (l:List Cov) (fid:FuncId)  (p:Cov→Bool) (hf:∀ e∈l,APureV Tryz.prog fid (encC e::[]) (.bool (p e))) (hl:l.length≤9223372036854775807) :
  APureV Tryz.prog 126 [.sl 7 encC c0 l,.fn (.func fid) [] []] (.int .i64 (idxP p l)):=by
 refine aO (cxOk 19 [0,1,4,5,7,8,9,16]) Tryz.func126 ?_
 conv=>whnf
 refine loop_up (cxOk _ _) l.length (fun k=>∀ j,j<k→p (l.getD j c0)=false) (fun k=>⟨[(0,.sl 7 encC c0 l),(1,.fn (.func fid) [] []),(7,.int .i64 (l.length:Nat)),(8,.int .i64 (k:Nat))],[],0⟩) (by intro j hj;omega) ((wk_of [] rfl ⟨wa0,.fn _ _ _ _ _ ae0 ae0,wa0,wa0,trivial⟩ trivial)) ?_
 intro k hk hP
 conv=>whnf
 refine ⟨fun hd=>?_,fun hd=>?_⟩
 ·have hd:=of_decide_eq_true hd
  have hlt:k<l.length:=by omega
  have hek:(k:Int).toNat=k:=Int.toNat_natCast k
  have hc:=hf _ (getD_mem (d:=c0) hlt)
  conv=>whnf
  refine iO ?_;conv=>whnf
  refine And.intro rfl ?_;conv=>whnf
  rw [hek]
  conv=>whnf
  refine cO (fun _=>hc) ?_
  conv=>whnf
  refine ⟨fun he=>?_,fun he=>?_⟩
  ·conv=>whnf
   rw [idxP_found hlt hP he]
   rfl
  ·conv=>whnf
   refine iO ?_;conv=>whnf
   refine up hlt (fun j hj=>?_) ((wk_of [] rfl ⟨wa0,.fn _ _ _ _ _ ae0 ae0,wa0,wa0,trivial⟩ trivial))
   by_cases e:j=k
   ·subst e;exact he
   ·exact hP j om0
 ·have hd:=of_decide_eq_false hd
  obtain rfl:k=l.length:=by omega
  conv=>whnf
  rw [idxP_none hP]
  rfl
theorem anyC_ok (l:List Cov) (fid:FuncId)  (p:Cov→Bool) (hf:∀ e∈l,APureV Tryz.prog fid (encC e::[]) (.bool (p e))) (hl:l.length≤9223372036854775807) :
  APureV Tryz.prog 76 [.sl 7 encC c0 l,.fn (.func fid) [] []] (.bool (l.any p)):=by
 have h:=idxC_ok l fid  p hf hl
 refine aO (cxOk 9 [0,1,4]) Tryz.func76 ?_
 conv=>whnf
 refine .one _ _ _ (fun _=>h) (.cons (lS rfl) (.cons (.fn _ _ _ _ _ _ _ .nil (.nil)) .nil)) (.inl rfl) (.inl rfl) ?_
 conv=>whnf
 show [AR.val (AV.bool (decide (idxP p l ≥ 0)))]=_
 rw [← idxP_any p l]
theorem idxK_ok (l:List CallE) (fid:FuncId)  (p:CallE→Bool) (hf:∀ e∈l,APureV Tryz.prog fid (encK e::[]) (.bool (p e))) (hl:l.length≤9223372036854775807) :
  APureV Tryz.prog 127 [.sl 2 encK k0 l,.fn (.func fid) [] []] (.int .i64 (idxP p l)):=by
 refine aO (cxOk 19 [0,1,4,5,7,8,9,16]) Tryz.func127 ?_
 conv=>whnf
 refine loop_up (cxOk _ _) l.length (fun k=>∀ j,j<k→p (l.getD j k0)=false) (fun k=>⟨[(0,.sl 2 encK k0 l),(1,.fn (.func fid) [] []),(7,.int .i64 (l.length:Nat)),(8,.int .i64 (k:Nat))],[],0⟩) (by intro j hj;omega) ((wk_of [] rfl ⟨wa0,.fn _ _ _ _ _ ae0 ae0,wa0,wa0,trivial⟩ trivial)) ?_
 intro k hk hP
 conv=>whnf
 refine ⟨fun hd=>?_,fun hd=>?_⟩
 ·have hd:=of_decide_eq_true hd
  have hlt:k<l.length:=by omega
  have hek:(k:Int).toNat=k:=Int.toNat_natCast k
  have hc:=hf _ (getD_mem (d:=k0) hlt)
  conv=>whnf
  refine iO ?_;conv=>whnf
  refine And.intro rfl ?_;conv=>whnf
  rw [hek]
  conv=>whnf
  refine cO (fun _=>hc) ?_
  conv=>whnf
  refine ⟨fun he=>?_,fun he=>?_⟩
  ·conv=>whnf
   rw [idxP_found hlt hP he]
   rfl
  ·conv=>whnf
   refine iO ?_;conv=>whnf
   refine up hlt (fun j hj=>?_) ((wk_of [] rfl ⟨wa0,.fn _ _ _ _ _ ae0 ae0,wa0,wa0,trivial⟩ trivial))
   by_cases e:j=k
   ·subst e;exact he
   ·exact hP j om0
 ·have hd:=of_decide_eq_false hd
  obtain rfl:k=l.length:=by omega
  conv=>whnf
  rw [idxP_none hP]
  rfl
theorem anyK_ok (l:List CallE) (fid:FuncId)  (p:CallE→Bool) (hf:∀ e∈l,APureV Tryz.prog fid (encK e::[]) (.bool (p e))) (hl:l.length≤9223372036854775807) :
  APureV Tryz.prog 78 [.sl 2 encK k0 l,.fn (.func fid) [] []] (.bool (l.any p)):=by
 have h:=idxK_ok l fid  p hf hl
 refine aO (cxOk 9 [0,1,4]) Tryz.func78 ?_
 conv=>whnf
 refine .one _ _ _ (fun _=>h) (.cons (lS rfl) (.cons (.fn _ _ _ _ _ _ _ .nil (.nil)) .nil)) (.inl rfl) (.inl rfl) ?_
 conv=>whnf
 show [AR.val (AV.bool (decide (idxP p l ≥ 0)))]=_
 rw [← idxP_any p l]
theorem idxE_ok (l:List Exp) (fid:FuncId) (x:Int) (p:Exp→Bool) (hf:∀ e∈l,APureV Tryz.prog fid (encE e::[.rop [.int .i64 x]]) (.bool (p e))) (hl:l.length≤9223372036854775807) :
  APureV Tryz.prog 182 [.sl 5 encE ex0 l,.fn (.func fid) [] [.rop [.int .i64 x]]] (.int .i64 (idxP p l)):=by
 refine aO (cxOk 19 [0,1,4,5,7,8,9,16]) Tryz.func182 ?_
 conv=>whnf
 refine loop_up (cxOk _ _) l.length (fun k=>∀ j,j<k→p (l.getD j ex0)=false) (fun k=>⟨[(0,.sl 5 encE ex0 l),(1,.fn (.func fid) [] [.rop [.int .i64 x]]),(7,.int .i64 (l.length:Nat)),(8,.int .i64 (k:Nat))],[],0⟩) (by intro j hj;omega) ((wk_of [] rfl ⟨wa0,.fn _ _ _ _ _ ae0 ae0,wa0,wa0,trivial⟩ trivial)) ?_
 intro k hk hP
 conv=>whnf
 refine ⟨fun hd=>?_,fun hd=>?_⟩
 ·have hd:=of_decide_eq_true hd
  have hlt:k<l.length:=by omega
  have hek:(k:Int).toNat=k:=Int.toNat_natCast k
  have hc:=hf _ (getD_mem (d:=ex0) hlt)
  conv=>whnf
  refine iO ?_;conv=>whnf
  refine And.intro rfl ?_;conv=>whnf
  rw [hek]
  conv=>whnf
  refine cO (fun _=>hc) ?_
  conv=>whnf
  refine ⟨fun he=>?_,fun he=>?_⟩
  ·conv=>whnf
   rw [idxP_found hlt hP he]
   rfl
  ·conv=>whnf
   refine iO ?_;conv=>whnf
   refine up hlt (fun j hj=>?_) ((wk_of [] rfl ⟨wa0,.fn _ _ _ _ _ ae0 ae0,wa0,wa0,trivial⟩ trivial))
   by_cases e:j=k
   ·subst e;exact he
   ·exact hP j om0
 ·have hd:=of_decide_eq_false hd
  obtain rfl:k=l.length:=by omega
  conv=>whnf
  rw [idxP_none hP]
  rfl
theorem anyE_ok (l:List Exp) (fid:FuncId) (x:Int) (p:Exp→Bool) (hf:∀ e∈l,APureV Tryz.prog fid (encE e::[.rop [.int .i64 x]]) (.bool (p e))) (hl:l.length≤9223372036854775807) :
  APureV Tryz.prog 161 [.sl 5 encE ex0 l,.fn (.func fid) [] [.rop [.int .i64 x]]] (.bool (l.any p)):=by
 have h:=idxE_ok l fid x p hf hl
 refine aO (cxOk 9 [0,1,4]) Tryz.func161 ?_
 conv=>whnf
 refine .one _ _ _ (fun _=>h) (.cons (lS rfl) (.cons (.fn _ _ _ _ _ _ _ .nil (.cons (.base (.base (.same _ rfl))) (.nil))) .nil)) (.inl rfl) (.inl rfl) ?_
 conv=>whnf
 show [AR.val (AV.bool (decide (idxP p l ≥ 0)))]=_
 rw [← idxP_any p l]
def inB (a b:Int) (l:List Int):Bool:=l.all fun n=>decide (a≤n)&&decide (n≤b)
theorem inc_ok (n a b:Int):APureV Tryz.prog 120 [.int .i64 n,.rop [.int .i64 a],.rop [.int .i64 b]] (.bool (decide (n<a)||decide (b<n))):=by
 refine aO (cxOk 13 [0,1,2,4]) Tryz.func120 ?_
 conv=>whnf
 rfl
theorem in_ok (a b:Int) (l:List Int) (hl:l.length≤9223372036854775807):APureV Tryz.prog 70 [.int .i64 a,.int .i64 b,.sl 1 encI 0 l] (.bool (inB a b l)):=by
 have h:=anyI_ok l 120 a b (fun n=>decide (n<a)||decide (b<n)) (fun e _=>inc_ok e a b) hl
 have he:inB a b l=!(l.any fun n=>decide (n<a)||decide (b<n)):=by
  unfold inB
  induction l with
  | nil=>rfl
  | cons x l ih =>
   simp only [List.all_cons,List.any_cons]
   rw [ih (by simp at hl;omega) (by exact anyI_ok l 120 a b _ (fun e _=>inc_ok e a b) (by simp at hl;omega))]
   have e1:decide (x<a)=!decide (a≤x):=by by_cases h:a≤x<;>simp [h]<;>omega
   have e2:decide (b<x)=!decide (x≤b):=by by_cases h:x≤b<;>simp [h]<;>omega
   rw [e1,e2]
   cases decide (a≤x)<;>cases decide (x≤b)<;>simp
 refine aO (cxOk 11 [0,1,2,3,4,6]) Tryz.func70 ?_
 conv=>whnf
 refine .one _ _ _ (fun _=>h) (.cons (lS rfl) (.cons (.fn _ _ _ _ _ _ _ .nil (.cons (.box _ _ _ _ _ _ rfl (.cons (.base (.same _ rfl)) .nil) (fun q hq=>(by rcases List.mem_singleton.1 hq with rfl;rfl))) (.cons (.box _ _ _ _ _ _ rfl (.cons (.base (.same _ rfl)) .nil) (fun q hq=>(by rcases List.mem_singleton.1 hq with rfl;rfl))) .nil))) .nil)) (.inr fun r hr=>(by rcases List.mem_singleton.1 hr with rfl;rfl)) (.inl rfl) ?_
 conv=>whnf
 rw [he]
 rfl
def opsN (op:Int):Int:=if op=0∨op=1∨op=2∨op=3 then 0 else if op=12∨op=16∨op=17∨op=18 then 1 else if op=15 then 3 else if op<0∨19≤op then -1 else 2
theorem operands_ok (op:Int):APureV Tryz.prog 160 [.int .i64 op] (.int .i64 (opsN op)):=by
 have key:op=0∨op=1∨op=2∨op=3∨op=12∨op=16∨op=17∨op=18∨op=15∨(op<0∨19≤op)∨(0≤op∧op≤18∧op≠0∧op≠1∧op≠2∧op≠3∧op≠12∧op≠16∧op≠17∧op≠18∧op≠15):=by omega
 have hv:opsN op=if op=0∨op=1∨op=2∨op=3 then 0 else if op=12∨op=16∨op=17∨op=18 then 1 else if op=15 then 3 else if op<0∨19≤op then -1 else 2:=rfl
 rcases key with h | h | h | h | h | h | h | h | h | h | h
 all_goals
  refine aO (cxOk 22 [0,2,3,4,9,14,21]) Tryz.func160 ?_
  conv=>whnf
  repeat (first | (refine ⟨fun _=>?_,fun hx=>(by simp at hx;omega)⟩;conv=>whnf) | (refine ⟨fun hx=>(by simp at hx;omega),fun _=>?_⟩;conv=>whnf))
 all_goals
  refine congrArg (fun z:Int=>[AR.val (AV.int .i64 z)]) ?_
  rw [hv]
  clear hv
  repeat' split
  all_goals omega
def in64 (n:Int):Prop:=-9223372036854775808≤n∧n≤9223372036854775807
def numT (n unit:Int):List UInt8 :=
 if unit=4 then (if n=1 then [116,114,117,101] else [102,97,108,115,101])
 else if unit=1 then Lib.itoa n++[32,99,111,105,110,115]
 else if unit=3 then Lib.itoa n++[32,100,97,121,115]
 else if unit=2 then Lib.itoa n++[32,109,105,108,108,101]
 else Lib.itoa n
theorem number_ok (e:Exp) (hn:in64 e.n):APureV Tryz.prog 88 [encE e] (.str (numT e.n e.unit)):=by
 have hi:=itoa_c e.n hn.1 hn.2
 have hl:=Lib.itoa_length_le e.n hn.1 hn.2
 have hv:numT e.n e.unit=if e.unit=4 then (if e.n=1 then [116,114,117,101] else [102,97,108,115,101]) else if e.unit=1 then Lib.itoa e.n++[32,99,111,105,110,115]
   else if e.unit=3 then Lib.itoa e.n++[32,100,97,121,115] else if e.unit=2 then Lib.itoa e.n++[32,109,105,108,108,101] else Lib.itoa e.n:=rfl
 have key:(e.unit=4∧e.n=1)∨(e.unit=4∧e.n≠1)∨e.unit=1∨e.unit=2∨e.unit=3∨(e.unit≠4∧e.unit≠1∧e.unit≠2∧e.unit≠3):=by omega
 rcases key with h | h | h | h | h | h
 all_goals
  refine aO (cxOk 27 [0,1,2,3,8,9,13,14,18,22]) Tryz.func88 ?_
  conv=>whnf
  refine cO (fun _=>hi) ?_
  conv=>whnf
  repeat (first | (refine ⟨fun _=>?_,fun hx=>(by simp at hx;omega)⟩;conv=>whnf) | (refine ⟨fun hx=>(by simp at hx;omega),fun _=>?_⟩;conv=>whnf) | (refine And.intro (by simp only [List.length_cons,List.length_nil];omega) ?_;conv=>whnf))
  rw [hv];simp [h]
def oprI (op:Int):Int:=idxP (fun o:Opr=>decide (o.op=op)) oprL
def formO (op:Int):Int:=if op=15 then 0 else if op=12 then 3 else if oprI op<0 then 7 else (oprL.getD (oprI op).toNat o0).form
theorem form_ok (e:Exp):APureV Tryz.prog 84 [encE e] (.int .i64 (formO e.op)):=by
 have hal:=argsE_len e
 have hv:formO e.op=if e.op=15 then 0 else if e.op=12 then 3 else if oprI e.op<0 then 7 else (oprL.getD (oprI e.op).toNat o0).form:=rfl
 rw [hv]
 refine aO (cxOk 25 [0,1,2,4,6,7,9,11,12,13,14,21]) Tryz.func84 ?_
 conv=>whnf
 refine ⟨fun h15=>?_,fun h15=>?_⟩
 ·rw [if_pos (of_decide_eq_true h15)]
  conv=>whnf
  rfl
 rw [if_neg (of_decide_eq_false h15)]
 conv=>whnf
 refine ⟨fun h12=>?_,fun h12=>?_⟩
 ·rw [if_pos (of_decide_eq_true h12)]
  conv=>whnf
  rfl
 rw [if_neg (of_decide_eq_false h12)]
 conv=>whnf
 refine cO (fun _=>opr_ok) ?_
 conv=>whnf
 refine loop_up (cxOk _ _) 8 (fun k=>∀ j,j<k→decide ((oprL.getD j o0).op=e.op)=false) (fun k=>⟨[(1,.ptr 0 0),(11,encOs oprL),(12,.int .i64 8),(13,.int .i64 (k:Nat))],[(0,.cells 27 [.int .i64 e.op,.int .i64 e.n,.int .i64 e.unit,.str e.s,.lsl 5 (argsE e)])],1⟩) (by intro j hj;omega) ((wk_of [(0,.id 0)] rfl ⟨wc0,wa0,wa0,wa0,trivial⟩ ⟨wb0,trivial⟩)) ?_
 intro k hk hP
 have hlen:oprL.length=8:=rfl
 conv=>whnf
 refine ⟨fun hd=>?_,fun hd=>?_⟩
 ·have hlt:k<oprL.length:=by have:=of_decide_eq_true hd;omega
  have hek:(k:Int).toNat=k:=Int.toNat_natCast k
  conv=>whnf
  refine iO ?_;conv=>whnf
  refine And.intro rfl ?_;conv=>whnf
  rw [hek]
  conv=>whnf
  refine ⟨fun he=>?_,fun he=>?_⟩
  ·have hf:oprI e.op=k:=idxP_found (d:=o0) hlt hP he
   conv=>whnf
   rw [hf,if_neg (by omega),hek]
   rfl
  ·conv=>whnf
   refine iO ?_;conv=>whnf
   refine up om0 (fun j hj=>?_) ((wk_of [(0,.id 0)] rfl ⟨wc0,wa0,wa0,wa0,trivial⟩ ⟨wb0,trivial⟩))
   by_cases h:j=k
   ·subst h;exact he
   ·exact hP j om0
 ·have hke:k=oprL.length:=by have:=of_decide_eq_false hd;omega
  subst hke
  have hf:oprI e.op=-1:=idxP_none (d:=o0) hP
  conv=>whnf
  rw [hf,if_pos (by omega)]
  rfl
def argOf (e:Exp) (i:Nat):Exp:=e.args.getD i ex0
mutual
def bodyT:Nat→Exp→List UInt8
 | 0,_=>[]
 | d+1,e =>
  let a:=fun (i:Nat) (least:Int)=>showT d (argOf e i) least
  if e.op=0 then numT e.n e.unit
  else if e.op=1 then e.s
  else if e.op=2 then [102,97,99,116,32]++e.s
  else if e.op=3 then [114,97,116,101,32]++e.s
  else if e.op=15 then [105,102,32]++a 0 0++[32,116,104,101,110,32]++a 1 0++[32,101,108,115,101,32]++a 2 0
  else if e.op=12 then [110,111,116,32]++a 0 3
  else if e.op=8 then [109,105,110]++[32,40,32]++a 0 0++[32,44,32]++a 1 0++[32,41]
  else if e.op=9 then [109,97,120]++[32,40,32]++a 0 0++[32,44,32]++a 1 0++[32,41]
  else if e.op=16 then [101,118,101,114]++[32]++Lib.itoa e.n++[32,40,32]++a 0 0++[32,41]
  else if e.op=17 then [108,111,110,103]++[32]++Lib.itoa e.n++[32,40,32]++a 0 0++[32,41]
  else if e.op=18 then [115,111,111,110]++[32]++Lib.itoa e.n++[32,40,32]++a 0 0++[32,41]
  else
   let o:=oprL.getD (oprI e.op).toNat o0
   a 0 (if o.form=4 then 5 else o.form)++[32]++o.text++[32]++a 1 (o.form+1)
def showT:Nat→Exp→Int→List UInt8
 | d,e,least=>if formO e.op<least then [40,32]++bodyT d e++[32,41] else bodyT d e
end
def rightB:Nat→Exp→Bool
 | 0,_=>false
 | d+1,e =>
  if (e.args.length:Int)≠opsN e.op then false
  else if e.op=0 then decide (e.s=[])&&inB 0 4 [e.unit]&&inB 0 (if e.unit=4 then 1 else 1000000000000000) [e.n]
  else if e.op=1∨e.op=2∨e.op=3 then decide (e.n=0)&&decide (e.unit=0)&&nameB e.s
  else if e.op=16∨e.op=17∨e.op=18 then decide (e.unit=0)&&decide (e.s=[])&&inB 1 1000 [e.n]&&rightB d (argOf e 0)
  else decide (e.n=0)&&decide (e.unit=0)&&decide (e.s=[])&&!(e.args.any fun x=>!rightB d x)
inductive OkE:Exp→Prop
 | mk {e:Exp} (op:in64 e.op) (n:in64 e.n) (unit:in64 e.unit) (s:e.s.length≤9223372036854775807) (len:e.args.length≤9223372036854775807) (args:∀ a∈e.args,OkE a):OkE e
theorem OkE.slen {e:Exp} (h:OkE e):e.s.length≤9223372036854775807:=by cases h;assumption
theorem OkE.alen {e:Exp} (h:OkE e):e.args.length≤9223372036854775807:=by cases h;assumption
theorem OkE.arg {e:Exp} (h:OkE e):∀ a∈e.args,OkE a:=by cases h;assumption
theorem OkE.n64 {e:Exp} (h:OkE e):in64 e.n:=by cases h;assumption
theorem rightc_ok (d:Nat) (x:Exp) (hd:d≤1000) (h:APureV Tryz.prog 124 [encE x,.int .i64 (d:Nat)] (.bool (rightB d x))):APureV Tryz.prog 162 [encE x,.rop [.int .i64 ((d:Nat)+1)]] (.bool (!rightB d x)):=by
 have he:((d:Int)+1-1)=(d:Int):=by omega
 refine aO (cxOk 9 [0,1,2,3]) Tryz.func162 ?_
 conv=>whnf
 refine iO ?_;conv=>whnf
 rw [he]
 refine cO (fun _=>h) ?_
 conv=>whnf
 rfl
theorem in1_ok (a b n:Int):APureV Tryz.prog 70 [.int .i64 a,.int .i64 b,.sl 1 encI 0 [n]] (.bool (inB a b [n])):=in_ok a b [n] (by simp)
theorem right_ok:∀ (d:Nat) (e:Exp),d≤1000→OkE e→APureV Tryz.prog 124 [encE e,.int .i64 (d:Nat)] (.bool (rightB d e)):=by
 intro d
 induction d with
 | zero =>
  intro e _ hok
  refine aO (cxOk 104 [0,1,2,3,4,5,16,18,19,23,40,57]) Tryz.func124 ?_
  conv=>whnf
  refine .quiet (by kernel_rfl) ?_
  conv=>whnf
  refine .mk _ _ _ _ (fun _=>operands_ok e.op) ai0 rfl ?_
  conv=>whnf
  refine ⟨fun hc=>?_,fun hc=>?_⟩
  ·conv=>whnf
   rfl
  ·exact absurd hc (by simp)
 | succ d ih =>
  intro e hd hok
  have hal:=argsE_len e
  have hal2:=hok.alen
  have hz:decide (((d+1:Nat):Int)=0)=false:=by simp;omega
  refine aO (cxOk 104 [0,1,2,3,4,5,16,18,19,23,40,57]) Tryz.func124 ?_
  conv=>whnf
  refine .quiet (by kernel_rfl) ?_
  conv=>whnf
  refine .mk _ _ _ _ (fun _=>operands_ok e.op) ai0 rfl ?_
  conv=>whnf
  rw [hz]
  unfold rightB
  refine ⟨fun hc=>?_,fun hc=>?_⟩
  ·have h1:(e.args.length:Int)≠opsN e.op:=by rw [← hal];simpa using hc
   rw [if_pos h1]
   conv=>whnf
   rfl
  have h1:¬ (e.args.length:Int)≠opsN e.op:=by rw [← hal];simpa using hc
  rw [if_neg h1]
  conv=>whnf
  refine ⟨fun h0=>?_,fun h0=>?_⟩
  ·have h0:=of_decide_eq_true h0
   rw [if_pos h0]
   conv=>whnf
   refine ⟨fun hu=>?_,fun hu=>?_⟩
   ·have hu:=of_decide_eq_true hu
    rw [if_pos hu]
    conv=>whnf
    cases hs:decide (e.s=[]) with
    | false =>
     refine gF ?_
     conv=>whnf
     refine cF [.int .i64 0,.int .i64 4,.undef] [.val (.bool false)] ?_
     conv=>whnf
     refine gF ?_
     conv=>whnf
     refine cF [.int .i64 0,.int .i64 1,.undef] [.val (.bool false)] ?_
     conv=>whnf
     rfl
    | true =>
     refine gT ?_
     conv=>whnf
     refine cO (fun _=>in1_ok 0 4 e.unit) ?_
     conv=>whnf
     cases hi:inB 0 4 [e.unit] with
     | false =>
      refine gF ?_
      conv=>whnf
      refine cF [.int .i64 0,.int .i64 1,.undef] [.val (.bool false)] ?_
      conv=>whnf
      rfl
     | true =>
      refine gT ?_
      conv=>whnf
      refine cO (fun _=>in1_ok 0 1 e.n) ?_
      conv=>whnf
      rfl
   ·have hu:=of_decide_eq_false hu
    rw [if_neg hu]
    conv=>whnf
    cases hs:decide (e.s=[]) with
    | false =>
     refine gF ?_
     conv=>whnf
     refine cF [.int .i64 0,.int .i64 4,.undef] [.val (.bool false)] ?_
     conv=>whnf
     refine gF ?_
     conv=>whnf
     refine cF [.int .i64 0,.int .i64 1000000000000000,.undef] [.val (.bool false)] ?_
     conv=>whnf
     rfl
    | true =>
     refine gT ?_
     conv=>whnf
     refine cO (fun _=>in1_ok 0 4 e.unit) ?_
     conv=>whnf
     cases hi:inB 0 4 [e.unit] with
     | false =>
      refine gF ?_
      conv=>whnf
      refine cF [.int .i64 0,.int .i64 1000000000000000,.undef] [.val (.bool false)] ?_
      conv=>whnf
      rfl
     | true =>
      refine gT ?_
      conv=>whnf
      refine cO (fun _=>in1_ok 0 1000000000000000 e.n) ?_
      conv=>whnf
      rfl
  have h0:=of_decide_eq_false h0
  rw [if_neg h0]
  conv=>whnf
  by_cases h123:e.op=1∨e.op=2∨e.op=3
  ·rw [if_pos h123]
   have fin:∀ (k:Nat),True:=fun _=>trivial
   rcases h123 with h | h | h
   ·refine ⟨fun _=>?_,fun hx=>absurd h (of_decide_eq_false hx)⟩
    conv=>whnf
    refine ⟨fun _=>?_,fun hx=>absurd h (of_decide_eq_false hx)⟩
    conv=>whnf
    refine cO (fun _=>name_ok e.s hok.slen) ?_
    conv=>whnf
    rfl
   ·refine ⟨fun hx=>absurd (of_decide_eq_true hx) om0,fun _=>?_⟩
    conv=>whnf
    refine ⟨fun _=>?_,fun hx=>absurd h (of_decide_eq_false hx)⟩
    conv=>whnf
    refine ⟨fun _=>?_,fun hx=>absurd h (of_decide_eq_false hx)⟩
    conv=>whnf
    refine cO (fun _=>name_ok e.s hok.slen) ?_
    conv=>whnf
    rfl
   ·refine ⟨fun hx=>absurd (of_decide_eq_true hx) om0,fun _=>?_⟩
    conv=>whnf
    refine ⟨fun hx=>absurd (of_decide_eq_true hx) om0,fun _=>?_⟩
    conv=>whnf
    refine ⟨fun _=>?_,fun hx=>absurd h (of_decide_eq_false hx)⟩
    conv=>whnf
    refine cO (fun _=>name_ok e.s hok.slen) ?_
    conv=>whnf
    rfl
  rw [if_neg h123]
  by_cases h678:e.op=16∨e.op=17∨e.op=18
  ·rw [if_pos h678]
   have hl1:e.args.length=1:=by
    have h2:opsN e.op=1:=by unfold opsN;rw [if_neg (by omega),if_pos (by omega)]
    have h3:(e.args.length:Int)=1:=by rw [← h2];omega
    omega
   have ha0:argOf e 0∈e.args:=getD_mem (by omega)
   have hrec:=ih (argOf e 0) (by omega) (hok.arg _ ha0)
   rcases h678 with h | h | h
   ·refine ⟨fun hx=>absurd (of_decide_eq_true hx) om0,fun _=>?_⟩
    conv=>whnf
    refine ⟨fun hx=>absurd (of_decide_eq_true hx) om0,fun _=>?_⟩
    conv=>whnf
    refine ⟨fun hx=>absurd (of_decide_eq_true hx) om0,fun _=>?_⟩
    conv=>whnf
    refine ⟨fun _=>?_,fun hx=>absurd h (of_decide_eq_false hx)⟩
    conv=>whnf
    refine ⟨fun _=>?_,fun hx=>absurd h (of_decide_eq_false hx)⟩
    conv=>whnf
    refine .eff ag0 ?_
    conv=>whnf
    cases hu:decide (e.unit=0) with
    | false =>
     refine nD ?_;conv=>whnf
     refine nD ?_;conv=>whnf
     refine nD ?_;conv=>whnf
     refine nD ?_;conv=>whnf
     refine nD ?_;conv=>whnf
     refine nD ?_;conv=>whnf
     refine nD ?_;conv=>whnf
     refine nD ?_;conv=>whnf
     refine nD ?_;conv=>whnf
     refine nD ?_;conv=>whnf
     refine nD ?_;conv=>whnf
     refine nD ?_;conv=>whnf
     refine nD ?_;conv=>whnf
     refine nD ?_;conv=>whnf
     refine nD ?_;conv=>whnf
     refine nD ?_;conv=>whnf
     refine nD ?_;conv=>whnf
     refine And.intro rfl ?_;conv=>whnf
     rfl
    | true =>
     refine nE ?_;conv=>whnf
     refine nE ?_;conv=>whnf
     refine nE ?_;conv=>whnf
     refine nE ?_;conv=>whnf
     cases hs:decide (e.s=[]) with
     | false =>
      refine nD ?_;conv=>whnf
      refine nD ?_;conv=>whnf
      refine nD ?_;conv=>whnf
      refine nD ?_;conv=>whnf
      refine nD ?_;conv=>whnf
      refine nD ?_;conv=>whnf
      refine nD ?_;conv=>whnf
      refine nD ?_;conv=>whnf
      refine nD ?_;conv=>whnf
      refine nD ?_;conv=>whnf
      refine nD ?_;conv=>whnf
      refine nD ?_;conv=>whnf
      refine nD ?_;conv=>whnf
      refine And.intro rfl ?_;conv=>whnf
      rfl
     | true =>
      refine nE ?_;conv=>whnf
      refine nE ?_;conv=>whnf
      refine nE ?_;conv=>whnf
      refine nE ?_;conv=>whnf
      refine cO (fun _=>in1_ok 1 1000 e.n) ?_
      conv=>whnf
      cases hi:inB 1 1000 [e.n] with
      | false =>
       refine nE ?_;conv=>whnf
       refine nD ?_;conv=>whnf
       refine nD ?_;conv=>whnf
       refine nD ?_;conv=>whnf
       refine nD ?_;conv=>whnf
       refine nD ?_;conv=>whnf
       refine nD ?_;conv=>whnf
       refine nD ?_;conv=>whnf
       refine nD ?_;conv=>whnf
       refine And.intro rfl ?_;conv=>whnf
       rfl
      | true =>
       refine nE ?_;conv=>whnf
       refine nE ?_;conv=>whnf
       refine nE ?_;conv=>whnf
       refine nE ?_;conv=>whnf
       refine iO ?_;conv=>whnf
       refine And.intro rfl ?_;conv=>whnf
       refine nE ?_;conv=>whnf
       rw [show (argsE e).getD (Int.toNat 0) .undef=encE (argOf e 0) from argsE_get e (by omega)]
       conv=>whnf
       refine nE ?_;conv=>whnf
       refine nE ?_;conv=>whnf
       refine iO ?_;conv=>whnf
       refine nE ?_;conv=>whnf
       rw [show (((d+1:Nat):Int)-1)=(d:Int) by omega]
       refine cO (fun _=>hrec) ?_
       conv=>whnf
       refine nE ?_;conv=>whnf
       refine And.intro rfl ?_;conv=>whnf
       rfl
   ·refine ⟨fun hx=>absurd (of_decide_eq_true hx) om0,fun _=>?_⟩
    conv=>whnf
    refine ⟨fun hx=>absurd (of_decide_eq_true hx) om0,fun _=>?_⟩
    conv=>whnf
    refine ⟨fun hx=>absurd (of_decide_eq_true hx) om0,fun _=>?_⟩
    conv=>whnf
    refine ⟨fun hx=>absurd (of_decide_eq_true hx) om0,fun _=>?_⟩
    conv=>whnf
    refine ⟨fun _=>?_,fun hx=>absurd h (of_decide_eq_false hx)⟩
    conv=>whnf
    refine ⟨fun _=>?_,fun hx=>absurd h (of_decide_eq_false hx)⟩
    conv=>whnf
    refine .eff ag0 ?_
    conv=>whnf
    cases hu:decide (e.unit=0) with
    | false =>
     refine nD ?_;conv=>whnf
     refine nD ?_;conv=>whnf
     refine nD ?_;conv=>whnf
     refine nD ?_;conv=>whnf
     refine nD ?_;conv=>whnf
     refine nD ?_;conv=>whnf
     refine nD ?_;conv=>whnf
     refine nD ?_;conv=>whnf
     refine nD ?_;conv=>whnf
     refine nD ?_;conv=>whnf
     refine nD ?_;conv=>whnf
     refine nD ?_;conv=>whnf
     refine nD ?_;conv=>whnf
     refine nD ?_;conv=>whnf
     refine nD ?_;conv=>whnf
     refine nD ?_;conv=>whnf
     refine nD ?_;conv=>whnf
     refine And.intro rfl ?_;conv=>whnf
     rfl
    | true =>
     refine nE ?_;conv=>whnf
     refine nE ?_;conv=>whnf
     refine nE ?_;conv=>whnf
     refine nE ?_;conv=>whnf
     cases hs:decide (e.s=[]) with
     | false =>
      refine nD ?_;conv=>whnf
      refine nD ?_;conv=>whnf
      refine nD ?_;conv=>whnf
      refine nD ?_;conv=>whnf
      refine nD ?_;conv=>whnf
      refine nD ?_;conv=>whnf
      refine nD ?_;conv=>whnf
      refine nD ?_;conv=>whnf
      refine nD ?_;conv=>whnf
      refine nD ?_;conv=>whnf
      refine nD ?_;conv=>whnf
      refine nD ?_;conv=>whnf
      refine nD ?_;conv=>whnf
      refine And.intro rfl ?_;conv=>whnf
      rfl
     | true =>
      refine nE ?_;conv=>whnf
      refine nE ?_;conv=>whnf
      refine nE ?_;conv=>whnf
      refine nE ?_;conv=>whnf
      refine cO (fun _=>in1_ok 1 1000 e.n) ?_
      conv=>whnf
      cases hi:inB 1 1000 [e.n] with
      | false =>
       refine nE ?_;conv=>whnf
       refine nD ?_;conv=>whnf
       refine nD ?_;conv=>whnf
       refine nD ?_;conv=>whnf
       refine nD ?_;conv=>whnf
       refine nD ?_;conv=>whnf
       refine nD ?_;conv=>whnf
       refine nD ?_;conv=>whnf
       refine nD ?_;conv=>whnf
       refine And.intro rfl ?_;conv=>whnf
       rfl
      | true =>
       refine nE ?_;conv=>whnf
       refine nE ?_;conv=>whnf
       refine nE ?_;conv=>whnf
       refine nE ?_;conv=>whnf
       refine iO ?_;conv=>whnf
       refine And.intro rfl ?_;conv=>whnf
       refine nE ?_;conv=>whnf
       rw [show (argsE e).getD (Int.toNat 0) .undef=encE (argOf e 0) from argsE_get e (by omega)]
       conv=>whnf
       refine nE ?_;conv=>whnf
       refine nE ?_;conv=>whnf
       refine iO ?_;conv=>whnf
       refine nE ?_;conv=>whnf
       rw [show (((d+1:Nat):Int)-1)=(d:Int) by omega]
       refine cO (fun _=>hrec) ?_
       conv=>whnf
       refine nE ?_;conv=>whnf
       refine And.intro rfl ?_;conv=>whnf
       rfl
   ·refine ⟨fun hx=>absurd (of_decide_eq_true hx) om0,fun _=>?_⟩
    conv=>whnf
    refine ⟨fun hx=>absurd (of_decide_eq_true hx) om0,fun _=>?_⟩
    conv=>whnf
    refine ⟨fun hx=>absurd (of_decide_eq_true hx) om0,fun _=>?_⟩
    conv=>whnf
    refine ⟨fun hx=>absurd (of_decide_eq_true hx) om0,fun _=>?_⟩
    conv=>whnf
    refine ⟨fun hx=>absurd (of_decide_eq_true hx) om0,fun _=>?_⟩
    conv=>whnf
    refine ⟨fun _=>?_,fun hx=>absurd h (of_decide_eq_false hx)⟩
    conv=>whnf
    refine .eff ag0 ?_
    conv=>whnf
    cases hu:decide (e.unit=0) with
    | false =>
     refine nD ?_;conv=>whnf
     refine nD ?_;conv=>whnf
     refine nD ?_;conv=>whnf
     refine nD ?_;conv=>whnf
     refine nD ?_;conv=>whnf
     refine nD ?_;conv=>whnf
     refine nD ?_;conv=>whnf
     refine nD ?_;conv=>whnf
     refine nD ?_;conv=>whnf
     refine nD ?_;conv=>whnf
     refine nD ?_;conv=>whnf
     refine nD ?_;conv=>whnf
     refine nD ?_;conv=>whnf
     refine nD ?_;conv=>whnf
     refine nD ?_;conv=>whnf
     refine nD ?_;conv=>whnf
     refine nD ?_;conv=>whnf
     refine And.intro rfl ?_;conv=>whnf
     rfl
    | true =>
     refine nE ?_;conv=>whnf
     refine nE ?_;conv=>whnf
     refine nE ?_;conv=>whnf
     refine nE ?_;conv=>whnf
     cases hs:decide (e.s=[]) with
     | false =>
      refine nD ?_;conv=>whnf
      refine nD ?_;conv=>whnf
      refine nD ?_;conv=>whnf
      refine nD ?_;conv=>whnf
      refine nD ?_;conv=>whnf
      refine nD ?_;conv=>whnf
      refine nD ?_;conv=>whnf
      refine nD ?_;conv=>whnf
      refine nD ?_;conv=>whnf
      refine nD ?_;conv=>whnf
      refine nD ?_;conv=>whnf
      refine nD ?_;conv=>whnf
      refine nD ?_;conv=>whnf
      refine And.intro rfl ?_;conv=>whnf
      rfl
     | true =>
      refine nE ?_;conv=>whnf
      refine nE ?_;conv=>whnf
      refine nE ?_;conv=>whnf
      refine nE ?_;conv=>whnf
      refine cO (fun _=>in1_ok 1 1000 e.n) ?_
      conv=>whnf
      cases hi:inB 1 1000 [e.n] with
      | false =>
       refine nE ?_;conv=>whnf
       refine nD ?_;conv=>whnf
       refine nD ?_;conv=>whnf
       refine nD ?_;conv=>whnf
       refine nD ?_;conv=>whnf
       refine nD ?_;conv=>whnf
       refine nD ?_;conv=>whnf
       refine nD ?_;conv=>whnf
       refine nD ?_;conv=>whnf
       refine And.intro rfl ?_;conv=>whnf
       rfl
      | true =>
       refine nE ?_;conv=>whnf
       refine nE ?_;conv=>whnf
       refine nE ?_;conv=>whnf
       refine nE ?_;conv=>whnf
       refine iO ?_;conv=>whnf
       refine And.intro rfl ?_;conv=>whnf
       refine nE ?_;conv=>whnf
       rw [show (argsE e).getD (Int.toNat 0) .undef=encE (argOf e 0) from argsE_get e (by omega)]
       conv=>whnf
       refine nE ?_;conv=>whnf
       refine nE ?_;conv=>whnf
       refine iO ?_;conv=>whnf
       refine nE ?_;conv=>whnf
       rw [show (((d+1:Nat):Int)-1)=(d:Int) by omega]
       refine cO (fun _=>hrec) ?_
       conv=>whnf
       refine nE ?_;conv=>whnf
       refine And.intro rfl ?_;conv=>whnf
       rfl
  rw [if_neg h678]
  refine ⟨fun hx=>absurd (of_decide_eq_true hx) om0,fun _=>?_⟩
  conv=>whnf
  refine ⟨fun hx=>absurd (of_decide_eq_true hx) om0,fun _=>?_⟩
  conv=>whnf
  refine ⟨fun hx=>absurd (of_decide_eq_true hx) om0,fun _=>?_⟩
  conv=>whnf
  refine ⟨fun hx=>absurd (of_decide_eq_true hx) om0,fun _=>?_⟩
  conv=>whnf
  refine ⟨fun hx=>absurd (of_decide_eq_true hx) om0,fun _=>?_⟩
  conv=>whnf
  refine ⟨fun hx=>absurd (of_decide_eq_true hx) om0,fun _=>?_⟩
  conv=>whnf
  have hany:=anyE_ok e.args 162 ((d:Nat)+1) (fun x=>!rightB d x) (fun x hx=>rightc_ok d x (by omega) (ih x (by omega) (hok.arg _ hx))) hal2
  refine .one _ _ _ (fun _=>hany) (.cons (lX (argsE_eq e)) (.cons (.fn _ _ _ _ _ _ _ .nil (.cons (.box _ _ _ _ _ _ rfl (.cons (.base (.same _ rfl)) .nil) (fun q hq=>(by rcases List.mem_singleton.1 hq with rfl;rfl))) .nil)) .nil)) (.inr fun r hr=>(by rcases List.mem_singleton.1 hr with rfl;rfl)) (.inr rfl) ?_
  conv=>whnf
  rfl
theorem name_len {s:List UInt8} (h:nameB s=true):s.length≤20:=by
 unfold nameB wordB at h
 simp only [Bool.and_eq_true,decide_eq_true_eq] at h
 exact h.1.1.2
theorem getD_argOf {e:Exp} {i:Nat} (h:i<e.args.length):argOf e i∈e.args:=getD_mem h
theorem right_len {d:Nat} {e:Exp} (h:rightB d e=true):(e.args.length:Int)=opsN e.op:=by
 cases d with
 | zero=>simp [rightB] at h
 | succ d =>
  unfold rightB at h
  split at h
  ·cases h
  ·rename_i h1
   omega
theorem right_op {d:Nat} {e:Exp} (h:rightB d e=true):0≤e.op∧e.op<19:=by
 have h1:=right_len h
 unfold opsN at h1
 repeat' split at h1
 all_goals omega
theorem right_name {d:Nat} {e:Exp} (h:rightB d e=true) (ho:e.op=1∨e.op=2∨e.op=3):nameB e.s=true:=by
 cases d with
 | zero=>simp [rightB] at h
 | succ d =>
  unfold rightB at h
  split at h
  ·cases h
  rw [if_neg (by omega)] at h
  simp only [Bool.and_eq_true] at h
  exact h.2
theorem right_arg {d:Nat} {e:Exp} (h:rightB (d+1) e=true) {x:Exp} (hx:x∈e.args):rightB d x=true:=by
 have hl:=right_len h
 unfold rightB at h
 split at h
 ·cases h
 have hpos:0<e.args.length:=List.length_pos_of_mem hx
 have h0:¬ e.op=0:=by
  intro h0
  have:opsN e.op=0:=by rw [h0];rfl
  omega
 have h1:¬ (e.op=1∨e.op=2∨e.op=3):=by
  intro h1
  have:opsN e.op=0:=by unfold opsN;rw [if_pos (by omega)]
  omega
 rw [if_neg h0,if_neg h1] at h
 split at h
 ·rename_i h2
  have:opsN e.op=1:=by unfold opsN;rw [if_neg (by omega),if_pos (by omega)]
  simp only [Bool.and_eq_true] at h
  have hl1:e.args.length=1:=by omega
  match hm:e.args,hl1 with
  | [y],_ =>
   rw [hm] at hx
   have hxy:x=y:=by simpa using hx
   have:argOf e 0=y:=by unfold argOf;rw [hm];rfl
   rw [hxy,← this]
   exact h.2
 ·simp only [Bool.and_eq_true,Bool.not_eq_true',List.any_eq_false] at h
  have:=h.2 x hx
  simpa using this
theorem opr_text (i:Nat):(oprL.getD i o0).text.length≤3:=by
 match i with
 | 0 | 1 | 2 | 3 | 4 | 5 | 6 | 7=>decide
 | n+8=>simp [oprL,o0]
theorem num_len (n u:Int) (hn:in64 n):(numT n u).length≤30:=by
 have hl:=Lib.itoa_length_le n hn.1 hn.2
 unfold numT
 repeat' split
 all_goals simp
 all_goals omega
def opE (op:Int):Opr:=oprL.getD (oprI op).toNat o0
theorem body_succ (d:Nat) (e:Exp):bodyT (d+1) e =
  if e.op=0 then numT e.n e.unit
  else if e.op=1 then e.s
  else if e.op=2 then [102,97,99,116,32]++e.s
  else if e.op=3 then [114,97,116,101,32]++e.s
  else if e.op=15 then [105,102,32]++showT d (argOf e 0) 0++[32,116,104,101,110,32]++showT d (argOf e 1) 0++[32,101,108,115,101,32]++showT d (argOf e 2) 0
  else if e.op=12 then [110,111,116,32]++showT d (argOf e 0) 3
  else if e.op=8 then [109,105,110]++[32,40,32]++showT d (argOf e 0) 0++[32,44,32]++showT d (argOf e 1) 0++[32,41]
  else if e.op=9 then [109,97,120]++[32,40,32]++showT d (argOf e 0) 0++[32,44,32]++showT d (argOf e 1) 0++[32,41]
  else if e.op=16 then [101,118,101,114]++[32]++Lib.itoa e.n++[32,40,32]++showT d (argOf e 0) 0++[32,41]
  else if e.op=17 then [108,111,110,103]++[32]++Lib.itoa e.n++[32,40,32]++showT d (argOf e 0) 0++[32,41]
  else if e.op=18 then [115,111,111,110]++[32]++Lib.itoa e.n++[32,40,32]++showT d (argOf e 0) 0++[32,41]
  else
   showT d (argOf e 0) (if (opE e.op).form=4 then 5 else (opE e.op).form)++[32]++(opE e.op).text++[32]++showT d (argOf e 1) ((opE e.op).form+1):=by
 rw [bodyT]
 rfl
def lenB (d:Nat):Nat:=64*4 ^ d
theorem lenB_pos (d:Nat):64≤lenB d:=by
 have:0<4 ^ d:=Nat.pow_pos (by decide)
 unfold lenB;omega
theorem lenB_succ (d:Nat):lenB (d+1)=4*lenB d:=by unfold lenB;rw [Nat.pow_succ];omega
theorem body_len:∀ (d:Nat) (e:Exp),rightB d e=true→OkE e→(bodyT d e).length≤lenB d:=by
 intro d
 induction d with
 | zero=>intro e h;simp [rightB] at h
 | succ d ih =>
  intro e h hok
  have hop:=right_op h
  have hargs:=right_len h
  have hs:∀ i (l:Int),i<e.args.length→(showT d (argOf e i) l).length≤lenB d+4:=by
   intro i l hi
   have h1:=ih (argOf e i) (right_arg h (getD_argOf hi)) (hok.arg _ (getD_argOf hi))
   unfold showT
   split
   ·simp only [List.length_append,List.length_cons,List.length_nil];omega
   ·omega
  have hn:=Lib.itoa_length_le e.n hok.n64.1 hok.n64.2
  have hp:=lenB_pos d
  rw [lenB_succ]
  rw [body_succ]
  by_cases h0:e.op=0
  ·rw [if_pos h0]
   have:=num_len e.n e.unit hok.n64;omega
  rw [if_neg h0]
  by_cases h1:e.op=1
  ·rw [if_pos h1]
   have:=name_len (right_name h (by omega));omega
  rw [if_neg h1]
  by_cases h2:e.op=2
  ·rw [if_pos h2]
   have:=name_len (right_name h (by omega))
   simp only [List.length_append,List.length_cons,List.length_nil];omega
  rw [if_neg h2]
  by_cases h3:e.op=3
  ·rw [if_pos h3]
   have:=name_len (right_name h (by omega))
   simp only [List.length_append,List.length_cons,List.length_nil];omega
  rw [if_neg h3]
  by_cases h15:e.op=15
  ·rw [if_pos h15]
   have hl:e.args.length=3:=by rw [h15] at hargs;exact Int.ofNat.inj hargs
   have a0:=hs 0 0 (by omega)
   have a1:=hs 1 0 (by omega)
   have a2:=hs 2 0 (by omega)
   simp only [List.length_append,List.length_cons,List.length_nil];omega
  rw [if_neg h15]
  by_cases h12:e.op=12
  ·rw [if_pos h12]
   have hl:e.args.length=1:=by rw [h12] at hargs;exact Int.ofNat.inj hargs
   have a0:=hs 0 3 (by omega)
   simp only [List.length_append,List.length_cons,List.length_nil];omega
  rw [if_neg h12]
  by_cases h8:e.op=8
  ·rw [if_pos h8]
   have hl:e.args.length=2:=by rw [h8] at hargs;exact Int.ofNat.inj hargs
   have a0:=hs 0 0 (by omega)
   have a1:=hs 1 0 (by omega)
   simp only [List.length_append,List.length_cons,List.length_nil];omega
  rw [if_neg h8]
  by_cases h9:e.op=9
  ·rw [if_pos h9]
   have hl:e.args.length=2:=by rw [h9] at hargs;exact Int.ofNat.inj hargs
   have a0:=hs 0 0 (by omega)
   have a1:=hs 1 0 (by omega)
   simp only [List.length_append,List.length_cons,List.length_nil];omega
  rw [if_neg h9]
  by_cases h16:e.op=16
  ·rw [if_pos h16]
   have hl:e.args.length=1:=by rw [h16] at hargs;exact Int.ofNat.inj hargs
   have a0:=hs 0 0 (by omega)
   simp only [List.length_append,List.length_cons,List.length_nil];omega
  rw [if_neg h16]
  by_cases h17:e.op=17
  ·rw [if_pos h17]
   have hl:e.args.length=1:=by rw [h17] at hargs;exact Int.ofNat.inj hargs
   have a0:=hs 0 0 (by omega)
   simp only [List.length_append,List.length_cons,List.length_nil];omega
  rw [if_neg h17]
  by_cases h18:e.op=18
  ·rw [if_pos h18]
   have hl:e.args.length=1:=by rw [h18] at hargs;exact Int.ofNat.inj hargs
   have a0:=hs 0 0 (by omega)
   simp only [List.length_append,List.length_cons,List.length_nil];omega
  rw [if_neg h18]
  have hl:e.args.length=2:=by
   have:opsN e.op=2:=by unfold opsN;rw [if_neg (by omega),if_neg (by omega),if_neg (by omega),if_neg (by omega)]
   omega
  have ht:(opE e.op).text.length≤3:=opr_text (oprI e.op).toNat
  have a0:=hs 0 (if (opE e.op).form=4 then 5 else (opE e.op).form) (by omega)
  have a1:=hs 1 ((opE e.op).form+1) (by omega)
  simp only [List.length_append,List.length_cons,List.length_nil]
  omega
theorem show_len (d:Nat) (e:Exp) (l:Int) (h:rightB d e=true) (hok:OkE e):(showT d e l).length≤lenB d+4:=by
 have:=body_len d e h hok
 unfold showT
 split
 ·simp only [List.length_append,List.length_cons,List.length_nil];omega
 ·omega
theorem idxO_ok (l:List Opr) (fid:FuncId) (cs:List AV) (p:Opr→Bool) (hf:∀ e∈l,APureV Tryz.prog fid (encO e::[.rop cs]) (.bool (p e))) (hl:l.length≤9223372036854775807) (h1:treesB cs=true) :
  APureV Tryz.prog 90 [.sl 3 encO o0 l,.fn (.func fid) [] [.rop cs]] (.int .i64 (idxP p l)):=by
 refine aO (cxOk 19 [0,1,4,5,7,8,9,16]) Tryz.func90 ?_
 conv=>whnf
 refine loop_up (cxOk _ _) l.length (fun k=>∀ j,j<k→p (l.getD j o0)=false) (fun k=>⟨[(0,.sl 3 encO o0 l),(1,.fn (.func fid) [] [.rop cs]),(7,.int .i64 (l.length:Nat)),(8,.int .i64 (k:Nat))],[],0⟩) (by intro j hj;omega) ((wk_of [] rfl ⟨wa0,.fn _ _ _ _ _ ae0 ae0,wa0,wa0,trivial⟩ trivial)) ?_
 intro k hk hP
 conv=>whnf
 refine ⟨fun hd=>?_,fun hd=>?_⟩
 ·have hd:=of_decide_eq_true hd
  have hlt:k<l.length:=by omega
  have hek:(k:Int).toNat=k:=Int.toNat_natCast k
  have hc:=hf _ (getD_mem (d:=o0) hlt)
  conv=>whnf
  refine iO ?_;conv=>whnf
  refine And.intro rfl ?_;conv=>whnf
  rw [hek]
  conv=>whnf
  refine cO (fun _=>hc) ?_
  conv=>whnf
  refine ⟨fun he=>?_,fun he=>?_⟩
  ·conv=>whnf
   rw [idxP_found hlt hP he]
   rfl
  ·conv=>whnf
   refine iO ?_;conv=>whnf
   refine up hlt (fun j hj=>?_) ((wk_of [] rfl ⟨wa0,.fn _ _ _ _ _ ae0 ae0,wa0,wa0,trivial⟩ trivial))
   by_cases e:j=k
   ·subst e;exact he
   ·exact hP j om0
 ·have hd:=of_decide_eq_false hd
  obtain rfl:k=l.length:=by omega
  conv=>whnf
  rw [idxP_none hP]
  rfl
abbrev cellsE (e:Exp):List AV:=[.int .i64 e.op,.int .i64 e.n,.int .i64 e.unit,.str e.s,.lsl 5 (argsE e)]
theorem oprc_ok (o:Opr) (e:Exp):APureV Tryz.prog 91 [encO o,.rop (cellsE e)] (.bool (decide (o.op=e.op))):=by
 refine aO (cxOk 9 [0,1,2,3]) Tryz.func91 ?_
 conv=>whnf
 rfl
theorem arg_ok (e:Exp) (i:Nat) (z:Int) (hz:z=(i:Int)) (l:Int) (s:List UInt8) (hi:i<e.args.length) (h:APureV Tryz.prog 44 [encE (argOf e i),.int .i64 l] (.str s)):APureV Tryz.prog 85 [.int .i64 z,.int .i64 l,.rop (cellsE e)] (.str s):=by
 have hal:=argsE_len e
 have hzn:z.toNat=i:=by omega
 refine aO (cxOk 13 [0,1,2,5]) Tryz.func85 ?_
 conv=>whnf
 refine iO ?_;conv=>whnf
 refine And.intro rfl ?_;conv=>whnf
 rw [hzn,argsE_get e hi]
 conv=>whnf
 refine cO (fun _=>h) ?_
 conv=>whnf
 rfl
theorem pair_ok (e:Exp) (w a b:List UInt8) (hl:2≤e.args.length) (h0:APureV Tryz.prog 44 [encE (argOf e 0),.int .i64 0] (.str a)) (h1:APureV Tryz.prog 44 [encE (argOf e 1),.int .i64 0] (.str b))
  (hlen:w.length+a.length+b.length≤1000000000000):APureV Tryz.prog 86 [.str w,.rop [.fn (.func 85) [] [.rop (cellsE e)]]] (.str (w++[32,40,32]++a++[32,44,32]++b++[32,41])):=by
 have c0:=arg_ok e 0 0 rfl 0 a (by omega) h0
 have c1:=arg_ok e 1 1 rfl 0 b (by omega) h1
 refine aO (cxOk 14 [0,1,3]) Tryz.func86 ?_
 conv=>whnf
 refine .quiet (by kernel_rfl) ?_
 conv=>whnf
 refine And.intro aa0 ?_
 conv=>whnf
 refine .mk _ _ _ _ (fun _=>c0) ai0 rfl ?_
 conv=>whnf
 refine And.intro aa0 ?_
 conv=>whnf
 refine And.intro aa0 ?_
 conv=>whnf
 refine .mk _ _ _ _ (fun _=>c1) ai0 rfl ?_
 conv=>whnf
 refine And.intro aa0 ?_
 conv=>whnf
 refine And.intro aa0 ?_
 conv=>whnf
 rfl
theorem days_ok (e:Exp) (w a:List UInt8) (hn:in64 e.n) (hl:1≤e.args.length) (h0:APureV Tryz.prog 44 [encE (argOf e 0),.int .i64 0] (.str a))
  (hlen:w.length+a.length≤1000000000000):APureV Tryz.prog 87 [.str w,.rop (cellsE e),.rop [.fn (.func 85) [] [.rop (cellsE e)]]] (.str (w++[32]++Lib.itoa e.n++[32,40,32]++a++[32,41])):=by
 have c0:=arg_ok e 0 0 rfl 0 a (by omega) h0
 have hi:=itoa_c e.n hn.1 hn.2
 have hil:=Lib.itoa_length_le e.n hn.1 hn.2
 refine aO (cxOk 16 [0,1,2,4]) Tryz.func87 ?_
 conv=>whnf
 refine .quiet (by kernel_rfl) ?_
 conv=>whnf
 refine And.intro aa0 ?_
 conv=>whnf
 refine .mk _ _ _ _ (fun _=>hi) ai0 rfl ?_
 conv=>whnf
 refine And.intro aa0 ?_
 conv=>whnf
 refine And.intro aa0 ?_
 conv=>whnf
 refine .mk _ _ _ _ (fun _=>c0) ai0 rfl ?_
 conv=>whnf
 refine And.intro aa0 ?_
 conv=>whnf
 refine And.intro aa0 ?_
 conv=>whnf
 rfl
theorem lendA {H:Heap} {k j:Nat} (e:Exp) (hk:lkH H k=AB.cells 118 [AV.fn (Fn.func 85) [] [AV.ptr j 0]]) (hj:lkH H j=.cells 27 (cellsE e)) :
  Lend H (.ptr k 0) (.rop [.fn (.func 85) [] [.rop (cellsE e)]]) [k,j] :=
 .box k 0 118 [AV.fn (Fn.func 85) [] [AV.ptr j 0]] [AV.fn (Fn.func 85) [] [AV.rop (cellsE e)]] [j] hk (.cons (t:=[j]) (t':=[]) (Bor1.fn (Fn.func 85) [] [AV.ptr j 0] [] [AV.rop (cellsE e)] [] [j] .nil (.cons (t:=[j]) (t':=[]) (Bor1.box j 0 27 (cellsE e) (cellsE e) [] hj (.cons (t:=[]) (t':=[]) (Bor.same _ rfl) (.cons (t:=[]) (t':=[]) (Bor.same _ rfl) (.cons (t:=[]) (t':=[]) (Bor.same _ rfl) (.cons (t:=[]) (t':=[]) (Bor.same _ rfl) (.cons (t:=[]) (t':=[]) (Bor.same _ rfl) .nil))))) (allOne_spec rfl)) .nil)) .nil) (allOne_spec rfl)
theorem lendE {H:Heap} {j:Nat} (e:Exp) (hj:lkH H j=.cells 27 (cellsE e)):Lend H (.ptr j 0) (.rop (cellsE e)) [j]:=lB hj rfl rfl
theorem opr_find {op:Int} (h:op=4∨op=5∨op=6∨op=7∨op=10∨op=11∨op=13∨op=14):0≤oprI op∧oprI op<(oprL.length:Nat)∧1≤(opE op).form∧(opE op).form≤6∧(opE op).op=op:=by
 rcases h with h | h | h | h | h | h | h | h
 all_goals
  subst h
  decide
theorem show_body (d:Nat) (e:Exp) (least:Int) (hle:¬ formO e.op<least) (hr:rightB (d+1) e=true) (hok:OkE e) (hd:d≤12)
  (ih:∀ (i:Nat) (l:Int),i<e.args.length→APureV Tryz.prog 44 [encE (argOf e i),.int .i64 l] (.str (showT d (argOf e i) l))) :
  APureV Tryz.prog 44 [encE e,.int .i64 least] (.str (bodyT (d+1) e)):=by
 have hs:∀ (i:Nat) (l:Int),i<e.args.length→(showT d (argOf e i) l).length≤1100000000:=by
  intro i l hi
  have h1:=show_len d (argOf e i) l (right_arg hr (getD_argOf hi)) (hok.arg _ (getD_argOf hi))
  have h2:lenB d≤lenB 12:=by unfold lenB;exact Nat.mul_le_mul_left _ (Nat.pow_le_pow_right (by decide) hd)
  have h3:lenB 12=1073741824:=by decide
  omega
 have hsl:=hok.slen
 have hargs:=right_len hr
 have hf:=form_ok e
 have hnum:=number_ok e hok.n64
 rw [body_succ]
 refine aO (cxOk 105 [0,1,2,4,5,6,7,8,9,13,22,23,27,31,36,41,54,59,63,67,71,75,88]) Tryz.func44 ?_
 conv=>whnf
 refine cO (fun _=>hf) ?_
 conv=>whnf
 refine ⟨fun hx=>absurd (of_decide_eq_true hx) hle,fun _=>?_⟩
 conv=>whnf
 refine ⟨fun h0=>?_,fun h0=>?_⟩
 ·rw [if_pos (of_decide_eq_true h0)]
  conv=>whnf
  refine cO (fun _=>hnum) ?_
  conv=>whnf
  rfl
 rw [if_neg (of_decide_eq_false h0)]
 conv=>whnf
 refine ⟨fun h1=>?_,fun h1=>?_⟩
 ·rw [if_pos (of_decide_eq_true h1)]
  conv=>whnf
  rfl
 rw [if_neg (of_decide_eq_false h1)]
 conv=>whnf
 refine ⟨fun h2=>?_,fun h2=>?_⟩
 ·rw [if_pos (of_decide_eq_true h2)]
  have hsn:=name_len (right_name hr (by have:=of_decide_eq_true h2;omega))
  conv=>whnf
  refine And.intro aa0 ?_
  conv=>whnf
  rfl
 rw [if_neg (of_decide_eq_false h2)]
 conv=>whnf
 refine ⟨fun h3=>?_,fun h3=>?_⟩
 ·rw [if_pos (of_decide_eq_true h3)]
  have hsn:=name_len (right_name hr (by have:=of_decide_eq_true h3;omega))
  conv=>whnf
  refine And.intro aa0 ?_
  conv=>whnf
  rfl
 rw [if_neg (of_decide_eq_false h3)]
 conv=>whnf
 refine ⟨fun h15=>?_,fun h15=>?_⟩
 ·rw [if_pos (of_decide_eq_true h15)]
  have h15:=of_decide_eq_true h15
  have hl:e.args.length=3:=by rw [h15] at hargs;exact Int.ofNat.inj hargs
  have a0:=arg_ok e 0 0 rfl 0 _ (by omega) (ih 0 0 (by omega))
  have a1:=arg_ok e 1 1 rfl 0 _ (by omega) (ih 1 0 (by omega))
  have a2:=arg_ok e 2 2 rfl 0 _ (by omega) (ih 2 0 (by omega))
  have b0:=hs 0 0 (by omega)
  have b1:=hs 1 0 (by omega)
  have b2:=hs 2 0 (by omega)
  generalize showT d (argOf e 0) 0=s0 at *
  generalize showT d (argOf e 1) 0=s1 at *
  generalize showT d (argOf e 2) 0=s2 at *
  conv=>whnf
  refine .quiet (by kernel_rfl) ?_
  conv=>whnf
  refine .mk _ _ _ _ (fun _=>a0) ai0 rfl ?_
  conv=>whnf
  refine And.intro aa0 ?_
  conv=>whnf
  refine And.intro aa0 ?_
  conv=>whnf
  refine .mk _ _ _ _ (fun _=>a1) ai0 rfl ?_
  conv=>whnf
  refine And.intro aa0 ?_
  conv=>whnf
  refine And.intro aa0 ?_
  conv=>whnf
  refine .mk _ _ _ _ (fun _=>a2) ai0 rfl ?_
  conv=>whnf
  refine And.intro aa0 ?_
  conv=>whnf
  rfl
 rw [if_neg (of_decide_eq_false h15)]
 conv=>whnf
 refine ⟨fun h12=>?_,fun h12=>?_⟩
 ·rw [if_pos (of_decide_eq_true h12)]
  have h12:=of_decide_eq_true h12
  have hl:e.args.length=1:=by rw [h12] at hargs;exact Int.ofNat.inj hargs
  have a0:=arg_ok e 0 0 rfl 3 _ (by omega) (ih 0 3 (by omega))
  have b0:=hs 0 3 (by omega)
  generalize showT d (argOf e 0) 3=s0 at *
  conv=>whnf
  refine cO (fun _=>a0) ?_
  conv=>whnf
  refine And.intro aa0 ?_
  conv=>whnf
  rfl
 rw [if_neg (of_decide_eq_false h12)]
 conv=>whnf
 refine ⟨fun h8=>?_,fun h8=>?_⟩
 ·rw [if_pos (of_decide_eq_true h8)]
  have h8:=of_decide_eq_true h8
  have hl:e.args.length=2:=by rw [h8] at hargs;exact Int.ofNat.inj hargs
  have b0:=hs 0 0 (by omega)
  have b1:=hs 1 0 (by omega)
  have a0:=pair_ok e [109,105,110] _ _ (by omega) (ih 0 0 (by omega)) (ih 1 0 (by omega)) (by simp only [List.length_cons,List.length_nil];omega)
  generalize showT d (argOf e 0) 0=s0 at *
  generalize showT d (argOf e 1) 0=s1 at *
  conv=>whnf
  refine .one _ _ _ (fun _=>a0) (.cons (lS rfl) (.cons (lendA e rfl rfl) .nil)) (.inr fun r hr=>(by rcases List.mem_singleton.1 hr with rfl;rfl)) (.inl rfl) ?_
  conv=>whnf
  rfl
 rw [if_neg (of_decide_eq_false h8)]
 conv=>whnf
 refine ⟨fun h9=>?_,fun h9=>?_⟩
 ·rw [if_pos (of_decide_eq_true h9)]
  have h9:=of_decide_eq_true h9
  have hl:e.args.length=2:=by rw [h9] at hargs;exact Int.ofNat.inj hargs
  have b0:=hs 0 0 (by omega)
  have b1:=hs 1 0 (by omega)
  have a0:=pair_ok e [109,97,120] _ _ (by omega) (ih 0 0 (by omega)) (ih 1 0 (by omega)) (by simp only [List.length_cons,List.length_nil];omega)
  generalize showT d (argOf e 0) 0=s0 at *
  generalize showT d (argOf e 1) 0=s1 at *
  conv=>whnf
  refine .one _ _ _ (fun _=>a0) (.cons (lS rfl) (.cons (lendA e rfl rfl) .nil)) (.inr fun r hr=>(by rcases List.mem_singleton.1 hr with rfl;rfl)) (.inl rfl) ?_
  conv=>whnf
  rfl
 rw [if_neg (of_decide_eq_false h9)]
 conv=>whnf
 refine ⟨fun h16=>?_,fun h16=>?_⟩
 ·rw [if_pos (of_decide_eq_true h16)]
  have h16:=of_decide_eq_true h16
  have hl:e.args.length=1:=by rw [h16] at hargs;exact Int.ofNat.inj hargs
  have b0:=hs 0 0 (by omega)
  have a0:=days_ok e [101,118,101,114] _ hok.n64 (by omega) (ih 0 0 (by omega)) (by simp only [List.length_cons,List.length_nil];omega)
  generalize showT d (argOf e 0) 0=s0 at *
  conv=>whnf
  refine .one _ _ _ (fun _=>a0) (.cons (lS rfl) (.cons (lendE e rfl) (.cons (lendA e rfl rfl) .nil))) (.inr fun r hr=>(by rcases List.mem_singleton.1 hr with rfl;rfl)) (.inl rfl) ?_
  conv=>whnf
  rfl
 rw [if_neg (of_decide_eq_false h16)]
 conv=>whnf
 refine ⟨fun h17=>?_,fun h17=>?_⟩
 ·rw [if_pos (of_decide_eq_true h17)]
  have h17:=of_decide_eq_true h17
  have hl:e.args.length=1:=by rw [h17] at hargs;exact Int.ofNat.inj hargs
  have b0:=hs 0 0 (by omega)
  have a0:=days_ok e [108,111,110,103] _ hok.n64 (by omega) (ih 0 0 (by omega)) (by simp only [List.length_cons,List.length_nil];omega)
  generalize showT d (argOf e 0) 0=s0 at *
  conv=>whnf
  refine .one _ _ _ (fun _=>a0) (.cons (lS rfl) (.cons (lendE e rfl) (.cons (lendA e rfl rfl) .nil))) (.inr fun r hr=>(by rcases List.mem_singleton.1 hr with rfl;rfl)) (.inl rfl) ?_
  conv=>whnf
  rfl
 rw [if_neg (of_decide_eq_false h17)]
 conv=>whnf
 refine ⟨fun h18=>?_,fun h18=>?_⟩
 ·rw [if_pos (of_decide_eq_true h18)]
  have h18:=of_decide_eq_true h18
  have hl:e.args.length=1:=by rw [h18] at hargs;exact Int.ofNat.inj hargs
  have b0:=hs 0 0 (by omega)
  have a0:=days_ok e [115,111,111,110] _ hok.n64 (by omega) (ih 0 0 (by omega)) (by simp only [List.length_cons,List.length_nil];omega)
  generalize showT d (argOf e 0) 0=s0 at *
  conv=>whnf
  refine .one _ _ _ (fun _=>a0) (.cons (lS rfl) (.cons (lendE e rfl) (.cons (lendA e rfl rfl) .nil))) (.inr fun r hr=>(by rcases List.mem_singleton.1 hr with rfl;rfl)) (.inl rfl) ?_
  conv=>whnf
  rfl
 rw [if_neg (of_decide_eq_false h18)]
 conv=>whnf
 have hop:=right_op hr
 have hl:e.args.length=2:=by
  have:opsN e.op=2:=by
   have:=of_decide_eq_false h0
   have:=of_decide_eq_false h1
   have:=of_decide_eq_false h2
   have:=of_decide_eq_false h3
   have:=of_decide_eq_false h15
   have:=of_decide_eq_false h12
   have:=of_decide_eq_false h16
   have:=of_decide_eq_false h17
   have:=of_decide_eq_false h18
   unfold opsN;rw [if_neg (by omega),if_neg (by omega),if_neg (by omega),if_neg (by omega)]
  omega
 have hio:=idxO_ok oprL 91 (cellsE e) (fun o=>decide (o.op=e.op)) (fun o _=>oprc_ok o e) (by decide) rfl
 refine cO (fun _=>opr_ok) ?_
 conv=>whnf
 refine cO (fun _=>opr_ok) ?_
 conv=>whnf
 refine .one _ _ _ (fun _=>hio) (.cons (lS rfl) (.cons (.fn _ _ _ _ _ _ _ .nil (.cons (.box _ _ _ _ _ _ rfl (borL_same rfl) (allOne_spec rfl)) .nil)) .nil)) (.inr fun r hr=>(by rcases List.mem_singleton.1 hr with rfl;rfl)) (.inl rfl) ?_
 conv=>whnf
 have key:e.op=4∨e.op=5∨e.op=6∨e.op=7∨e.op=10∨e.op=11∨e.op=13∨e.op=14:=by
  have:=of_decide_eq_false h0
  have:=of_decide_eq_false h1
  have:=of_decide_eq_false h2
  have:=of_decide_eq_false h3
  have:=of_decide_eq_false h15
  have:=of_decide_eq_false h12
  have:=of_decide_eq_false h8
  have:=of_decide_eq_false h9
  have:=of_decide_eq_false h16
  have:=of_decide_eq_false h17
  have:=of_decide_eq_false h18
  omega
 have hb:=opr_find key
 rw [show idxP (fun o:Opr=>decide (o.op=e.op)) oprL=oprI e.op from rfl]
 refine ⟨⟨hb.1,hb.2.1⟩,rfl,?_⟩
 conv=>whnf
 rw [show oprL.getD (oprI e.op).toNat o0=opE e.op from rfl]
 have htx:(opE e.op).text.length≤3:=opr_text (oprI e.op).toNat
 have c1:=arg_ok e 1 1 rfl ((opE e.op).form+1) _ (by omega) (ih 1 ((opE e.op).form+1) (by omega))
 have b1:=hs 1 ((opE e.op).form+1) (by omega)
 have hf1:=hb.2.2.1
 have hf2:=hb.2.2.2.1
 refine ⟨fun hf4=>?_,fun hf4=>?_⟩
 ·rw [if_pos (of_decide_eq_true hf4)]
  have hf4:=of_decide_eq_true hf4
  have c0:=arg_ok e 0 0 rfl 5 _ (by omega) (ih 0 5 (by omega))
  have b0:=hs 0 5 (by omega)
  have e5:(opE e.op).form+1=5:=by omega
  generalize showT d (argOf e 0) 5=s0 at *
  generalize showT d (argOf e 1) ((opE e.op).form+1)=s1 at *
  conv=>whnf
  refine iO ?_;conv=>whnf
  refine .quiet (by kernel_rfl) ?_;conv=>whnf
  rw [e5] at c1 ⊢
  refine .mk _ _ _ _ (fun _=>c0) ai0 rfl ?_
  conv=>whnf
  refine And.intro aa0 ?_
  conv=>whnf
  refine And.intro aa0 ?_
  conv=>whnf
  refine And.intro aa0 ?_
  conv=>whnf
  refine iO ?_
  conv=>whnf
  rw [e5]
  refine .mk _ _ _ _ (fun _=>c1) ai0 rfl ?_
  conv=>whnf
  refine And.intro aa0 ?_
  conv=>whnf
  rfl
 ·rw [if_neg (of_decide_eq_false hf4)]
  have c0:=arg_ok e 0 0 rfl (opE e.op).form _ (by omega) (ih 0 (opE e.op).form (by omega))
  have b0:=hs 0 (opE e.op).form (by omega)
  generalize showT d (argOf e 0) (opE e.op).form=s0 at *
  generalize showT d (argOf e 1) ((opE e.op).form+1)=s1 at *
  conv=>whnf
  refine .quiet (by kernel_rfl) ?_
  conv=>whnf
  refine .mk _ _ _ _ (fun _=>c0) ai0 rfl ?_
  conv=>whnf
  refine And.intro aa0 ?_
  conv=>whnf
  refine And.intro aa0 ?_
  conv=>whnf
  refine And.intro aa0 ?_
  conv=>whnf
  refine iO ?_
  conv=>whnf
  refine .mk _ _ _ _ (fun _=>c1) ai0 rfl ?_
  conv=>whnf
  refine And.intro aa0 ?_
  conv=>whnf
  rfl
theorem formO_nn (op:Int):0≤formO op:=by
 unfold formO
 split
 ·omega
 split
 ·omega
 split
 ·omega
 have h:∀ i:Nat,0≤(oprL.getD i o0).form:=by
  intro i
  match i with
  | 0 | 1 | 2 | 3 | 4 | 5 | 6 | 7=>decide
  | n+8=>simp [oprL,o0]
 exact h _
theorem show_ok:∀ (d:Nat) (e:Exp) (least:Int),d≤13→rightB d e=true→OkE e→APureV Tryz.prog 44 [encE e,.int .i64 least] (.str (showT d e least)):=by
 intro d
 induction d with
 | zero=>intro e least _ h;simp [rightB] at h
 | succ d ih =>
  intro e least hd hr hok
  have hargs:∀ (i:Nat) (l:Int),i<e.args.length→APureV Tryz.prog 44 [encE (argOf e i),.int .i64 l] (.str (showT d (argOf e i) l)) :=
   fun i l hi=>ih _ l (by omega) (right_arg hr (getD_argOf hi)) (hok.arg _ (getD_argOf hi))
  unfold showT
  by_cases hlt:formO e.op<least
  ·rw [if_pos hlt]
   have h0:=show_body d e 0 (by have:=formO_nn e.op;omega) hr hok (by omega) hargs
   have hf:=form_ok e
   have hlen:=body_len (d+1) e hr hok
   have h2:lenB (d+1)≤lenB 13:=by unfold lenB;exact Nat.mul_le_mul_left _ (Nat.pow_le_pow_right (by decide) hd)
   have h3:lenB 13=4294967296:=by decide
   generalize bodyT (d+1) e=s at *
   refine aO (cxOk 105 [0,1,2,4,5,6,7,8,9,13,22,23,27,31,36,41,54,59,63,67,71,75,88]) Tryz.func44 ?_
   conv=>whnf
   refine cO (fun _=>hf) ?_
   conv=>whnf
   refine ⟨fun _=>?_,fun hx=>absurd hlt (of_decide_eq_false hx)⟩
   conv=>whnf
   refine cO (fun _=>h0) ?_
   conv=>whnf
   refine And.intro aa0 ?_
   conv=>whnf
   refine And.intro aa0 ?_
   conv=>whnf
   rfl
  ·rw [if_neg hlt]
   exact show_body d e least hlt hr hok om0 hargs
def rightE (e:Exp):Bool:=rightB 12 e
theorem rightexp_ok (e:Exp) (hok:OkE e):APureV Tryz.prog 73 [encE e] (.bool (rightE e)):=by
 have h:=right_ok 12 e (by decide) hok
 refine aO (cxOk 5 [0,1,2]) Tryz.func73 ?_
 conv=>whnf
 refine cO (fun _=>h) ?_
 conv=>whnf
 rfl
def fitsT (s:List UInt8):List UInt8×Int:=if s.length>4000 then ([],6) else (s,0)
theorem fits_ok (s:List UInt8) (hs:s.length≤9223372036854775807):APure Tryz.prog 45 [.str s] (fun rs=>rs=[.val (.str (fitsT s).1),.val (.int .i64 (fitsT s).2)]):=by
 unfold fitsT
 refine aO (cxOk 8 [0,2,3,6]) Tryz.func45 ?_
 conv=>whnf
 refine ⟨fun h=>?_,fun h=>?_⟩
 ·have h:=of_decide_eq_true h
  rw [if_pos (by omega)]
  conv=>whnf
  rfl
 ·have h:=of_decide_eq_false h
  rw [if_neg (by omega)]
  conv=>whnf
  rfl
def printE (e:Exp):List UInt8×Int:=if rightE e=true then fitsT (showT 12 e 0) else ([],1)
def leapB (y:Int):Bool:=decide (y % 4=0)&&(decide (y % 100≠0)||decide (y % 400=0))
theorem leap_iff (y:Int):leapB y=true↔y % 4=0∧(y % 100≠0∨y % 400=0):=by
 unfold leapB
 simp only [Bool.and_eq_true,Bool.or_eq_true,decide_eq_true_eq]
def lastD (y m:Int):Int :=
 if m=1∨m=3∨m=5∨m=7∨m=8∨m=10∨m=12 then 31
 else if m=4∨m=6∨m=9∨m=11 then 30
 else if m=2 then (if leapB y=true then 29 else 28) else 0
def befD (y:Int):Int:=365*(y-1-1899)+(y-1) / 4-(y-1) / 100+(y-1) / 400-460
def yrD (y:Int):Int:=if leapB y=true then 366 else 365
theorem bef_succ (y:Int):befD (y+1)=befD y+yrD y:=by
 have h:=leap_iff y
 unfold befD yrD
 by_cases hl:leapB y=true
 ·rw [if_pos hl]
  have:=h.1 hl
  omega
 ·rw [if_neg hl]
  have:¬ (y % 4=0∧(y % 100≠0∨y % 400=0)):=fun k=>hl (h.2 k)
  omega
theorem bef_1900:befD 1900=0:=by decide
theorem yr_bounds (y:Int):365≤yrD y∧yrD y≤366:=by unfold yrD;split<;>omega
theorem bef_mono {y z:Int} (h:y<z):befD (y+1)≤befD z:=by unfold befD;omega
theorem bef_lt {y z:Int} (h:befD y<befD z):y<z:=by
 apply Classical.byContradiction
 intro hn
 by_cases e:y=z
 ·subst e;omega
 ·have:=bef_mono (show z<y by omega)
  have:=bef_succ z
  have:=yr_bounds z
  omega
theorem bef_low (k:Int) (h:0≤k):befD (1900+k)≤366*k:=by unfold befD;omega
theorem bef_high (y:Int) (h:befD y≤200000):y≤3000:=by unfold befD at h;omega
theorem bef_nn (y:Int) (h:1900≤y):0≤befD y:=by unfold befD;omega
def yFind:Nat→Int→Int→Int
 | 0,y,_=>y
 | f+1,y,day=>if befD (y+1)≤day then yFind f (y+1) day else y
def yearD (day:Int):Int:=yFind 1200 1900 day
theorem yFind_spec:∀ (f:Nat) (y day:Int),befD y≤day→day≤200000→1900≤y→3100≤y+f→befD (yFind f y day)≤day∧day<befD (yFind f y day+1)∧1900≤yFind f y day
 | 0,y,day,h,h1,h2,h3=>by have:=bef_high y (by omega);omega
 | f+1,y,day,h,h1,h2,h3=>by
  unfold yFind
  by_cases hc:befD (y+1)≤day
  ·rw [if_pos hc]
   exact yFind_spec f (y+1) day hc h1 om0 om0
  ·rw [if_neg hc]
   exact ⟨h,by omega,h2⟩
theorem year_spec {day:Int} (h0:0≤day) (h1:day≤200000):befD (yearD day)≤day∧day<befD (yearD day+1)∧1900≤yearD day :=
 yFind_spec 1200 1900 day (by rw [bef_1900];exact h0) h1 (by omega) (by omega)
theorem year_uniq {day y:Int} (h0:0≤day) (h1:day≤200000) (h2:befD y≤day) (h3:day<befD (y+1)):yearD day=y:=by
 obtain ⟨a,b,_⟩:=year_spec h0 h1
 have c:=bef_lt (show befD (yearD day)<befD (y+1) by omega)
 have d:=bef_lt (show befD y<befD (yearD day+1) by omega)
 omega
def sumM (y:Int):Nat→Int
 | 0=>0
 | k+1=>sumM y k+lastD y ((k:Int)+1)
theorem last_bounds (y m:Int):0≤lastD y m∧lastD y m≤31:=by unfold lastD;repeat' split;all_goals omega
theorem last_out {y m:Int} (h:¬ (1≤m∧m≤12)):lastD y m=0:=by
 unfold lastD
 rw [if_neg (by omega),if_neg (by omega),if_neg (by omega)]
theorem sum_12 (y:Int):sumM y 12=yrD y:=by
 simp only [sumM,lastD,yrD]
 by_cases hl:leapB y=true<;>simp [hl]
theorem sum_le (y:Int):∀ k:Nat,0≤sumM y k∧sumM y k≤31*k
 | 0=>by simp [sumM]
 | k+1=>by
  have:=sum_le y k
  have:=last_bounds y ((k:Int)+1)
  simp only [sumM]
  omega
def mFind (y r:Int):Nat→Nat→Nat
 | 0,k=>k
 | f+1,k=>if r<sumM y (k+1) then k else mFind y r f (k+1)
def monK (y r:Int):Nat:=mFind y r 12 0
theorem mFind_spec (y r:Int) (hr:r<yrD y):∀ (f k:Nat),k+f=12→sumM y k≤r→sumM y (mFind y r f k)≤r∧r<sumM y (mFind y r f k+1)∧mFind y r f k<12
 | 0,k,h,h2=>by
  have:k=12:=by omega
  subst this
  rw [sum_12] at h2
  omega
 | f+1,k,h,h2=>by
  unfold mFind
  by_cases hc:r<sumM y (k+1)
  ·rw [if_pos hc]
   exact ⟨h2,hc,by omega⟩
  ·rw [if_neg hc]
   exact mFind_spec y r hr f (k+1) om0 om0
theorem mon_spec {y r:Int} (h0:0≤r) (hr:r<yrD y):sumM y (monK y r)≤r∧r<sumM y (monK y r+1)∧monK y r<12:=mFind_spec y r hr 12 0 rfl h0
theorem sum_mono (y:Int):∀ (j k:Nat),j≤k→sumM y j≤sumM y k
 | j,0,h=>by
  have:j=0:=by omega
  subst this
  exact Int.le_refl _
 | j,k+1,h=>by
  by_cases e:j=k+1
  ·subst e;exact Int.le_refl _
  ·have:=sum_mono y j k (by omega)
   have:=last_bounds y ((k:Int)+1)
   simp only [sumM]
   omega
theorem mon_uniq {y r:Int} (h0:0≤r) (hr:r<yrD y) {k:Nat} (h1:sumM y k≤r) (h2:r<sumM y (k+1)):monK y r=k:=by
 obtain ⟨a,b,_⟩:=mon_spec h0 hr
 apply Classical.byContradiction
 intro hne
 by_cases hlt:monK y r<k
 ·have:=sum_mono y (monK y r+1) k (by omega)
  omega
 ·have:=sum_mono y (k+1) (monK y r) (by omega)
  omega
def restD (day:Int):Int:=day-befD (yearD day)
def partY (day:Int):Int:=yearD day
def partM (day:Int):Int:=(monK (yearD day) (restD day):Nat)+1
def partD (day:Int):Int:=restD day-sumM (yearD day) (monK (yearD day) (restD day))+1
theorem rest_spec {day:Int} (h0:0≤day) (h1:day≤200000):0≤restD day∧restD day<yrD (yearD day):=by
 obtain ⟨a,b,_⟩:=year_spec h0 h1
 have:=bef_succ (yearD day)
 unfold restD
 omega
def dayOf (y m d:Int):Int×Int :=
 if d<1∨lastD y m<d then (0,23)
 else if y<1900∨3000<y then (0,3)
 else if 0≤befD y+d-1+sumM y (m-1).toNat∧befD y+d-1+sumM y (m-1).toNat≤200000 then (befD y+d-1+sumM y (m-1).toNat,0)
 else (0,3)
theorem day_parts {day:Int} (h0:0≤day) (h1:day≤200000):dayOf (partY day) (partM day) (partD day)=(day,0):=by
 obtain ⟨a,b,c⟩:=year_spec h0 h1
 obtain ⟨d,e⟩:=rest_spec h0 h1
 obtain ⟨f,g,i⟩:=mon_spec d e
 have hy:=bef_high (yearD day) (by omega)
 unfold dayOf partY partM partD
 simp only [sumM] at g
 have hm:(((monK (yearD day) (restD day):Nat):Int)+1-1).toNat=monK (yearD day) (restD day):=by omega
 rw [if_neg (by omega),if_neg (by omega),hm]
 have hr:restD day=day-befD (yearD day):=rfl
 rw [if_pos (by omega)]
 refine Prod.ext ?_ rfl
 show _=day
 omega
theorem parts_bounds {day:Int} (h0:0≤day) (h1:day≤200000):1900≤partY day∧partY day≤3000∧1≤partM day∧partM day≤12∧1≤partD day∧partD day≤31:=by
 obtain ⟨a,b,c⟩:=year_spec h0 h1
 obtain ⟨d,e⟩:=rest_spec h0 h1
 obtain ⟨f,g,i⟩:=mon_spec d e
 have hy:=bef_high (yearD day) (by omega)
 have:=last_bounds (yearD day) ((monK (yearD day) (restD day):Int)+1)
 simp only [sumM] at g
 unfold partY partM partD
 omega
theorem leap_ok (y:Int) (hy:0≤y):APureV Tryz.prog 168 [.int .i64 y] (.bool (leapB y)):=by
 have e1:Int.tmod y 4=y % 4:=Int.tmod_eq_emod_of_nonneg hy
 have e2:Int.tmod y 100=y % 100:=Int.tmod_eq_emod_of_nonneg hy
 have e3:Int.tmod y 400=y % 400:=Int.tmod_eq_emod_of_nonneg hy
 refine aO (cxOk 16 [0,2]) Tryz.func168 ?_
 conv=>whnf
 refine And.intro aj0 ?_
 conv=>whnf
 refine And.intro aj0 ?_
 conv=>whnf
 refine And.intro aj0 ?_
 conv=>whnf
 rw [e1,e2,e3]
 unfold leapB
 simp
theorem before_ok (y:Int) (hy:1≤y) (h2:y≤1000000000001):APureV Tryz.prog 132 [.int .i64 y] (.int .i64 (befD y)):=by
 have e1:Int.tdiv (y-1) 4=(y-1) / 4:=Int.tdiv_eq_ediv_of_nonneg (by omega)
 have e2:Int.tdiv (y-1) 100=(y-1) / 100:=Int.tdiv_eq_ediv_of_nonneg (by omega)
 have e3:Int.tdiv (y-1) 400=(y-1) / 400:=Int.tdiv_eq_ediv_of_nonneg (by omega)
 refine aO (cxOk 18 [0,2]) Tryz.func132 ?_
 conv=>whnf
 repeat (first | (refine iO ?_;conv=>whnf) | (refine And.intro (by omega) (And.intro rfl ?_);conv=>whnf) | (refine And.intro rfl ?_;conv=>whnf) | (refine And.intro (fun _=>⟨by omega,by omega⟩) ?_;conv=>whnf) | (refine And.intro (fun _=>by omega) (And.intro rfl ?_);conv=>whnf) | (refine And.intro ⟨ad0,ad0⟩ ?_;conv=>whnf) | (refine Exists.intro _ (And.intro rfl (And.intro ad0 (And.intro ⟨rfl,rfl,rfl,rfl,rfl⟩ ?_)));conv=>whnf) | (refine And.intro ⟨rfl,rfl⟩ (And.intro ad0 ?_);conv=>whnf) | (refine Exists.intro _ (And.intro rfl ?_);conv=>whnf) | (refine nE ?_;conv=>whnf) | (refine nD ?_;conv=>whnf) | (refine .quiet (by kernel_rfl) ?_;conv=>whnf))
 refine And.intro aj0 ?_
 conv=>whnf
 rw [e1]
 repeat (first | (refine iO ?_;conv=>whnf) | (refine And.intro (by omega) (And.intro rfl ?_);conv=>whnf) | (refine And.intro rfl ?_;conv=>whnf) | (refine And.intro (fun _=>⟨by omega,by omega⟩) ?_;conv=>whnf) | (refine And.intro (fun _=>by omega) (And.intro rfl ?_);conv=>whnf) | (refine And.intro ⟨ad0,ad0⟩ ?_;conv=>whnf) | (refine Exists.intro _ (And.intro rfl (And.intro ad0 (And.intro ⟨rfl,rfl,rfl,rfl,rfl⟩ ?_)));conv=>whnf) | (refine And.intro ⟨rfl,rfl⟩ (And.intro ad0 ?_);conv=>whnf) | (refine Exists.intro _ (And.intro rfl ?_);conv=>whnf) | (refine nE ?_;conv=>whnf) | (refine nD ?_;conv=>whnf) | (refine .quiet (by kernel_rfl) ?_;conv=>whnf))
 refine And.intro aj0 ?_
 conv=>whnf
 rw [e2]
 repeat (first | (refine iO ?_;conv=>whnf) | (refine And.intro (by omega) (And.intro rfl ?_);conv=>whnf) | (refine And.intro rfl ?_;conv=>whnf) | (refine And.intro (fun _=>⟨by omega,by omega⟩) ?_;conv=>whnf) | (refine And.intro (fun _=>by omega) (And.intro rfl ?_);conv=>whnf) | (refine And.intro ⟨ad0,ad0⟩ ?_;conv=>whnf) | (refine Exists.intro _ (And.intro rfl (And.intro ad0 (And.intro ⟨rfl,rfl,rfl,rfl,rfl⟩ ?_)));conv=>whnf) | (refine And.intro ⟨rfl,rfl⟩ (And.intro ad0 ?_);conv=>whnf) | (refine Exists.intro _ (And.intro rfl ?_);conv=>whnf) | (refine nE ?_;conv=>whnf) | (refine nD ?_;conv=>whnf) | (refine .quiet (by kernel_rfl) ?_;conv=>whnf))
 refine And.intro aj0 ?_
 conv=>whnf
 rw [e3]
 repeat (first | (refine iO ?_;conv=>whnf) | (refine And.intro (by omega) (And.intro rfl ?_);conv=>whnf) | (refine And.intro rfl ?_;conv=>whnf) | (refine And.intro (fun _=>⟨by omega,by omega⟩) ?_;conv=>whnf) | (refine And.intro (fun _=>by omega) (And.intro rfl ?_);conv=>whnf) | (refine And.intro ⟨ad0,ad0⟩ ?_;conv=>whnf) | (refine Exists.intro _ (And.intro rfl (And.intro ad0 (And.intro ⟨rfl,rfl,rfl,rfl,rfl⟩ ?_)));conv=>whnf) | (refine And.intro ⟨rfl,rfl⟩ (And.intro ad0 ?_);conv=>whnf) | (refine Exists.intro _ (And.intro rfl ?_);conv=>whnf) | (refine nE ?_;conv=>whnf) | (refine nD ?_;conv=>whnf) | (refine .quiet (by kernel_rfl) ?_;conv=>whnf))
 unfold befD
 rfl
theorem isday_ok (n:Int):APureV Tryz.prog 131 [.int .i64 n] (.bool (decide (0≤n)&&decide (n≤200000))):=by
 refine aO (cxOk 9 [0,2]) Tryz.func131 ?_
 conv=>whnf
 rfl
theorem last_ok (y m:Int) (hy:0≤y):APureV Tryz.prog 133 [.int .i64 y,.int .i64 m] (.int .i64 (lastD y m)):=by
 have hl:=leap_ok y hy
 have hv:lastD y m=if m=1∨m=3∨m=5∨m=7∨m=8∨m=10∨m=12 then 31
  else if m=4∨m=6∨m=9∨m=11 then 30 else if m=2 then (if leapB y=true then 29 else 28) else 0:=rfl
 have key:m=1∨m=3∨m=5∨m=7∨m=8∨m=10∨m=12∨m=4∨m=6∨m=9∨m=11∨m=2∨(m≠1∧m≠3∧m≠5∧m≠7∧m≠8∧m≠10∧m≠12∧m≠4∧m≠6∧m≠9∧m≠11∧m≠2):=by omega
 rw [hv]
 rcases key with h | h | h | h | h | h | h | h | h | h | h | h | h
 case inr.inr.inr.inr.inr.inr.inr.inr.inr.inr.inr.inl =>
  rw [if_neg (by omega),if_neg (by omega),if_pos h]
  refine aO (cxOk 23 [0,1,4,5,6,14,19,22]) Tryz.func133 ?_
  conv=>whnf
  repeat (first | (refine ⟨fun _=>?_,fun hx=>(by simp at hx;omega)⟩;conv=>whnf) | (refine ⟨fun hx=>(by simp at hx;omega),fun _=>?_⟩;conv=>whnf))
  refine cO (fun _=>hl) ?_
  conv=>whnf
  refine ⟨fun hq=>?_,fun hq=>?_⟩
  ·rw [if_pos hq]
   conv=>whnf
   rfl
  ·rw [if_neg (by rw [hq];decide)]
   conv=>whnf
   rfl
 all_goals
  refine aO (cxOk 23 [0,1,4,5,6,14,19,22]) Tryz.func133 ?_
  conv=>whnf
  repeat (first | (refine ⟨fun _=>?_,fun hx=>(by simp at hx;omega)⟩;conv=>whnf) | (refine ⟨fun hx=>(by simp at hx;omega),fun _=>?_⟩;conv=>whnf))
 all_goals
  refine congrArg (fun z:Int=>[AR.val (AV.int .i64 z)]) ?_
  clear hv
  repeat' split
  all_goals omega
def partsR (day:Int):List AR :=
 if 0≤day∧day≤200000 then [.val (.int .i64 (partY day)),.val (.int .i64 (partM day)),.val (.int .i64 (partD day)),.val (.int .i64 0)]
 else [.val (.int .i64 0),.val (.int .i64 0),.val (.int .i64 0),.val (.int .i64 3)]
theorem parts_ok (day:Int):APure Tryz.prog 83 [.int .i64 day] (fun rs=>rs=partsR day):=by
 have hd:=isday_ok day
 unfold partsR
 by_cases hin:0≤day∧day≤200000
 rotate_left
 ·rw [if_neg hin]
  have e:(decide (0≤day)&&decide (day≤200000))=false:=by
   simp only [Bool.and_eq_false_iff,decide_eq_false_iff_not]
   omega
  rw [e] at hd
  refine aO (cxOk 40 [0,2,3,4,5,6,9,17,28]) Tryz.func83 ?_
  conv=>whnf
  refine cO (fun _=>hd) ?_
  conv=>whnf
  refine gT ?_
  conv=>whnf
  rfl
 rw [if_pos hin]
 obtain ⟨h0,h1⟩:=hin
 have e:(decide (0≤day)&&decide (day≤200000))=true:=by
  simp only [Bool.and_eq_true,decide_eq_true_eq]
  omega
 rw [e] at hd
 have e1:Int.tdiv day 366=day / 366:=Int.tdiv_eq_ediv_of_nonneg h0
 have hlow:=bef_low (day / 366) (by omega)
 obtain ⟨s1,s2,s3⟩:=year_spec h0 h1
 obtain ⟨r1,r2⟩:=rest_spec h0 h1
 refine aO (cxOk 40 [0,2,3,4,5,6,9,17,28]) Tryz.func83 ?_
 conv=>whnf
 refine cO (fun _=>hd) ?_
 conv=>whnf
 refine gF ?_
 conv=>whnf
 refine And.intro aj0 ?_
 conv=>whnf
 rw [e1]
 refine iO ?_;conv=>whnf
 refine iO ?_;conv=>whnf
 refine loop_inv (cxOk _ _) (fun y:Int=>1900≤y∧befD y≤day) (fun y=>(4000-y).toNat) (fun y=>⟨[(0,.int .i64 day),(2,.int .i64 y),(3,.int .i64 0),(4,.int .i64 0),(5,.int .i64 0)],[],0⟩) (1900+day / 366) ⟨by omega,by omega⟩ ((wk_of [] rfl ⟨wa0,wa0,wa0,wa0,wa0,trivial⟩ trivial)) ?_
 intro y hy
 have hy3:=bef_high y (by omega)
 have hb:=before_ok (y+1) (by omega) (by omega)
 conv=>whnf
 refine iO ?_;conv=>whnf
 refine cO (fun _=>hb) ?_
 conv=>whnf
 refine ⟨fun hc=>?_,fun hc=>?_⟩
 ·have hc:=of_decide_eq_true hc
  conv=>whnf
  refine iO ?_;conv=>whnf
  exact ⟨y+1,⟨by omega,hc⟩,(by show (4000-(y+1)).toNat<(4000-y).toNat;omega),(wk_of [] rfl ⟨wa0,wa0,wa0,wa0,wa0,trivial⟩ trivial)⟩
 ·have hc:=of_decide_eq_false hc
  have hyd:yearD day=y:=year_uniq h0 h1 hy.2 (by omega)
  have hb2:=before_ok y (by omega) (by omega)
  have hbn:=bef_nn y hy.1
  conv=>whnf
  refine cO (fun _=>hb2) ?_
  conv=>whnf
  refine iO ?_;conv=>whnf
  subst hyd
  have hre:restD day=day-befD (yearD day):=rfl
  have hlt12:∀ k,sumM (yearD day) k≤restD day→k<12:=by
   intro k hk
   apply Classical.byContradiction
   intro hn
   have:=sum_mono (yearD day) 12 k (by omega)
   rw [sum_12] at this
   omega
  refine loop_inv (cxOk _ _) (fun k:Nat=>sumM (yearD day) k≤restD day) (fun k=>12-k) (fun k=>⟨[(0,.int .i64 day),(2,.int .i64 (yearD day)),(3,.int .i64 ((k:Nat)+1)),(4,.int .i64 0),(5,.int .i64 0),(6,.int .i64 (restD day-sumM (yearD day) k))],[],0⟩) 0 (by show (0:Int)≤_;omega) ((wk_of [] rfl ⟨wa0,wa0,wa0,wa0,wa0,.base (.tree _ _ (show AV.int .i64 _=AV.int .i64 _ by congr 1;show _=restD day-0;omega) rfl),trivial⟩ trivial)) ?_
  intro k hk
  have hk12:=hlt12 k hk
  have hl:=last_ok (yearD day) ((k:Int)+1) (by omega)
  have hlb:=last_bounds (yearD day) ((k:Int)+1)
  have hsl:=sum_le (yearD day) k
  conv=>whnf
  refine cO (fun _=>hl) ?_
  conv=>whnf
  refine ⟨fun hm=>?_,fun hm=>?_⟩
  ·have hm:=of_decide_eq_true hm
   conv=>whnf
   refine cO (fun _=>hl) ?_
   conv=>whnf
   refine iO ?_
   conv=>whnf
   refine iO ?_
   conv=>whnf
   exact ⟨k+1,(by simp only [sumM];omega),(by show 12-(k+1)<12-k;omega),(wk_of [] rfl ⟨wa0,wa0,wa0,wa0,wa0,.base (.tree _ _ (show AV.int .i64 _=AV.int .i64 _ by congr 1;simp only [sumM];omega) rfl),trivial⟩ trivial)⟩
  ·have hm:=of_decide_eq_false hm
   have hmk:monK (yearD day) (restD day)=k:=mon_uniq r1 r2 hk (by simp only [sumM];omega)
   conv=>whnf
   refine iO ?_;conv=>whnf
   unfold partY partM partD
   rw [hmk]
   rfl
def dayR (y m d:Int):List AR:=[.val (.int .i64 (dayOf y m d).1),.val (.int .i64 (dayOf y m d).2)]
theorem dayof_ok (y m d:Int) (hy:0≤y) (hy2:y≤1000000000000000) (hd:-9223372036854775808≤d):APure Tryz.prog 139 [.int .i64 y,.int .i64 m,.int .i64 d] (fun rs=>rs=dayR y m d):=by
 have hl:=last_ok y m hy
 have hlb:=last_bounds y m
 have hv:dayOf y m d=if d<1∨lastD y m<d then (0,23)
  else if y<1900∨3000<y then (0,3)
  else if 0≤befD y+d-1+sumM y (m-1).toNat∧befD y+d-1+sumM y (m-1).toNat≤200000 then (befD y+d-1+sumM y (m-1).toNat,0)
  else (0,3):=rfl
 unfold dayR
 rw [hv]
 by_cases h1:d<1∨lastD y m<d
 ·rw [if_pos h1]
  refine aO (cxOk 44 [0,1,2,6,7,8,9,18,24,32,42]) Tryz.func139 ?_
  conv=>whnf
  refine cO (fun _=>hl) ?_
  conv=>whnf
  refine ⟨fun _=>?_,fun hx=>(by simp at hx;omega)⟩
  conv=>whnf
  rfl
 rw [if_neg h1]
 have hm:1≤m∧m≤12:=by
  apply Classical.byContradiction
  intro hn
  rw [last_out hn] at h1
  omega
 by_cases h2:y<1900∨3000<y
 ·rw [if_pos h2]
  refine aO (cxOk 44 [0,1,2,6,7,8,9,18,24,32,42]) Tryz.func139 ?_
  conv=>whnf
  refine cO (fun _=>hl) ?_
  conv=>whnf
  refine ⟨fun hx=>(by simp at hx;omega),fun _=>?_⟩
  conv=>whnf
  refine ⟨fun _=>?_,fun hx=>(by simp at hx;omega)⟩
  conv=>whnf
  rfl
 rw [if_neg h2]
 have hb:=before_ok y (by omega) (by omega)
 have hbn:=bef_nn y (by omega)
 have hbm:befD y≤500000:=by unfold befD;omega
 refine aO (cxOk 44 [0,1,2,6,7,8,9,18,24,32,42]) Tryz.func139 ?_
 conv=>whnf
 refine cO (fun _=>hl) ?_
 conv=>whnf
 refine ⟨fun hx=>(by simp at hx;omega),fun _=>?_⟩
 conv=>whnf
 refine ⟨fun hx=>(by simp at hx;omega),fun _=>?_⟩
 conv=>whnf
 refine cO (fun _=>hb) ?_
 conv=>whnf
 refine iO ?_
 conv=>whnf
 refine iO ?_
 conv=>whnf
 refine loop_inv (cxOk _ _) (fun k:Nat=>(k:Int)≤m-1) (fun k=>12-k) (fun k=>⟨[(0,.int .i64 y),(1,.int .i64 m),(2,.int .i64 d),(6,.int .i64 0),(7,.int .i64 0),(8,.int .i64 (befD y+d-1+sumM y k)),(9,.int .i64 ((k:Nat)+1))],[],0⟩) 0 (by show ((0:Nat):Int)≤_;omega) ((wk_of [] rfl ⟨wa0,wa0,wa0,wa0,wa0,.base (.tree _ _ (show AV.int .i64 _=AV.int .i64 _ by congr 1;show _=befD y+d-1+0;omega) rfl),wa0,trivial⟩ trivial)) ?_
 intro k hk
 have hk2:(k:Int)≤m-1:=hk
 have hls:=last_ok y ((k:Int)+1) hy
 have hlb:=last_bounds y ((k:Int)+1)
 have hsl:=sum_le y k
 conv=>whnf
 refine ⟨fun hm=>?_,fun hm=>?_⟩
 ·have hm:=of_decide_eq_true hm
  conv=>whnf
  refine cO (fun _=>hls) ?_
  conv=>whnf
  refine iO ?_
  conv=>whnf
  refine iO ?_
  conv=>whnf
  exact ⟨k+1,(by show ((k+1:Nat):Int)≤m-1;omega),(by show 12-(k+1)<12-k;omega),(wk_of [] rfl ⟨wa0,wa0,wa0,wa0,wa0,.base (.tree _ _ (show AV.int .i64 _=AV.int .i64 _ by congr 1;simp only [sumM];omega) rfl),wa0,trivial⟩ trivial)⟩
 ·have hm:=of_decide_eq_false hm
  have hke:(m-1).toNat=k:=by omega
  have hday:=isday_ok (befD y+d-1+sumM y k)
  conv=>whnf
  refine cO (fun _=>hday) ?_
  conv=>whnf
  rw [hke]
  by_cases h3:0≤befD y+d-1+sumM y k∧befD y+d-1+sumM y k≤200000
  ·rw [if_pos h3]
   refine ⟨fun hx=>(by simp at hx;omega),fun _=>?_⟩
   conv=>whnf
   rfl
  ·rw [if_neg h3]
   refine ⟨fun _=>?_,fun hx=>(by simp at hx;omega)⟩
   conv=>whnf
   rfl
abbrev Er:=Int×Int
abbrev Ps (α:Type):=Except Er (α×List Tok)
def hdT (r:List Tok):Tok:=r.headD t0
def Fin1:List Tok→Prop
 | []=>False
 | [t]=>t.kind=3
 | t::r=>t.kind≠3∧Fin1 r
def isT (s:List UInt8) (r:List Tok):Bool:=decide ((hdT r).kind≠3)&&decide ((hdT r).text=s)
def errP {α:Type} (e:Int) (r:List Tok):Except Er α:=.error ((hdT r).pos,e)
def wantP (s:List UInt8) (r:List Tok):Except Er (List Tok):=if isT s r=true then .ok r.tail else errP 12 r
def namedB (r:List Tok):Bool:=decide ((hdT r).kind=0)&&nameB (hdT r).text
def nameP (r:List Tok):Ps (List UInt8):=if namedB r=true then .ok ((hdT r).text,r.tail) else errP 12 r
def numP (a b:Int) (r:List Tok):Ps Int :=
 if (hdT r).kind≠1 then errP 12 r else if a≤(hdT r).n∧(hdT r).n≤b then .ok ((hdT r).n,r.tail) else errP 3 r
def unitP (r:List Tok):Int×List Tok :=
 if isT [99,111,105,110,115] r=true then (1,r.tail)
 else if isT [100,97,121,115] r=true then (3,r.tail)
 else if isT [109,105,108,108,101] r=true then (2,r.tail)
 else (0,r)
abbrev Rec:=Int→List Tok→Ps Exp
def withinP (ex:Rec) (op:Int) (r:List Tok):Ps Exp :=
 match numP 1 1000 r with
 | .error e=>.error e
 | .ok (n,r)=>match wantP [40] r with
  | .error e=>.error e
  | .ok r=>match ex 0 r with
   | .error e=>.error e
   | .ok (x,r)=>match wantP [41] r with
    | .error e=>.error e
    | .ok r=>.ok (.mk op n 0 [] [x],r)
def pairP (ex:Rec) (op:Int) (r:List Tok):Ps Exp :=
 match wantP [40] r with
 | .error e=>.error e
 | .ok r=>match ex 0 r with
  | .error e=>.error e
  | .ok (x,r)=>match wantP [44] r with
   | .error e=>.error e
   | .ok r=>match ex 0 r with
    | .error e=>.error e
    | .ok (y,r)=>match wantP [41] r with
     | .error e=>.error e
     | .ok r=>.ok (.mk op 0 0 [] [x,y],r)
def namedP (op:Int) (r:List Tok):Ps Exp :=
 match nameP r with
 | .error e=>.error e
 | .ok (s,r)=>.ok (.mk op 0 0 s [],r)
def parenP (ex:Rec) (r:List Tok):Ps Exp :=
 match ex 0 r with
 | .error e=>.error e
 | .ok (x,r)=>match wantP [41] r with
  | .error e=>.error e
  | .ok r=>.ok (x,r)
def primP (ex:Rec) (r:List Tok):Ps Exp :=
 if (hdT r).kind=1 then .ok (.mk 0 (hdT r).n (unitP r.tail).1 [] [],(unitP r.tail).2)
 else if isT [116,114,117,101] r=true then .ok (.mk 0 1 4 [] [],r.tail)
 else if isT [102,97,108,115,101] r=true then .ok (.mk 0 0 4 [] [],r.tail)
 else if isT [102,97,99,116] r=true then namedP 2 r.tail
 else if isT [114,97,116,101] r=true then namedP 3 r.tail
 else if isT [101,118,101,114] r=true then withinP ex 16 r.tail
 else if isT [108,111,110,103] r=true then withinP ex 17 r.tail
 else if isT [115,111,111,110] r=true then withinP ex 18 r.tail
 else if isT [109,105,110] r=true∨isT [109,97,120] r=true then pairP ex (if isT [109,97,120] r=true then 9 else 8) r.tail
 else if isT [40] r=true then parenP ex r.tail
 else namedP 1 r
def ifP (ex:Rec) (r:List Tok):Ps Exp :=
 match ex 0 r with
 | .error e=>.error e
 | .ok (x,r)=>match wantP [116,104,101,110] r with
  | .error e=>.error e
  | .ok r=>match ex 0 r with
   | .error e=>.error e
   | .ok (y,r)=>match wantP [101,108,115,101] r with
    | .error e=>.error e
    | .ok r=>match ex 0 r with
     | .error e=>.error e
     | .ok (z,r)=>.ok (.mk 15 0 0 [] [x,y,z],r)
def notP (ex:Rec) (r:List Tok):Ps Exp :=
 match ex 3 r with
 | .error e=>.error e
 | .ok (x,r)=>.ok (.mk 12 0 0 [] [x],r)
def prefP (ex:Rec) (form:Int) (r:List Tok):Except Er ((Exp×Int)×List Tok) :=
 if form=0∧isT [105,102] r=true then (match ifP ex r.tail with
  | .error e=>.error e
  | .ok (x,r)=>.ok ((x,0),r))
 else if form≤3∧isT [110,111,116] r=true then (match notP ex r.tail with
  | .error e=>.error e
  | .ok (x,r)=>.ok ((x,3),r))
 else match primP ex r with
  | .error e=>.error e
  | .ok (x,r)=>.ok ((x,7),r)
def opI (r:List Tok):Int:=idxP (fun o:Opr=>isT o.text r) oprL
def opAt (i:Int):Opr:=oprL.getD i.toNat o0
def loopP (ex:Rec) (form:Int):Nat→Exp→Int→List Tok→Ps Exp
 | 0,e,_,r=>.ok (e,r)
 | f+1,e,own,r =>
  if opI r<0 then .ok (e,r)
  else
   let x:=opAt (opI r)
   if x.form<form∨own<x.form∨own=4∧x.form=4 then .ok (e,r)
   else match ex (x.form+1) r.tail with
    | .error e=>.error e
    | .ok (y,r')=>loopP ex form f (.mk x.op 0 0 [] [e,y]) x.form r'
def expS (ex:Rec) (form:Int) (r:List Tok):Ps Exp :=
 match prefP ex form r with
 | .error e=>.error e
 | .ok ((e,own),r')=>loopP ex form r'.length e own r'
def expP:Nat→Rec
 | 0,_,r=>errP 12 r
 | f+1,form,r=>expS (expP f) form r
def levM:List Nat→Nat
 | []=>0
 | a::l=>max a (levM l)
mutual
def lev:Exp→Nat
 | .mk _ _ _ _ args=>levs args+1
def levs:List Exp→Nat
 | []=>0
 | e::l=>max (lev e) (levs l)
end
set_option maxHeartbeats 40000000
abbrev pcell (T r:List Tok):List AV:=[encTks T,.int .i64 ((T.length-r.length:Nat):Int)]
abbrev pobj (T r:List Tok):AB:=.cells 132 (pcell T r)
structure PSt (T r:List Tok):Prop where
 suf:r <:+ T
 fin:Fin1 r
 big:T.length≤1000000000000
 txt:∀ t∈T,t.text.length≤4000∧0≤t.n∧t.n≤1000000000000000
theorem Fin1.ne {r:List Tok} (h:Fin1 r):r≠[]:=by cases r<;>simp_all [Fin1]
theorem Fin1.tail {r:List Tok} (h:Fin1 r) (hk:(hdT r).kind≠3):Fin1 r.tail:=by
 match r,h with
 | [t],h=>exact (hk h).elim
 | t::u::r,h=>exact h.2
theorem PSt.pos {T r:List Tok} (h:PSt T r):0<r.length:=List.length_pos_iff.2 h.fin.ne
theorem PSt.le {T r:List Tok} (h:PSt T r):r.length≤T.length:=h.suf.length_le
theorem PSt.get {T r:List Tok} (h:PSt T r):T.getD (T.length-r.length) t0=hdT r:=by
 obtain ⟨p,hp⟩:=h.suf
 have hlen:T.length=p.length+r.length:=by rw [← hp,List.length_append]
 rw [show T.length-r.length=p.length by omega,← hp,List.getD_eq_getElem?_getD,List.getElem?_append_right (Nat.le_refl _),Nat.sub_self]
 cases r with
 | nil=>rfl
 | cons t r=>rfl
theorem PSt.tail {T r:List Tok} (h:PSt T r) (hk:(hdT r).kind≠3):PSt T r.tail :=
 ⟨(List.tail_suffix r).trans h.suf,h.fin.tail hk,h.big,h.txt⟩
theorem PSt.hd {T r:List Tok} (h:PSt T r):hdT r∈T:=by
 have hp:=h.pos
 cases r with
 | nil=>simp at hp
 | cons t r=>exact h.suf.subset List.mem_cons_self
theorem PSt.tlen {T r:List Tok} (h:PSt T r):(hdT r).text.length≤4000:=(h.txt _ h.hd).1
theorem isT_kind {s:List UInt8} {r:List Tok} (h:isT s r=true):(hdT r).kind≠3:=by
 unfold isT at h
 simp only [Bool.and_eq_true,decide_eq_true_eq] at h
 exact h.1
theorem PSt.at {T r:List Tok} (h:PSt T r):((T.length-r.length:Nat):Int)+1=((T.length-r.tail.length:Nat):Int):=by
 have h1:=h.pos
 have h2:=h.le
 rw [List.length_tail]
 omega
theorem next_ok {T r:List Tok} (h:PSt T r):APureV Tryz.prog 106 [.rop (pcell T r)] (encTk (hdT r)):=by
 have h1:=h.pos
 have h2:=h.le
 have h3:=h.big
 have hg:=h.get
 have ht:(((T.length-r.length:Nat):Int)).toNat=T.length-r.length:=Int.toNat_natCast _
 refine aO (cxOk 13 [0,2]) Tryz.func106 ?_
 conv=>whnf
 refine .eff ag0 ?_
 conv=>whnf
 refine iO ?_;conv=>whnf
 refine And.intro rfl ?_;conv=>whnf
 refine And.intro rfl ?_;conv=>whnf
 rw [ht,hg]
 rfl
theorem is_ok {T r:List Tok} (h:PSt T r) (s:List UInt8):APureV Tryz.prog 141 [.rop (pcell T r),.str s] (.bool (isT s r)):=by
 have hn:=next_ok h
 unfold isT
 cases hk:decide ((hdT r).kind=3) with
 | true =>
  have e:decide ((hdT r).kind≠3)=false:=by simpa using hk
  rw [e]
  refine aO (cxOk 16 [0,1,4]) Tryz.func141 ?_
  conv=>whnf
  refine cO (fun _=>hn) ?_
  conv=>whnf
  rw [hk]
  refine gF ?_
  conv=>whnf
  rfl
 | false =>
  have e:decide ((hdT r).kind≠3)=true:=by simpa using hk
  rw [e]
  refine aO (cxOk 16 [0,1,4]) Tryz.func141 ?_
  conv=>whnf
  refine cO (fun _=>hn) ?_
  conv=>whnf
  rw [hk]
  refine gT ?_
  conv=>whnf
  refine cO (fun _=>hn) ?_
  conv=>whnf
  rfl
theorem named_ok {T r:List Tok} (h:PSt T r):APureV Tryz.prog 138 [.rop (pcell T r)] (.bool (namedB r)):=by
 have hn:=next_ok h
 have hm:=name_ok (hdT r).text (by have:=h.tlen;omega)
 unfold namedB
 cases hk:decide ((hdT r).kind=0) with
 | false =>
  refine aO (cxOk 13 [0,2]) Tryz.func138 ?_
  conv=>whnf
  refine cO (fun _=>hn) ?_
  conv=>whnf
  rw [hk]
  refine gF ?_
  conv=>whnf
  refine cF [.undef] [.val (.bool false)] ?_
  conv=>whnf
  rfl
 | true =>
  refine aO (cxOk 13 [0,2]) Tryz.func138 ?_
  conv=>whnf
  refine cO (fun _=>hn) ?_
  conv=>whnf
  rw [hk]
  refine gT ?_
  conv=>whnf
  refine cO (fun _=>hn) ?_
  conv=>whnf
  refine cO (fun _=>hm) ?_
  conv=>whnf
  rfl
theorem has_ok {T r:List Tok} (h:PSt T r) (s:List UInt8):RIO Tryz.prog 137 [.ptr 0 0,.str s] [pobj T r] 1 (fun vs bs es=>vs=[.bool (isT s r)]∧bs=[pobj T (if isT s r=true then r.tail else r)]∧es=[]):=by
 have hn:=is_ok h s
 have hat:=h.at
 have h1:=h.pos
 have h2:=h.le
 have h3:=h.big
 cases hb:isT s r with
 | false =>
  rw [hb] at hn
  refine rO (cxPOk 1 16 [0,1,4,8]) Tryz.func137 ?_
  conv=>whnf
  refine cO (fun _=>hn) ?_
  conv=>whnf
  refine gT ?_
  conv=>whnf
  refine ⟨_,Wk.refl _,rfl,rfl,?_⟩
  conv=>whnf
  exact ⟨rfl,rfl,rfl,rfl⟩
 | true =>
  rw [hb] at hn
  refine rO (cxPOk 1 16 [0,1,4,8]) Tryz.func137 ?_
  conv=>whnf
  refine cO (fun _=>hn) ?_
  conv=>whnf
  refine gF ?_
  conv=>whnf
  refine iO ?_
  conv=>whnf
  rw [hat]
  refine ⟨_,Wk.refl _,rfl,rfl,?_⟩
  conv=>whnf
  exact ⟨rfl,rfl,rfl,rfl⟩
def stopC (er:Er):List PanicEntry:=[{ v:=.iface 134 (.agg #[.int .i64 er.1,.int .i64 er.2]),recovered:=false }]
theorem relT_int2 {S:Blocks} {w:World} {cs:Array Value} {a b:Int} (h:RelT S w (.agg cs) (.agg [.int .i64 a,.int .i64 b])):cs=#[.int .i64 a,.int .i64 b]:=by
 cases h with
 | agg _ _ hl h =>
  have h0:cs.size=2:=hl
  apply Array.ext
  ·exact hl
  ·intro i h1 h2
   have hg:cs[i]?=some cs[i]:=Array.getElem?_eq_getElem h1
   match i with
   | 0 =>
    have:=h 0 _ _ hg rfl
    exact relV_int (m:=fun _=>none) (.t _ _ this)
   | 1 =>
    have:=h 1 _ _ hg rfl
    exact relV_int (m:=fun _=>none) (.t _ _ this)
   | n+2=>omega
abbrev RX (f:FuncId) (avs:List AV) (objs:List AB) (p:Nat) {α:Type} (spec:Except Er α) (V:α→List AV) (B E:α→List AB):Prop :=
 RIOX Tryz.prog f avs objs p (fun vs bs es=>∃ v,spec=.ok v∧vs=V v∧bs=B v∧es=E v) (fun ch=>∃ e,spec=.error e∧ch=stopC e)
theorem rx_ok {f:FuncId} {avs:List AV} {objs:List AB} {p:Nat} {α:Type} {spec:Except Er α} {V:α→List AV} {B E:α→List AB} (h:RX f avs objs p spec V B E) {v:α} (hs:spec=.ok v) :
  RIO Tryz.prog f avs objs p (fun vs bs es=>vs=V v∧bs=B v∧es=E v) :=
 RIOX.calm h (fun vs bs es ⟨u,hu,h1,h2,h3⟩=>by rw [hs] at hu;cases hu;exact ⟨h1,h2,h3⟩) (fun ch ⟨e,he,_⟩=>by rw [hs] at he;cases he)
theorem rx_er {f:FuncId} {avs:List AV} {objs:List AB} {p:Nat} {α:Type} {spec:Except Er α} {V:α→List AV} {B E:α→List AB} (h:RX f avs objs p spec V B E) {e:Er} (hs:spec=.error e) :
  RIOX Tryz.prog f avs objs p (fun _ _ _=>False) (fun ch=>ch=stopC e) :=
 RIOX.imp h (fun vs bs es ⟨u,hu,_⟩=>by rw [hs] at hu;cases hu) (fun ch ⟨e',he,hc⟩=>by rw [hs] at he;cases he;exact hc)
def checkP (ok:Bool) (e:Int) (r:List Tok):Except Er Unit:=if ok=true then .ok () else .error ((hdT r).pos,e)
theorem check_x {T r:List Tok} (h:PSt T r) (ok:Bool) (e:Int):RX 105 [.ptr 0 0,.bool ok,.int .i64 e] [pobj T r] 1 (checkP ok e r) (fun _=>[]) (fun _=>[pobj T r]) (fun _=>[]):=by
 have hn:=next_ok h
 cases ok with
 | true =>
  refine xO (cxXOk (fun ch=>∃ er,checkP true e r=.error er∧ch=stopC er) 1 14 [0,1,2,7]) Tryz.func105 ?_
  conv=>whnf
  refine gF ?_
  conv=>whnf
  refine ⟨_,Wk.refl _,rfl,rfl,?_⟩
  conv=>whnf
  exact ⟨rfl,(),rfl,rfl,rfl,rfl⟩
 | false =>
  refine xO (cxXOk (fun ch=>∃ er,checkP false e r=.error er∧ch=stopC er) 1 14 [0,1,2,7]) Tryz.func105 ?_
  conv=>whnf
  refine gT ?_
  conv=>whnf
  refine cO (fun _=>hn) ?_
  conv=>whnf
  refine .mk 134 _ rfl fun S w cs hr=>⟨((hdT r).pos,e),rfl,?_⟩
  rw [relT_int2 hr]
  rfl
def wantsP:List (List UInt8)→List Tok→Except Er (List Tok)
 | [],r=>.ok r
 | w::ws,r=>match wantP w r with
  | .error e=>.error e
  | .ok r'=>wantsP ws r'
abbrev wsL (ws:List (List UInt8)):List AV:=ws.map fun s=>AV.str s
theorem wsL_get (ws:List (List UInt8)) {k:Nat} (h:k<ws.length):(wsL ws).getD k .undef=.str (ws.getD k []):=by
 rw [List.getD_eq_getElem?_getD,List.getD_eq_getElem?_getD,List.getElem?_map,List.getElem?_eq_getElem h]
 rfl
theorem want_x {T r:List Tok} (h:PSt T r) (ws:List (List UInt8)) (hl:ws.length≤1000):RX 93 [.ptr 0 0,.own 1] [pobj T r,.lst 9 1 (wsL ws)] 1 (wantsP ws r) (fun _=>[]) (fun r'=>[pobj T r']) (fun _=>[]):=by
 have hsl:(wsL ws).length=ws.length:=List.length_map ..
 refine xO (cxXOk (fun ch=>∃ er,wantsP ws r=.error er∧ch=stopC er) 1 18 [0,1,5,6,7,8,9]) Tryz.func93 ?_
 conv=>whnf
 refine loop_inv (cxXOk _ _ _ _) (fun s:Nat×List Tok=>s.1≤ws.length∧PSt T s.2∧wantsP ws r=wantsP (ws.drop s.1) s.2) (fun s=>ws.length-s.1) (fun s=>⟨[(0,.ptr 0 0),(6,.own 1),(7,.int .i64 (ws.length:Nat)),(8,.int .i64 ((s.1):Nat))],[(0,.cells 132 (pcell T (s.2))),(1,.lst 9 1 (wsL ws))],2⟩) (0,r) ⟨by omega,h,rfl⟩ ((wk_of [(0,.id 0),(1,.id 1)] rfl ⟨wc0,af0,.base (.tree _ _ (congrArg (fun n:Nat=>AV.int .i64 (n:Int)) hsl) rfl),wa0,trivial⟩ ⟨wb0,wf0,trivial⟩)) ?_
 rintro ⟨k,q⟩ ⟨hk,hq,hsp⟩
 dsimp only at hk hq hsp ⊢
 conv=>whnf
 refine ⟨fun hd=>?_,fun hd=>?_⟩
 ·have hd:=of_decide_eq_true hd
  have hlt:k<ws.length:=by omega
  have hek:(k:Int).toNat=k:=Int.toNat_natCast k
  have hdr:ws.drop k=ws.getD k []::ws.drop (k+1):=by
   rw [List.drop_eq_getElem_cons hlt,List.getD_eq_getElem?_getD,List.getElem?_eq_getElem hlt]
   rfl
  rw [hdr] at hsp
  have hh:=has_ok hq (ws.getD k [])
  have hg:(wsL ws).getD (k:Int).toNat .undef=.str (ws.getD k []):=by rw [hek];exact wsL_get ws hlt
  conv=>whnf
  refine iO ?_;conv=>whnf
  refine And.intro om0 (And.intro rfl ?_);conv=>whnf
  rw [hg]
  conv=>whnf
  refine cR (hh) [0] ?_
  conv=>whnf
  cases hb:isT (ws.getD k []) q with
  | true =>
   have hw:wantsP ws r=wantsP (ws.drop (k+1)) q.tail:=by
    rw [hsp]
    simp only [wantsP,wantP,hb,if_true]
   rw [hb] at hh
   refine cR ((rx_ok (check_x (hq.tail (isT_kind hb)) true 12) rfl)) [0] ?_
   conv=>whnf
   refine iO ?_
   conv=>whnf
   exact ⟨(k+1,q.tail),⟨hlt,hq.tail (isT_kind hb),hw⟩,(by show ws.length-(k+1)<ws.length-k;omega),(wk_of [(0,.id 0),(1,.id 1)] rfl ⟨wc0,af0,wa0,wa0,trivial⟩ ⟨wb0,wf0,trivial⟩)⟩
  | false =>
   have hw:wantsP ws r=.error ((hdT q).pos,12):=by
    rw [hsp]
    simp only [wantsP,wantP,hb,errP,Bool.false_eq_true,if_false]
   rw [hb] at hh
   exact CallG.stop rfl (riox_stop ((rx_er (check_x hq false 12) rfl)) [0] rfl rfl rfl ac0) ((fun ch hc=>⟨_,hw,hc⟩))
 ·conv=>whnf
  have hd:=of_decide_eq_false hd
  have hke:k=ws.length:=by omega
  have hw:wantsP ws r=.ok q:=by
   rw [hsp,hke,List.drop_length]
   rfl
  refine ⟨⟨[(0,.ptr 0 0)],[(0,.cells 132 (pcell T q))],1⟩,(wk_of [(0,.id 0)] rfl ⟨wc0,trivial⟩ ⟨wb0,trivial⟩),rfl,rfl,?_⟩
  conv=>whnf
  exact ⟨rfl,q,hw,rfl,rfl,rfl⟩
theorem name_x {T r:List Tok} (h:PSt T r):RX 94 [.ptr 0 0] [pobj T r] 1 (nameP r) (fun v=>[.str v.1]) (fun v=>[pobj T v.2]) (fun _=>[]):=by
 have hn:=named_ok h
 have hx:=next_ok h
 have hat:=h.at
 have h1:=h.pos
 have h2:=h.le
 have h3:=h.big
 unfold nameP
 cases hb:namedB r with
 | true =>
  rw [hb] at hn
  refine xO (cxXOk (fun ch=>∃ er,(if true=true then Except.ok ((hdT r).text,r.tail) else errP 12 r)=.error er∧ch=stopC er) 1 19 [0,2,3]) Tryz.func94 ?_
  conv=>whnf
  refine cO (fun _=>hn) ?_
  conv=>whnf
  refine cR ((rx_ok (check_x h true 12) rfl)) [0] ?_
  conv=>whnf
  refine cO (fun _=>hx) ?_
  conv=>whnf
  refine iO ?_
  conv=>whnf
  rw [hat]
  refine ⟨_,Wk.refl _,rfl,rfl,?_⟩
  conv=>whnf
  exact ⟨rfl,((hdT r).text,r.tail),rfl,rfl,rfl,rfl⟩
 | false =>
  rw [hb] at hn
  refine xO (cxXOk (fun ch=>∃ er,(if false=true then Except.ok ((hdT r).text,r.tail) else errP 12 r)=.error er∧ch=stopC er) 1 19 [0,2,3]) Tryz.func94 ?_
  conv=>whnf
  refine cO (fun _=>hn) ?_
  conv=>whnf
  exact CallG.stop rfl (riox_stop ((rx_er (check_x h false 12) rfl)) [0] rfl rfl rfl ac0) ((fun ch hc=>⟨_,rfl,hc⟩))
theorem num_x {T r:List Tok} (h:PSt T r) (a b:Int):RX 97 [.ptr 0 0,.int .i64 a,.int .i64 b] [pobj T r] 1 (numP a b r) (fun v=>[.int .i64 v.1]) (fun v=>[pobj T v.2]) (fun _=>[]):=by
 have hx:=next_ok h
 have hat:=h.at
 have h1:=h.pos
 have h2:=h.le
 have h3:=h.big
 cases hk:decide ((hdT r).kind=1) with
 | false =>
  have hs:numP a b r=errP 12 r:=if_pos (of_decide_eq_false hk)
  refine xO (cxXOk (fun ch=>∃ er,numP a b r=.error er∧ch=stopC er) 1 36 [0,1,2,6,7]) Tryz.func97 ?_
  conv=>whnf
  refine cO (fun _=>hx) ?_
  conv=>whnf
  rw [hk]
  exact CallG.stop rfl (riox_stop ((rx_er (check_x h false 12) rfl)) [0] rfl rfl rfl ac0) ((fun ch hc=>⟨_,hs,hc⟩))
 | true =>
  have hs:numP a b r=if a≤(hdT r).n∧(hdT r).n≤b then .ok ((hdT r).n,r.tail) else errP 3 r:=if_neg (by simpa using of_decide_eq_true hk)
  refine xO (cxXOk (fun ch=>∃ er,numP a b r=.error er∧ch=stopC er) 1 36 [0,1,2,6,7]) Tryz.func97 ?_
  conv=>whnf
  refine cO (fun _=>hx) ?_
  conv=>whnf
  rw [hk]
  refine cR ((rx_ok (check_x h true 12) rfl)) [0] ?_
  conv=>whnf
  by_cases hr:a≤(hdT r).n∧(hdT r).n≤b
  ·have hs':numP a b r=.ok ((hdT r).n,r.tail):=by rw [hs,if_pos hr]
   rw [show (decide (a≤(hdT r).n)&&decide ((hdT r).n≤b))=true by simp [hr.1,hr.2]]
   have hke:(hdT r).kind≠3:=by have:=of_decide_eq_true hk;omega
   refine cR ((rx_ok (check_x h true 3) rfl)) [0] ?_
   conv=>whnf
   refine iO ?_
   conv=>whnf
   rw [hat]
   refine ⟨⟨[(6,.int .i64 (hdT r).n)],[(0,.cells 132 (pcell T r.tail))],1⟩,(wk_of [(0,.id 0)] rfl ⟨wa0,trivial⟩ ⟨wb0,trivial⟩),rfl,rfl,?_⟩
   conv=>whnf
   exact ⟨rfl,((hdT r).n,r.tail),hs',rfl,rfl,rfl⟩
  ·have hs':numP a b r=.error ((hdT r).pos,3):=by rw [hs,if_neg hr];rfl
   rw [show (decide (a≤(hdT r).n)&&decide ((hdT r).n≤b))=false by simp;intro;omega]
   exact CallG.stop rfl (riox_stop ((rx_er (check_x h false 3) rfl)) [0] rfl rfl rfl ac0) ((fun ch hc=>⟨_,hs',hc⟩))
def Suf (r r':List Tok):Prop:=r' <:+ r∧(Fin1 r→Fin1 r')
theorem Suf.refl (r:List Tok):Suf r r:=⟨List.suffix_refl r,id⟩
theorem Suf.trans {a b c:List Tok} (h:Suf a b) (h':Suf b c):Suf a c:=⟨h'.1.trans h.1,fun x=>h'.2 (h.2 x)⟩
theorem Suf.le {a b:List Tok} (h:Suf a b):b.length≤a.length:=h.1.length_le
theorem Suf.tail {r:List Tok} (hk:(hdT r).kind≠3):Suf r r.tail:=⟨List.tail_suffix r,fun h=>h.tail hk⟩
theorem PSt.to {T r r':List Tok} (h:PSt T r) (hs:Suf r r'):PSt T r':=⟨hs.1.trans h.suf,hs.2 h.fin,h.big,h.txt⟩
theorem tail_lt {r:List Tok} (h:Fin1 r):r.tail.length<r.length:=by
 have:=List.length_pos_iff.2 h.ne
 rw [List.length_tail];omega
theorem wantP_suf {s:List UInt8} {r r':List Tok} (h:wantP s r=.ok r'):Suf r r':=by
 unfold wantP at h
 split at h
 ·rename_i hi
  cases h
  exact .tail (isT_kind hi)
 ·cases h
theorem wantsP_suf:∀ {ws:List (List UInt8)} {r r':List Tok},wantsP ws r=.ok r'→Suf r r'
 | [],r,r',h=>by cases h;exact .refl _
 | w::ws,r,r',h=>by
  unfold wantsP at h
  split at h
  ·cases h
  ·rename_i r1 h1
   exact (wantP_suf h1).trans (wantsP_suf h)
theorem nameP_suf {r r':List Tok} {s:List UInt8} (h:nameP r=.ok (s,r')):Suf r r':=by
 unfold nameP at h
 split at h
 ·rename_i hi
  cases h
  unfold namedB at hi
  simp only [Bool.and_eq_true,decide_eq_true_eq] at hi
  exact .tail om0
 ·cases h
theorem numP_suf {a b n:Int} {r r':List Tok} (h:numP a b r=.ok (n,r')):Suf r r'∧n=(hdT r).n:=by
 unfold numP at h
 split at h
 ·cases h
 ·split at h
  ·cases h
   exact ⟨.tail om0,rfl⟩
  ·cases h
theorem unitP_suf (r:List Tok):Suf r (unitP r).2:=by
 unfold unitP
 repeat' split
 all_goals first | exact .tail (isT_kind (by assumption)) | exact .refl _
def RecS (ex:Rec):Prop:=∀ form r x r',ex form r=.ok (x,r')→Suf r r'
def RecX (T:List Tok) (n:Nat) (ex:Rec):Prop:=∀ (form:Int) (r:List Tok),0≤form→form≤7→PSt T r→r.length≤n →
 RX 143 [.ptr 0 0,.int .i64 form] [pobj T r] 1 (ex form r) (fun v=>[encE v.1]) (fun v=>[pobj T v.2]) (fun v=>[.cells 27 (cellsE v.1)])
theorem want1_x {T r:List Tok} (h:PSt T r) (s:List UInt8):RX 93 [.ptr 0 0,.own 1] [pobj T r,.lst 9 1 [.str s]] 1 (wantP s r) (fun _=>[]) (fun r'=>[pobj T r']) (fun _=>[]):=by
 have e:wantP s r=wantsP [s] r:=by
  unfold wantsP
  try (cases wantP s r<;>rfl)
 rw [e]
 exact want_x h [s] (by simp)
theorem has_t {T r:List Tok} (h:PSt T r) {s:List UInt8} (hb:isT s r=true):RIO Tryz.prog 137 [.ptr 0 0,.str s] [pobj T r] 1 (fun vs bs es=>vs=[.bool true]∧bs=[pobj T r.tail]∧es=[]):=by
 have:=has_ok h s
 rw [hb] at this
 exact this
theorem has_f {T r:List Tok} (h:PSt T r) {s:List UInt8} (hb:isT s r=false):RIO Tryz.prog 137 [.ptr 0 0,.str s] [pobj T r] 1 (fun vs bs es=>vs=[.bool false]∧bs=[pobj T r]∧es=[]):=by
 have:=has_ok h s
 rw [hb] at this
 exact this
theorem unit_x {T r:List Tok} (h:PSt T r):RIO Tryz.prog 194 [.ptr 0 0] [pobj T r] 1 (fun vs bs es=>vs=[.int .i64 (unitP r).1]∧bs=[pobj T (unitP r).2]∧es=[]):=by
 have fin:∀ {p:Int×List Tok},unitP r=p→(RIO Tryz.prog 194 [.ptr 0 0] [pobj T r] 1 (fun vs bs es=>vs=[.int .i64 p.1]∧bs=[pobj T p.2]∧es=[]))→RIO Tryz.prog 194 [.ptr 0 0] [pobj T r] 1 (fun vs bs es=>vs=[.int .i64 (unitP r).1]∧bs=[pobj T (unitP r).2]∧es=[]):=by
  intro p hp hh
  rw [hp]
  exact hh
 cases h1:isT [99,111,105,110,115] r with
 | true =>
  refine fin (p:=(1,r.tail)) (by simp only [unitP,h1,if_true]) ?_
  refine rO (cxPOk 1 12 [0,2,3,6,9]) Tryz.func194 ?_
  conv=>whnf
  refine cR ((has_t h h1)) [0] ?_
  conv=>whnf
  refine gT ?_
  conv=>whnf
  refine ⟨_,Wk.refl _,rfl,rfl,?_⟩
  conv=>whnf
  exact ⟨rfl,rfl,rfl,rfl⟩
 | false =>
 cases h2:isT [100,97,121,115] r with
 | true =>
  refine fin (p:=(3,r.tail)) (by simp only [unitP,h1,h2,if_true,Bool.false_eq_true,if_false]) ?_
  refine rO (cxPOk 1 12 [0,2,3,6,9]) Tryz.func194 ?_
  conv=>whnf
  refine cR ((has_f h h1)) [0] ?_
  conv=>whnf
  refine gF ?_
  conv=>whnf
  refine cR ((has_t h h2)) [0] ?_
  conv=>whnf
  refine gT ?_
  conv=>whnf
  refine ⟨_,Wk.refl _,rfl,rfl,?_⟩
  conv=>whnf
  exact ⟨rfl,rfl,rfl,rfl⟩
 | false =>
 cases h3:isT [109,105,108,108,101] r with
 | true =>
  refine fin (p:=(2,r.tail)) (by simp only [unitP,h1,h2,h3,if_true,Bool.false_eq_true,if_false]) ?_
  refine rO (cxPOk 1 12 [0,2,3,6,9]) Tryz.func194 ?_
  conv=>whnf
  refine cR ((has_f h h1)) [0] ?_
  conv=>whnf
  refine gF ?_
  conv=>whnf
  refine cR ((has_f h h2)) [0] ?_
  conv=>whnf
  refine gF ?_
  conv=>whnf
  refine cR ((has_t h h3)) [0] ?_
  conv=>whnf
  refine gT ?_
  conv=>whnf
  refine ⟨_,Wk.refl _,rfl,rfl,?_⟩
  conv=>whnf
  exact ⟨rfl,rfl,rfl,rfl⟩
 | false =>
  refine fin (p:=(0,r)) (by simp only [unitP,h1,h2,h3,Bool.false_eq_true,if_false]) ?_
  refine rO (cxPOk 1 12 [0,2,3,6,9]) Tryz.func194 ?_
  conv=>whnf
  refine cR ((has_f h h1)) [0] ?_
  conv=>whnf
  refine gF ?_
  conv=>whnf
  refine cR ((has_f h h2)) [0] ?_
  conv=>whnf
  refine gF ?_
  conv=>whnf
  refine cR ((has_f h h3)) [0] ?_
  conv=>whnf
  refine gF ?_
  conv=>whnf
  refine ⟨_,Wk.refl _,rfl,rfl,?_⟩
  conv=>whnf
  exact ⟨rfl,rfl,rfl,rfl⟩
theorem args1 (op n u:Int) (s:List UInt8) (x:Exp):AV.lsl 5 [encE x]=AV.lsl 5 (argsE (.mk op n u s [x])):=congrArg (AV.lsl 5) (argsE_eq (.mk op n u s [x])).symm
theorem args2 (op n u:Int) (s:List UInt8) (x y:Exp):AV.lsl 5 [encE x,encE y]=AV.lsl 5 (argsE (.mk op n u s [x,y])):=congrArg (AV.lsl 5) (argsE_eq (.mk op n u s [x,y])).symm
theorem args3 (op n u:Int) (s:List UInt8) (x y z:Exp):AV.lsl 5 [encE x,encE y,encE z]=AV.lsl 5 (argsE (.mk op n u s [x,y,z])):=congrArg (AV.lsl 5) (argsE_eq (.mk op n u s [x,y,z])).symm
theorem within_x {T r:List Tok} {n:Nat} {ex:Rec} (hS:RecS ex) (hX:RecX T n ex) (h:PSt T r) (hn:r.length≤n) (op:Int) :
  RX 195 [.ptr 0 0,.int .i64 op] [pobj T r] 1 (withinP ex op r) (fun v=>[encE v.1]) (fun v=>[pobj T v.2]) (fun v=>[.cells 27 (cellsE v.1)]):=by
 refine xO (cxXOk (fun ch=>∃ er,withinP ex op r=.error er∧ch=stopC er) 1 22 [0,1,4,5,6]) Tryz.func195 ?_
 conv=>whnf
 rcases e1:numP 1 1000 r with e | ⟨k,r1⟩
 ·exact CallG.stop rfl (riox_stop (rx_er (num_x h 1 1000) e1) [0] rfl rfl rfl ac0) (fun ch hc=>⟨e,by simp only [withinP,e1],hc⟩)
 refine cR (rx_ok (num_x h 1 1000) e1) [0] ?_
 conv=>whnf
 have s1:=(numP_suf e1).1
 rcases e2:wantP [40] r1 with e | r2
 ·exact CallG.stop rfl (riox_stop (rx_er (want1_x (h.to s1) [40]) e2) [0,2] rfl rfl rfl ac0) (fun ch hc=>⟨e,by simp only [withinP,e1,e2],hc⟩)
 refine cR (rx_ok (want1_x (h.to s1) [40]) e2) [0,2] ?_
 conv=>whnf
 have s2:=s1.trans (wantP_suf e2)
 rcases e3:ex 0 r2 with e | ⟨x,r3⟩
 ·exact CallG.stop rfl (riox_stop (rx_er (hX 0 r2 (by omega) (by omega) (h.to s2) (Nat.le_trans s2.le hn)) e3) [0] rfl rfl rfl ac0) (fun ch hc=>⟨e,by simp only [withinP,e1,e2,e3],hc⟩)
 refine cR (rx_ok (hX 0 r2 om0 om0 (h.to s2) (Nat.le_trans s2.le hn)) e3) [0] ?_
 conv=>whnf
 have s3:=s2.trans (hS _ _ _ _ e3)
 rcases e4:wantP [41] r3 with e | r4
 ·exact CallG.stop rfl (riox_stop (rx_er (want1_x (h.to s3) [41]) e4) [0,5] rfl rfl rfl ac0) (fun ch hc=>⟨e,by simp only [withinP,e1,e2,e3,e4],hc⟩)
 refine cR (rx_ok (want1_x (h.to s3) [41]) e4) [0,5] ?_
 conv=>whnf
 refine ⟨⟨[(4,.ptr 1 0)],[(0,.cells 132 (pcell T r4)),(1,.cells 27 (cellsE (.mk op k 0 [] [x])))],2⟩,(wk_frz [6]).trans (wk_of [(0,.id 0),(1,.id 1)] rfl ⟨wc0,trivial⟩ ⟨wb0,⟨_,rfl,.cells _ _ _ _ rfl (by repeat (first | exact .nil | refine .cons (by first | exact .base (.tree _ _ rfl rfl) | exact .base (.own _ _ rfl) | exact .base (.ptr _ _ _ rfl) | exact .base (.map _ _ rfl) | exact .base (.nilown _ rfl) | exact .fn _ _ _ _ _ .nil (by repeat (first | exact .nil | refine .cons (by exact .ptr _ _ _ rfl) ?_)) | exact .base (.tree _ _ (args1 op k 0 [] x) rfl) | exact .base (.leT _ _ (args1 op k 0 [] x) rfl)) ?_)) rfl⟩,trivial⟩),rfl,rfl,?_⟩
 conv=>whnf
 exact ⟨rfl,(.mk op k 0 [] [x],r4),by simp only [withinP,e1,e2,e3,e4],rfl,rfl,rfl⟩
theorem is_t {T r:List Tok} (h:PSt T r) {s:List UInt8} (hb:isT s r=true):APureV Tryz.prog 141 [.rop (pcell T r),.str s] (.bool true):=by
 have:=is_ok h s
 rw [hb] at this
 exact this
theorem is_f {T r:List Tok} (h:PSt T r) {s:List UInt8} (hb:isT s r=false):APureV Tryz.prog 141 [.rop (pcell T r),.str s] (.bool false):=by
 have:=is_ok h s
 rw [hb] at this
 exact this
structure NoW (r:List Tok) (k:Nat):Prop where
 kd:(hdT r).kind≠1
 w0:0<k→isT [116,114,117,101] r=false
 w1:1<k→isT [102,97,108,115,101] r=false
 w2:2<k→isT [102,97,99,116] r=false
 w3:3<k→isT [114,97,116,101] r=false
 w4:4<k→isT [101,118,101,114] r=false
 w5:5<k→isT [108,111,110,103] r=false
 w6:6<k→isT [115,111,111,110] r=false
abbrev PrX (T:List Tok) (ex:Rec) (r:List Tok):Prop:=RX 189 [.ptr 0 0] [pobj T r] 1 (primP ex r) (fun v=>[encE v.1]) (fun v=>[pobj T v.2]) (fun v=>[.cells 27 (cellsE v.1)])
abbrev PrC (r:List Tok) (s:Ps Exp):Prop:=RX 189 [.ptr 0 0] [pobj r r] 1 s (fun v=>[encE v.1]) (fun v=>[pobj r v.2]) (fun v=>[.cells 27 (cellsE v.1)])
theorem pr_of {T:List Tok} {ex:Rec} {r:List Tok} {s:Ps Exp} (e:primP ex r=s) (h:RX 189 [.ptr 0 0] [pobj T r] 1 s (fun v=>[encE v.1]) (fun v=>[pobj T v.2]) (fun v=>[.cells 27 (cellsE v.1)])):PrX T ex r:=by
 unfold PrX
 rw [e]
 exact h
theorem prim_num {T r:List Tok} (h:PSt T r) (hk:decide ((hdT r).kind=1)=true):RX 189 [.ptr 0 0] [pobj T r] 1 ((.ok (.mk 0 (hdT r).n (unitP r.tail).1 [] [],(unitP r.tail).2):Ps Exp)) (fun v=>[encE v.1]) (fun v=>[pobj T v.2]) (fun v=>[.cells 27 (cellsE v.1)]):=by
 have hx:=next_ok h
 have hat:=h.at
 have h1:=h.pos
 have h2:=h.le
 have h3:=h.big
 have hke:(hdT r).kind≠3:=by have:=of_decide_eq_true hk;omega
 have hu:=unit_x (h.tail hke)
 refine xO (cxXOk (fun ch=>∃ er,(.ok (.mk 0 (hdT r).n (unitP r.tail).1 [] [],(unitP r.tail).2):Ps Exp)=.error er∧ch=stopC er) 1 107 [0,2,3,4,5,6,7,10,26,30,34,40,46,51,56,61,69,95]) Tryz.func189 ?_
 conv=>whnf
 refine cO (fun _=>hx) ?_
 conv=>whnf
 rw [hk]
 refine gT ?_
 conv=>whnf
 refine iO ?_
 conv=>whnf
 rw [hat]
 conv=>whnf
 refine .eff ag0 ?_
 conv=>whnf
 refine cR (hu) [0] ?_
 conv=>whnf
 refine ⟨by kernel_rfl,?_⟩
 conv=>whnf
 refine ⟨⟨[(2,.ptr 1 0)],[(0,.cells 132 (pcell T (unitP r.tail).2)),(1,.cells 27 (cellsE (.mk 0 (hdT r).n (unitP r.tail).1 [] [])))],2⟩,(wk_of [(0,.id 0),(1,.id 1)] rfl ⟨wc0,trivial⟩ ⟨wb0,we0,trivial⟩),rfl,rfl,?_⟩
 conv=>whnf
 exact ⟨rfl,_,rfl,rfl,rfl,rfl⟩
theorem prim_true {T r:List Tok} (h:PSt T r) (hw:NoW r 0) (hb:isT [116,114,117,101] r=true):RX 189 [.ptr 0 0] [pobj T r] 1 ((.ok (.mk 0 1 4 [] [],r.tail):Ps Exp)) (fun v=>[encE v.1]) (fun v=>[pobj T v.2]) (fun v=>[.cells 27 (cellsE v.1)]):=by
 have hx:=next_ok h
 have hk:decide ((hdT r).kind=1)=false:=decide_eq_false hw.kd
 refine xO (cxXOk (fun ch=>∃ er,(.ok (.mk 0 1 4 [] [],r.tail):Ps Exp)=.error er∧ch=stopC er) 1 107 [0,2,3,4,5,6,7,10,26,30,34,40,46,51,56,61,69,95]) Tryz.func189 ?_
 conv=>whnf
 refine cO (fun _=>hx) ?_
 conv=>whnf
 rw [hk]
 refine gF ?_
 conv=>whnf
 refine cR ((has_t h hb)) [0] ?_
 conv=>whnf
 refine gT ?_
 conv=>whnf
 refine ⟨⟨[(2,.ptr 1 0)],[(0,.cells 132 (pcell T r.tail)),(1,.cells 27 (cellsE (.mk 0 1 4 [] [])))],2⟩,(wk_of [(0,.id 0),(1,.id 1)] rfl ⟨wc0,trivial⟩ ⟨wb0,we0,trivial⟩),rfl,rfl,?_⟩
 conv=>whnf
 exact ⟨rfl,_,rfl,rfl,rfl,rfl⟩
theorem prim_false {T r:List Tok} (h:PSt T r) (hw:NoW r 1) (hb:isT [102,97,108,115,101] r=true):RX 189 [.ptr 0 0] [pobj T r] 1 ((.ok (.mk 0 0 4 [] [],r.tail):Ps Exp)) (fun v=>[encE v.1]) (fun v=>[pobj T v.2]) (fun v=>[.cells 27 (cellsE v.1)]):=by
 have hx:=next_ok h
 have hk:decide ((hdT r).kind=1)=false:=decide_eq_false hw.kd
 refine xO (cxXOk (fun ch=>∃ er,(.ok (.mk 0 0 4 [] [],r.tail):Ps Exp)=.error er∧ch=stopC er) 1 107 [0,2,3,4,5,6,7,10,26,30,34,40,46,51,56,61,69,95]) Tryz.func189 ?_
 conv=>whnf
 refine cO (fun _=>hx) ?_
 conv=>whnf
 rw [hk]
 refine gF ?_
 conv=>whnf
 refine cR ((has_f h (hw.w0 om0))) [0] ?_
 conv=>whnf
 refine gF ?_
 conv=>whnf
 refine cR ((has_t h hb)) [0] ?_
 conv=>whnf
 refine gT ?_
 conv=>whnf
 refine ⟨⟨[(2,.ptr 1 0)],[(0,.cells 132 (pcell T r.tail)),(1,.cells 27 (cellsE (.mk 0 0 4 [] [])))],2⟩,(wk_of [(0,.id 0),(1,.id 1)] rfl ⟨wc0,trivial⟩ ⟨wb0,we0,trivial⟩),rfl,rfl,?_⟩
 conv=>whnf
 exact ⟨rfl,_,rfl,rfl,rfl,rfl⟩
theorem prim_fact {T r:List Tok} (h:PSt T r) (hw:NoW r 2) (hb:isT [102,97,99,116] r=true):RX 189 [.ptr 0 0] [pobj T r] 1 (namedP 2 r.tail) (fun v=>[encE v.1]) (fun v=>[pobj T v.2]) (fun v=>[.cells 27 (cellsE v.1)]):=by
 have hx:=next_ok h
 have hk:decide ((hdT r).kind=1)=false:=decide_eq_false hw.kd
 refine xO (cxXOk (fun ch=>∃ er,namedP 2 r.tail=.error er∧ch=stopC er) 1 107 [0,2,3,4,5,6,7,10,26,30,34,40,46,51,56,61,69,95]) Tryz.func189 ?_
 conv=>whnf
 refine cO (fun _=>hx) ?_
 conv=>whnf
 rw [hk]
 refine gF ?_
 conv=>whnf
 refine cR ((has_f h (hw.w0 om0))) [0] ?_
 conv=>whnf
 refine gF ?_
 conv=>whnf
 refine cR ((has_f h (hw.w1 om0))) [0] ?_
 conv=>whnf
 refine gF ?_
 conv=>whnf
 refine cR ((has_t h hb)) [0] ?_
 conv=>whnf
 refine gT ?_
 conv=>whnf
 rcases e1:nameP r.tail with e | ⟨s,r1⟩
 ·exact CallG.stop rfl (riox_stop (rx_er (name_x (h.tail (isT_kind hb))) e1) [0] rfl rfl rfl ac0) (fun ch hc=>⟨e,by simp only [namedP,e1],hc⟩)
 refine cR (rx_ok (name_x (h.tail (isT_kind hb))) e1) [0] ?_
 conv=>whnf
 refine ⟨⟨[(2,.ptr 1 0)],[(0,.cells 132 (pcell T r1)),(1,.cells 27 (cellsE (.mk 2 0 0 s [])))],2⟩,(wk_of [(0,.id 0),(1,.id 1)] rfl ⟨wc0,trivial⟩ ⟨wb0,we0,trivial⟩),rfl,rfl,?_⟩
 conv=>whnf
 exact ⟨rfl,(.mk 2 0 0 s [],r1),by simp only [namedP,e1],rfl,rfl,rfl⟩
theorem prim_rate {T r:List Tok} (h:PSt T r) (hw:NoW r 3) (hb:isT [114,97,116,101] r=true):RX 189 [.ptr 0 0] [pobj T r] 1 (namedP 3 r.tail) (fun v=>[encE v.1]) (fun v=>[pobj T v.2]) (fun v=>[.cells 27 (cellsE v.1)]):=by
 have hx:=next_ok h
 have hk:decide ((hdT r).kind=1)=false:=decide_eq_false hw.kd
 refine xO (cxXOk (fun ch=>∃ er,namedP 3 r.tail=.error er∧ch=stopC er) 1 107 [0,2,3,4,5,6,7,10,26,30,34,40,46,51,56,61,69,95]) Tryz.func189 ?_
 conv=>whnf
 refine cO (fun _=>hx) ?_
 conv=>whnf
 rw [hk]
 refine gF ?_
 conv=>whnf
 refine cR ((has_f h (hw.w0 om0))) [0] ?_
 conv=>whnf
 refine gF ?_
 conv=>whnf
 refine cR ((has_f h (hw.w1 om0))) [0] ?_
 conv=>whnf
 refine gF ?_
 conv=>whnf
 refine cR ((has_f h (hw.w2 om0))) [0] ?_
 conv=>whnf
 refine gF ?_
 conv=>whnf
 refine cR ((has_t h hb)) [0] ?_
 conv=>whnf
 refine gT ?_
 conv=>whnf
 rcases e1:nameP r.tail with e | ⟨s,r1⟩
 ·exact CallG.stop rfl (riox_stop (rx_er (name_x (h.tail (isT_kind hb))) e1) [0] rfl rfl rfl ac0) (fun ch hc=>⟨e,by simp only [namedP,e1],hc⟩)
 refine cR (rx_ok (name_x (h.tail (isT_kind hb))) e1) [0] ?_
 conv=>whnf
 refine ⟨⟨[(2,.ptr 1 0)],[(0,.cells 132 (pcell T r1)),(1,.cells 27 (cellsE (.mk 3 0 0 s [])))],2⟩,(wk_of [(0,.id 0),(1,.id 1)] rfl ⟨wc0,trivial⟩ ⟨wb0,we0,trivial⟩),rfl,rfl,?_⟩
 conv=>whnf
 exact ⟨rfl,(.mk 3 0 0 s [],r1),by simp only [namedP,e1],rfl,rfl,rfl⟩
theorem prim_ever {T r:List Tok} (h:PSt T r) {n:Nat} {ex:Rec} (hS:RecS ex) (hX:RecX T n ex) (hn:r.tail.length≤n) (hw:NoW r 4) (hb:isT [101,118,101,114] r=true):RX 189 [.ptr 0 0] [pobj T r] 1 (withinP ex 16 r.tail) (fun v=>[encE v.1]) (fun v=>[pobj T v.2]) (fun v=>[.cells 27 (cellsE v.1)]):=by
 have hx:=next_ok h
 have hk:decide ((hdT r).kind=1)=false:=decide_eq_false hw.kd
 refine xO (cxXOk (fun ch=>∃ er,withinP ex 16 r.tail=.error er∧ch=stopC er) 1 107 [0,2,3,4,5,6,7,10,26,30,34,40,46,51,56,61,69,95]) Tryz.func189 ?_
 conv=>whnf
 refine cO (fun _=>hx) ?_
 conv=>whnf
 rw [hk]
 refine gF ?_
 conv=>whnf
 refine cR ((has_f h (hw.w0 om0))) [0] ?_
 conv=>whnf
 refine gF ?_
 conv=>whnf
 refine cR ((has_f h (hw.w1 om0))) [0] ?_
 conv=>whnf
 refine gF ?_
 conv=>whnf
 refine cR ((has_f h (hw.w2 om0))) [0] ?_
 conv=>whnf
 refine gF ?_
 conv=>whnf
 refine cR ((has_f h (hw.w3 om0))) [0] ?_
 conv=>whnf
 refine gF ?_
 conv=>whnf
 refine cR ((has_t h hb)) [0] ?_
 conv=>whnf
 refine gT ?_
 conv=>whnf
 rcases e1:withinP ex 16 r.tail with e | ⟨x,r1⟩
 ·exact CallG.stop rfl (riox_stop (rx_er (within_x hS hX (h.tail (isT_kind hb)) hn 16) e1) [0] rfl rfl rfl ac0) (fun ch hc=>⟨e,by simp only [Except.error.injEq,e1],hc⟩)
 refine cR (rx_ok (within_x hS hX (h.tail (isT_kind hb)) hn 16) e1) [0] ?_
 conv=>whnf
 refine ⟨⟨[(2,.ptr 1 0)],[(0,.cells 132 (pcell T r1)),(1,.cells 27 (cellsE x))],2⟩,(wk_of [(0,.id 0),(1,.id 1)] rfl ⟨wc0,trivial⟩ ⟨wb0,wb0,trivial⟩),rfl,rfl,?_⟩
 conv=>whnf
 exact ⟨rfl,(x,r1),rfl,rfl,rfl,rfl⟩
theorem prim_long {T r:List Tok} (h:PSt T r) {n:Nat} {ex:Rec} (hS:RecS ex) (hX:RecX T n ex) (hn:r.tail.length≤n) (hw:NoW r 5) (hb:isT [108,111,110,103] r=true):RX 189 [.ptr 0 0] [pobj T r] 1 (withinP ex 17 r.tail) (fun v=>[encE v.1]) (fun v=>[pobj T v.2]) (fun v=>[.cells 27 (cellsE v.1)]):=by
 have hx:=next_ok h
 have hk:decide ((hdT r).kind=1)=false:=decide_eq_false hw.kd
 refine xO (cxXOk (fun ch=>∃ er,withinP ex 17 r.tail=.error er∧ch=stopC er) 1 107 [0,2,3,4,5,6,7,10,26,30,34,40,46,51,56,61,69,95]) Tryz.func189 ?_
 conv=>whnf
 refine cO (fun _=>hx) ?_
 conv=>whnf
 rw [hk]
 refine gF ?_
 conv=>whnf
 refine cR ((has_f h (hw.w0 om0))) [0] ?_
 conv=>whnf
 refine gF ?_
 conv=>whnf
 refine cR ((has_f h (hw.w1 om0))) [0] ?_
 conv=>whnf
 refine gF ?_
 conv=>whnf
 refine cR ((has_f h (hw.w2 om0))) [0] ?_
 conv=>whnf
 refine gF ?_
 conv=>whnf
 refine cR ((has_f h (hw.w3 om0))) [0] ?_
 conv=>whnf
 refine gF ?_
 conv=>whnf
 refine cR ((has_f h (hw.w4 om0))) [0] ?_
 conv=>whnf
 refine gF ?_
 conv=>whnf
 refine cR ((has_t h hb)) [0] ?_
 conv=>whnf
 refine gT ?_
 conv=>whnf
 rcases e1:withinP ex 17 r.tail with e | ⟨x,r1⟩
 ·exact CallG.stop rfl (riox_stop (rx_er (within_x hS hX (h.tail (isT_kind hb)) hn 17) e1) [0] rfl rfl rfl ac0) (fun ch hc=>⟨e,by simp only [Except.error.injEq,e1],hc⟩)
 refine cR (rx_ok (within_x hS hX (h.tail (isT_kind hb)) hn 17) e1) [0] ?_
 conv=>whnf
 refine ⟨⟨[(2,.ptr 1 0)],[(0,.cells 132 (pcell T r1)),(1,.cells 27 (cellsE x))],2⟩,(wk_of [(0,.id 0),(1,.id 1)] rfl ⟨wc0,trivial⟩ ⟨wb0,wb0,trivial⟩),rfl,rfl,?_⟩
 conv=>whnf
 exact ⟨rfl,(x,r1),rfl,rfl,rfl,rfl⟩
theorem prim_soon {T r:List Tok} (h:PSt T r) {n:Nat} {ex:Rec} (hS:RecS ex) (hX:RecX T n ex) (hn:r.tail.length≤n) (hw:NoW r 6) (hb:isT [115,111,111,110] r=true):RX 189 [.ptr 0 0] [pobj T r] 1 (withinP ex 18 r.tail) (fun v=>[encE v.1]) (fun v=>[pobj T v.2]) (fun v=>[.cells 27 (cellsE v.1)]):=by
 have hx:=next_ok h
 have hk:decide ((hdT r).kind=1)=false:=decide_eq_false hw.kd
 refine xO (cxXOk (fun ch=>∃ er,withinP ex 18 r.tail=.error er∧ch=stopC er) 1 107 [0,2,3,4,5,6,7,10,26,30,34,40,46,51,56,61,69,95]) Tryz.func189 ?_
 conv=>whnf
 refine cO (fun _=>hx) ?_
 conv=>whnf
 rw [hk]
 refine gF ?_
 conv=>whnf
 refine cR ((has_f h (hw.w0 om0))) [0] ?_
 conv=>whnf
 refine gF ?_
 conv=>whnf
 refine cR ((has_f h (hw.w1 om0))) [0] ?_
 conv=>whnf
 refine gF ?_
 conv=>whnf
 refine cR ((has_f h (hw.w2 om0))) [0] ?_
 conv=>whnf
 refine gF ?_
 conv=>whnf
 refine cR ((has_f h (hw.w3 om0))) [0] ?_
 conv=>whnf
 refine gF ?_
 conv=>whnf
 refine cR ((has_f h (hw.w4 om0))) [0] ?_
 conv=>whnf
 refine gF ?_
 conv=>whnf
 refine cR ((has_f h (hw.w5 om0))) [0] ?_
 conv=>whnf
 refine gF ?_
 conv=>whnf
 refine cR ((has_t h hb)) [0] ?_
 conv=>whnf
 refine gT ?_
 conv=>whnf
 rcases e1:withinP ex 18 r.tail with e | ⟨x,r1⟩
 ·exact CallG.stop rfl (riox_stop (rx_er (within_x hS hX (h.tail (isT_kind hb)) hn 18) e1) [0] rfl rfl rfl ac0) (fun ch hc=>⟨e,by simp only [Except.error.injEq,e1],hc⟩)
 refine cR (rx_ok (within_x hS hX (h.tail (isT_kind hb)) hn 18) e1) [0] ?_
 conv=>whnf
 refine ⟨⟨[(2,.ptr 1 0)],[(0,.cells 132 (pcell T r1)),(1,.cells 27 (cellsE x))],2⟩,(wk_of [(0,.id 0),(1,.id 1)] rfl ⟨wc0,trivial⟩ ⟨wb0,wb0,trivial⟩),rfl,rfl,?_⟩
 conv=>whnf
 exact ⟨rfl,(x,r1),rfl,rfl,rfl,rfl⟩
theorem prim_min {T r:List Tok} (h:PSt T r) {n:Nat} {ex:Rec} (hS:RecS ex) (hX:RecX T n ex) (hn:r.tail.length≤n) (hw:NoW r 7) (hb:isT [109,105,110] r=true) (hbx:isT [109,97,120] r=false):RX 189 [.ptr 0 0] [pobj T r] 1 (pairP ex 8 r.tail) (fun v=>[encE v.1]) (fun v=>[pobj T v.2]) (fun v=>[.cells 27 (cellsE v.1)]):=by
 have hat:=h.at
 have h1:=h.pos
 have h2:=h.le
 have h3:=h.big
 have hx:=next_ok h
 have hk:decide ((hdT r).kind=1)=false:=decide_eq_false hw.kd
 refine xO (cxXOk (fun ch=>∃ er,pairP ex 8 r.tail=.error er∧ch=stopC er) 1 107 [0,2,3,4,5,6,7,10,26,30,34,40,46,51,56,61,69,95]) Tryz.func189 ?_
 conv=>whnf
 refine cO (fun _=>hx) ?_
 conv=>whnf
 rw [hk]
 refine gF ?_
 conv=>whnf
 refine cR ((has_f h (hw.w0 om0))) [0] ?_
 conv=>whnf
 refine gF ?_
 conv=>whnf
 refine cR ((has_f h (hw.w1 om0))) [0] ?_
 conv=>whnf
 refine gF ?_
 conv=>whnf
 refine cR ((has_f h (hw.w2 om0))) [0] ?_
 conv=>whnf
 refine gF ?_
 conv=>whnf
 refine cR ((has_f h (hw.w3 om0))) [0] ?_
 conv=>whnf
 refine gF ?_
 conv=>whnf
 refine cR ((has_f h (hw.w4 om0))) [0] ?_
 conv=>whnf
 refine gF ?_
 conv=>whnf
 refine cR ((has_f h (hw.w5 om0))) [0] ?_
 conv=>whnf
 refine gF ?_
 conv=>whnf
 refine cR ((has_f h (hw.w6 om0))) [0] ?_
 conv=>whnf
 refine gF ?_
 conv=>whnf
 refine cO (fun _=>(is_t h hb)) ?_
 conv=>whnf
 refine cF [.rop (pcell T r),.str [109,97,120]] [.val (.bool false)] ?_
 conv=>whnf
 refine gT ?_
 conv=>whnf
 refine cO (fun _=>(is_f h hbx)) ?_
 conv=>whnf
 refine gF ?_
 conv=>whnf
 refine iO ?_
 conv=>whnf
 rw [hat]
 conv=>whnf
 have q0:=h.tail (isT_kind hb)
 rcases e1:wantP [40] r.tail with e | r1
 ·exact CallG.stop rfl (riox_stop (rx_er (want1_x q0 [40]) e1) [0,3] rfl rfl rfl ac0) (fun ch hc=>⟨e,by simp only [pairP,e1],hc⟩)
 refine cR (rx_ok (want1_x q0 [40]) e1) [0,3] ?_
 conv=>whnf
 have s1:=wantP_suf e1
 rcases e2:ex 0 r1 with e | ⟨x,r2⟩
 ·exact CallG.stop rfl (riox_stop (rx_er (hX 0 r1 (by omega) (by omega) (q0.to s1) (Nat.le_trans s1.le hn)) e2) [0] rfl rfl rfl ac0) (fun ch hc=>⟨e,by simp only [pairP,e1,e2],hc⟩)
 refine cR (rx_ok (hX 0 r1 om0 om0 (q0.to s1) (Nat.le_trans s1.le hn)) e2) [0] ?_
 conv=>whnf
 have s2:=s1.trans (hS _ _ _ _ e2)
 rcases e3:wantP [44] r2 with e | r3
 ·exact CallG.stop rfl (riox_stop (rx_er (want1_x (q0.to s2) [44]) e3) [0,6] rfl rfl rfl ac0) (fun ch hc=>⟨e,by simp only [pairP,e1,e2,e3],hc⟩)
 refine cR (rx_ok (want1_x (q0.to s2) [44]) e3) [0,6] ?_
 conv=>whnf
 have s3:=s2.trans (wantP_suf e3)
 rcases e4:ex 0 r3 with e | ⟨y,r4⟩
 ·exact CallG.stop rfl (riox_stop (rx_er (hX 0 r3 (by omega) (by omega) (q0.to s3) (Nat.le_trans s3.le hn)) e4) [0] rfl rfl rfl ac0) (fun ch hc=>⟨e,by simp only [pairP,e1,e2,e3,e4],hc⟩)
 refine cR (rx_ok (hX 0 r3 om0 om0 (q0.to s3) (Nat.le_trans s3.le hn)) e4) [0] ?_
 conv=>whnf
 have s4:=s3.trans (hS _ _ _ _ e4)
 rcases e5:wantP [41] r4 with e | r5
 ·exact CallG.stop rfl (riox_stop (rx_er (want1_x (q0.to s4) [41]) e5) [0,9] rfl rfl rfl ac0) (fun ch hc=>⟨e,by simp only [pairP,e1,e2,e3,e4,e5],hc⟩)
 refine cR (rx_ok (want1_x (q0.to s4) [41]) e5) [0,9] ?_
 conv=>whnf
 refine ⟨⟨[(2,.ptr 1 0)],[(0,.cells 132 (pcell T r5)),(1,.cells 27 (cellsE (.mk 8 0 0 [] [x,y])))],2⟩,(wk_frz [10]).trans (wk_of [(0,.id 0),(1,.id 1)] rfl ⟨wc0,trivial⟩ ⟨wb0,⟨_,rfl,.cells _ _ _ _ rfl (by repeat (first | exact .nil | refine .cons (by first | exact .base (.tree _ _ rfl rfl) | exact .base (.own _ _ rfl) | exact .base (.ptr _ _ _ rfl) | exact .base (.map _ _ rfl) | exact .base (.nilown _ rfl) | exact .fn _ _ _ _ _ .nil (by repeat (first | exact .nil | refine .cons (by exact .ptr _ _ _ rfl) ?_)) | exact .base (.tree _ _ (args2 8 0 0 [] x y) rfl) | exact .base (.leT _ _ (args2 8 0 0 [] x y) rfl)) ?_)) rfl⟩,trivial⟩),rfl,rfl,?_⟩
 conv=>whnf
 exact ⟨rfl,(.mk 8 0 0 [] [x,y],r5),by simp only [pairP,e1,e2,e3,e4,e5],rfl,rfl,rfl⟩
theorem prim_max {T r:List Tok} (h:PSt T r) {n:Nat} {ex:Rec} (hS:RecS ex) (hX:RecX T n ex) (hn:r.tail.length≤n) (hw:NoW r 7) (hbi:isT [109,105,110] r=false) (hb:isT [109,97,120] r=true):RX 189 [.ptr 0 0] [pobj T r] 1 (pairP ex 9 r.tail) (fun v=>[encE v.1]) (fun v=>[pobj T v.2]) (fun v=>[.cells 27 (cellsE v.1)]):=by
 have hat:=h.at
 have h1:=h.pos
 have h2:=h.le
 have h3:=h.big
 have hx:=next_ok h
 have hk:decide ((hdT r).kind=1)=false:=decide_eq_false hw.kd
 refine xO (cxXOk (fun ch=>∃ er,pairP ex 9 r.tail=.error er∧ch=stopC er) 1 107 [0,2,3,4,5,6,7,10,26,30,34,40,46,51,56,61,69,95]) Tryz.func189 ?_
 conv=>whnf
 refine cO (fun _=>hx) ?_
 conv=>whnf
 rw [hk]
 refine gF ?_
 conv=>whnf
 refine cR ((has_f h (hw.w0 om0))) [0] ?_
 conv=>whnf
 refine gF ?_
 conv=>whnf
 refine cR ((has_f h (hw.w1 om0))) [0] ?_
 conv=>whnf
 refine gF ?_
 conv=>whnf
 refine cR ((has_f h (hw.w2 om0))) [0] ?_
 conv=>whnf
 refine gF ?_
 conv=>whnf
 refine cR ((has_f h (hw.w3 om0))) [0] ?_
 conv=>whnf
 refine gF ?_
 conv=>whnf
 refine cR ((has_f h (hw.w4 om0))) [0] ?_
 conv=>whnf
 refine gF ?_
 conv=>whnf
 refine cR ((has_f h (hw.w5 om0))) [0] ?_
 conv=>whnf
 refine gF ?_
 conv=>whnf
 refine cR ((has_f h (hw.w6 om0))) [0] ?_
 conv=>whnf
 refine gF ?_
 conv=>whnf
 refine cO (fun _=>(is_f h hbi)) ?_
 conv=>whnf
 refine cO (fun _=>(is_t h hb)) ?_
 conv=>whnf
 refine gT ?_
 conv=>whnf
 refine cO (fun _=>(is_t h hb)) ?_
 conv=>whnf
 refine gT ?_
 conv=>whnf
 refine iO ?_
 conv=>whnf
 rw [hat]
 conv=>whnf
 have q0:=h.tail (isT_kind hb)
 rcases e1:wantP [40] r.tail with e | r1
 ·exact CallG.stop rfl (riox_stop (rx_er (want1_x q0 [40]) e1) [0,3] rfl rfl rfl ac0) (fun ch hc=>⟨e,by simp only [pairP,e1],hc⟩)
 refine cR (rx_ok (want1_x q0 [40]) e1) [0,3] ?_
 conv=>whnf
 have s1:=wantP_suf e1
 rcases e2:ex 0 r1 with e | ⟨x,r2⟩
 ·exact CallG.stop rfl (riox_stop (rx_er (hX 0 r1 (by omega) (by omega) (q0.to s1) (Nat.le_trans s1.le hn)) e2) [0] rfl rfl rfl ac0) (fun ch hc=>⟨e,by simp only [pairP,e1,e2],hc⟩)
 refine cR (rx_ok (hX 0 r1 om0 om0 (q0.to s1) (Nat.le_trans s1.le hn)) e2) [0] ?_
 conv=>whnf
 have s2:=s1.trans (hS _ _ _ _ e2)
 rcases e3:wantP [44] r2 with e | r3
 ·exact CallG.stop rfl (riox_stop (rx_er (want1_x (q0.to s2) [44]) e3) [0,6] rfl rfl rfl ac0) (fun ch hc=>⟨e,by simp only [pairP,e1,e2,e3],hc⟩)
 refine cR (rx_ok (want1_x (q0.to s2) [44]) e3) [0,6] ?_
 conv=>whnf
 have s3:=s2.trans (wantP_suf e3)
 rcases e4:ex 0 r3 with e | ⟨y,r4⟩
 ·exact CallG.stop rfl (riox_stop (rx_er (hX 0 r3 (by omega) (by omega) (q0.to s3) (Nat.le_trans s3.le hn)) e4) [0] rfl rfl rfl ac0) (fun ch hc=>⟨e,by simp only [pairP,e1,e2,e3,e4],hc⟩)
 refine cR (rx_ok (hX 0 r3 om0 om0 (q0.to s3) (Nat.le_trans s3.le hn)) e4) [0] ?_
 conv=>whnf
 have s4:=s3.trans (hS _ _ _ _ e4)
 rcases e5:wantP [41] r4 with e | r5
 ·exact CallG.stop rfl (riox_stop (rx_er (want1_x (q0.to s4) [41]) e5) [0,9] rfl rfl rfl ac0) (fun ch hc=>⟨e,by simp only [pairP,e1,e2,e3,e4,e5],hc⟩)
 refine cR (rx_ok (want1_x (q0.to s4) [41]) e5) [0,9] ?_
 conv=>whnf
 refine ⟨⟨[(2,.ptr 1 0)],[(0,.cells 132 (pcell T r5)),(1,.cells 27 (cellsE (.mk 9 0 0 [] [x,y])))],2⟩,(wk_frz [10]).trans (wk_of [(0,.id 0),(1,.id 1)] rfl ⟨wc0,trivial⟩ ⟨wb0,⟨_,rfl,.cells _ _ _ _ rfl (by repeat (first | exact .nil | refine .cons (by first | exact .base (.tree _ _ rfl rfl) | exact .base (.own _ _ rfl) | exact .base (.ptr _ _ _ rfl) | exact .base (.map _ _ rfl) | exact .base (.nilown _ rfl) | exact .fn _ _ _ _ _ .nil (by repeat (first | exact .nil | refine .cons (by exact .ptr _ _ _ rfl) ?_)) | exact .base (.tree _ _ (args2 9 0 0 [] x y) rfl) | exact .base (.leT _ _ (args2 9 0 0 [] x y) rfl)) ?_)) rfl⟩,trivial⟩),rfl,rfl,?_⟩
 conv=>whnf
 exact ⟨rfl,(.mk 9 0 0 [] [x,y],r5),by simp only [pairP,e1,e2,e3,e4,e5],rfl,rfl,rfl⟩
theorem prim_paren {T r:List Tok} (h:PSt T r) {n:Nat} {ex:Rec} (hS:RecS ex) (hX:RecX T n ex) (hn:r.tail.length≤n) (hw:NoW r 7) (hbi:isT [109,105,110] r=false) (hbx:isT [109,97,120] r=false) (hb:isT [40] r=true):RX 189 [.ptr 0 0] [pobj T r] 1 (parenP ex r.tail) (fun v=>[encE v.1]) (fun v=>[pobj T v.2]) (fun v=>[.cells 27 (cellsE v.1)]):=by
 have hx:=next_ok h
 have hk:decide ((hdT r).kind=1)=false:=decide_eq_false hw.kd
 refine xO (cxXOk (fun ch=>∃ er,parenP ex r.tail=.error er∧ch=stopC er) 1 107 [0,2,3,4,5,6,7,10,26,30,34,40,46,51,56,61,69,95]) Tryz.func189 ?_
 conv=>whnf
 refine cO (fun _=>hx) ?_
 conv=>whnf
 rw [hk]
 refine gF ?_
 conv=>whnf
 refine cR ((has_f h (hw.w0 om0))) [0] ?_
 conv=>whnf
 refine gF ?_
 conv=>whnf
 refine cR ((has_f h (hw.w1 om0))) [0] ?_
 conv=>whnf
 refine gF ?_
 conv=>whnf
 refine cR ((has_f h (hw.w2 om0))) [0] ?_
 conv=>whnf
 refine gF ?_
 conv=>whnf
 refine cR ((has_f h (hw.w3 om0))) [0] ?_
 conv=>whnf
 refine gF ?_
 conv=>whnf
 refine cR ((has_f h (hw.w4 om0))) [0] ?_
 conv=>whnf
 refine gF ?_
 conv=>whnf
 refine cR ((has_f h (hw.w5 om0))) [0] ?_
 conv=>whnf
 refine gF ?_
 conv=>whnf
 refine cR ((has_f h (hw.w6 om0))) [0] ?_
 conv=>whnf
 refine gF ?_
 conv=>whnf
 refine cO (fun _=>(is_f h hbi)) ?_
 conv=>whnf
 refine cO (fun _=>(is_f h hbx)) ?_
 conv=>whnf
 refine gF ?_
 conv=>whnf
 have q0:=h.tail (isT_kind hb)
 refine cR ((has_t h hb)) [0] ?_
 conv=>whnf
 refine gT ?_
 conv=>whnf
 rcases e1:ex 0 r.tail with e | ⟨x,r1⟩
 ·exact CallG.stop rfl (riox_stop (rx_er (hX 0 r.tail (by omega) (by omega) q0 hn) e1) [0] rfl rfl rfl ac0) (fun ch hc=>⟨e,by simp only [parenP,e1],hc⟩)
 refine cR (rx_ok (hX 0 r.tail om0 om0 q0 hn) e1) [0] ?_
 conv=>whnf
 have s1:=hS _ _ _ _ e1
 rcases e2:wantP [41] r1 with e | r2
 ·exact CallG.stop rfl (riox_stop (rx_er (want1_x (q0.to s1) [41]) e2) [0,5] rfl rfl rfl ac0) (fun ch hc=>⟨e,by simp only [parenP,e1,e2],hc⟩)
 refine cR (rx_ok (want1_x (q0.to s1) [41]) e2) [0,5] ?_
 conv=>whnf
 refine ⟨⟨[(2,.ptr 1 0)],[(0,.cells 132 (pcell T r2)),(1,.cells 27 (cellsE x))],2⟩,(wk_of [(0,.id 0),(1,.id 1)] rfl ⟨wc0,trivial⟩ ⟨wb0,wb0,trivial⟩),rfl,rfl,?_⟩
 conv=>whnf
 exact ⟨rfl,(x,r2),by simp only [parenP,e1,e2],rfl,rfl,rfl⟩
theorem prim_name {T r:List Tok} (h:PSt T r) (hw:NoW r 7) (hbi:isT [109,105,110] r=false) (hbx:isT [109,97,120] r=false) (hb:isT [40] r=false):RX 189 [.ptr 0 0] [pobj T r] 1 (namedP 1 r) (fun v=>[encE v.1]) (fun v=>[pobj T v.2]) (fun v=>[.cells 27 (cellsE v.1)]):=by
 have hx:=next_ok h
 have hk:decide ((hdT r).kind=1)=false:=decide_eq_false hw.kd
 refine xO (cxXOk (fun ch=>∃ er,namedP 1 r=.error er∧ch=stopC er) 1 107 [0,2,3,4,5,6,7,10,26,30,34,40,46,51,56,61,69,95]) Tryz.func189 ?_
 conv=>whnf
 refine cO (fun _=>hx) ?_
 conv=>whnf
 rw [hk]
 refine gF ?_
 conv=>whnf
 refine cR ((has_f h (hw.w0 om0))) [0] ?_
 conv=>whnf
 refine gF ?_
 conv=>whnf
 refine cR ((has_f h (hw.w1 om0))) [0] ?_
 conv=>whnf
 refine gF ?_
 conv=>whnf
 refine cR ((has_f h (hw.w2 om0))) [0] ?_
 conv=>whnf
 refine gF ?_
 conv=>whnf
 refine cR ((has_f h (hw.w3 om0))) [0] ?_
 conv=>whnf
 refine gF ?_
 conv=>whnf
 refine cR ((has_f h (hw.w4 om0))) [0] ?_
 conv=>whnf
 refine gF ?_
 conv=>whnf
 refine cR ((has_f h (hw.w5 om0))) [0] ?_
 conv=>whnf
 refine gF ?_
 conv=>whnf
 refine cR ((has_f h (hw.w6 om0))) [0] ?_
 conv=>whnf
 refine gF ?_
 conv=>whnf
 refine cO (fun _=>(is_f h hbi)) ?_
 conv=>whnf
 refine cO (fun _=>(is_f h hbx)) ?_
 conv=>whnf
 refine gF ?_
 conv=>whnf
 refine cR ((has_f h hb)) [0] ?_
 conv=>whnf
 refine gF ?_
 conv=>whnf
 rcases e1:nameP r with e | ⟨s,r1⟩
 ·exact CallG.stop rfl (riox_stop (rx_er (name_x h) e1) [0] rfl rfl rfl ac0) (fun ch hc=>⟨e,by simp only [namedP,e1],hc⟩)
 refine cR (rx_ok (name_x h) e1) [0] ?_
 conv=>whnf
 refine ⟨⟨[(2,.ptr 1 0)],[(0,.cells 132 (pcell T r1)),(1,.cells 27 (cellsE (.mk 1 0 0 s [])))],2⟩,(wk_of [(0,.id 0),(1,.id 1)] rfl ⟨wc0,trivial⟩ ⟨wb0,we0,trivial⟩),rfl,rfl,?_⟩
 conv=>whnf
 exact ⟨rfl,(.mk 1 0 0 s [],r1),by simp only [namedP,e1],rfl,rfl,rfl⟩
theorem prim_x {T r:List Tok} {n:Nat} {ex:Rec} (hS:RecS ex) (hX:RecX T n ex) (h:PSt T r) (hn:r.length≤n+1):PrX T ex r:=by
 have hlt:=tail_lt h.fin
 have hn':r.tail.length≤n:=by omega
 by_cases hk:(hdT r).kind=1
 ·exact pr_of (by simp only [primP,hk,if_true]) (prim_num h (decide_eq_true hk))
 cases b0:isT [116,114,117,101] r with
 | true=>exact pr_of (by simp only [primP,if_neg hk,b0,if_true]) (prim_true h ⟨hk,by omega,by omega,by omega,by omega,by omega,by omega,by omega⟩ b0)
 | false =>
 cases b1:isT [102,97,108,115,101] r with
 | true=>exact pr_of (by simp only [primP,if_neg hk,b0,b1,Bool.false_eq_true,if_false,if_true]) (prim_false h ⟨hk,fun _=>b0,by omega,by omega,by omega,by omega,by omega,by omega⟩ b1)
 | false =>
 cases b2:isT [102,97,99,116] r with
 | true=>exact pr_of (by simp only [primP,if_neg hk,b0,b1,b2,Bool.false_eq_true,if_false,if_true]) (prim_fact h ⟨hk,fun _=>b0,fun _=>b1,by omega,by omega,by omega,by omega,by omega⟩ b2)
 | false =>
 cases b3:isT [114,97,116,101] r with
 | true=>exact pr_of (by simp only [primP,if_neg hk,b0,b1,b2,b3,Bool.false_eq_true,if_false,if_true]) (prim_rate h ⟨hk,fun _=>b0,fun _=>b1,fun _=>b2,by omega,by omega,by omega,by omega⟩ b3)
 | false =>
 cases b4:isT [101,118,101,114] r with
 | true=>exact pr_of (by simp only [primP,if_neg hk,b0,b1,b2,b3,b4,Bool.false_eq_true,if_false,if_true]) (prim_ever h hS hX hn' ⟨hk,fun _=>b0,fun _=>b1,fun _=>b2,fun _=>b3,by omega,by omega,by omega⟩ b4)
 | false =>
 cases b5:isT [108,111,110,103] r with
 | true=>exact pr_of (by simp only [primP,if_neg hk,b0,b1,b2,b3,b4,b5,Bool.false_eq_true,if_false,if_true]) (prim_long h hS hX hn' ⟨hk,fun _=>b0,fun _=>b1,fun _=>b2,fun _=>b3,fun _=>b4,by omega,by omega⟩ b5)
 | false =>
 cases b6:isT [115,111,111,110] r with
 | true=>exact pr_of (by simp only [primP,if_neg hk,b0,b1,b2,b3,b4,b5,b6,Bool.false_eq_true,if_false,if_true]) (prim_soon h hS hX hn' ⟨hk,fun _=>b0,fun _=>b1,fun _=>b2,fun _=>b3,fun _=>b4,fun _=>b5,by omega⟩ b6)
 | false =>
 have hw:NoW r 7:=⟨hk,fun _=>b0,fun _=>b1,fun _=>b2,fun _=>b3,fun _=>b4,fun _=>b5,fun _=>b6⟩
 cases b7:isT [109,105,110] r with
 | true =>
  have bx:isT [109,97,120] r=false:=by
   unfold isT at b7 ⊢
   simp only [Bool.and_eq_true,decide_eq_true_eq] at b7
   rw [b7.2]
   simp
  exact pr_of (by simp only [primP,if_neg hk,b0,b1,b2,b3,b4,b5,b6,b7,bx,Bool.false_eq_true,if_false,if_true,true_or]) (prim_min h hS hX hn' hw b7 bx)
 | false =>
 cases b8:isT [109,97,120] r with
 | true=>exact pr_of (by simp only [primP,if_neg hk,b0,b1,b2,b3,b4,b5,b6,b7,b8,Bool.false_eq_true,if_false,if_true,or_true]) (prim_max h hS hX hn' hw b7 b8)
 | false =>
 cases b9:isT [40] r with
 | true=>exact pr_of (by simp only [primP,if_neg hk,b0,b1,b2,b3,b4,b5,b6,b7,b8,b9,Bool.false_eq_true,if_false,if_true,or_self]) (prim_paren h hS hX hn' hw b7 b8 b9)
 | false=>exact pr_of (by simp only [primP,if_neg hk,b0,b1,b2,b3,b4,b5,b6,b7,b8,b9,Bool.false_eq_true,if_false,or_self]) (prim_name h hw b7 b8 b9)
theorem withinP_suf {ex:Rec} (hS:RecS ex) {op:Int} {r r':List Tok} {x:Exp} (h:withinP ex op r=.ok (x,r')):Suf r r':=by
 unfold withinP at h
 split at h
 ·cases h
 ·rename_i _ _ e1
  split at h
  ·cases h
  ·rename_i _ _ e2
   split at h
   ·cases h
   ·rename_i _ _ e3
    split at h
    ·cases h
    ·rename_i _ e4
     cases h
     exact (((numP_suf e1).1.trans (wantP_suf e2)).trans (hS _ _ _ _ e3)).trans (wantP_suf e4)
theorem pairP_suf {ex:Rec} (hS:RecS ex) {op:Int} {r r':List Tok} {x:Exp} (h:pairP ex op r=.ok (x,r')):Suf r r':=by
 unfold pairP at h
 split at h
 ·cases h
 ·rename_i _ e1
  split at h
  ·cases h
  ·rename_i _ _ e2
   split at h
   ·cases h
   ·rename_i _ e3
    split at h
    ·cases h
    ·rename_i _ _ e4
     split at h
     ·cases h
     ·rename_i _ e5
      cases h
      exact ((((wantP_suf e1).trans (hS _ _ _ _ e2)).trans (wantP_suf e3)).trans (hS _ _ _ _ e4)).trans (wantP_suf e5)
theorem namedP_suf {op:Int} {r r':List Tok} {x:Exp} (h:namedP op r=.ok (x,r')):Suf r r':=by
 unfold namedP at h
 split at h
 ·cases h
 ·rename_i _ _ e1
  cases h
  exact nameP_suf e1
theorem parenP_suf {ex:Rec} (hS:RecS ex) {r r':List Tok} {x:Exp} (h:parenP ex r=.ok (x,r')):Suf r r':=by
 unfold parenP at h
 split at h
 ·cases h
 ·rename_i _ _ e1
  split at h
  ·cases h
  ·rename_i _ e2
   cases h
   exact (hS _ _ _ _ e1).trans (wantP_suf e2)
theorem primP_suf {ex:Rec} (hS:RecS ex) {r r':List Tok} {x:Exp} (h:primP ex r=.ok (x,r')):Suf r r':=by
 unfold primP at h
 split at h
 ·rename_i hk
  cases h
  exact (Suf.tail om0).trans (unitP_suf _)
 split at h
 ·rename_i hk;cases h;exact .tail (isT_kind hk)
 split at h
 ·rename_i hk;cases h;exact .tail (isT_kind hk)
 split at h
 ·rename_i hk;exact (Suf.tail (isT_kind hk)).trans (namedP_suf h)
 split at h
 ·rename_i hk;exact (Suf.tail (isT_kind hk)).trans (namedP_suf h)
 split at h
 ·rename_i hk;exact (Suf.tail (isT_kind hk)).trans (withinP_suf hS h)
 split at h
 ·rename_i hk;exact (Suf.tail (isT_kind hk)).trans (withinP_suf hS h)
 split at h
 ·rename_i hk;exact (Suf.tail (isT_kind hk)).trans (withinP_suf hS h)
 split at h
 ·rename_i hk;exact (Suf.tail (hk.elim isT_kind isT_kind)).trans (pairP_suf hS h)
 split at h
 ·rename_i hk;exact (Suf.tail (isT_kind hk)).trans (parenP_suf hS h)
 exact namedP_suf h
theorem ifP_suf {ex:Rec} (hS:RecS ex) {r r':List Tok} {x:Exp} (h:ifP ex r=.ok (x,r')):Suf r r':=by
 unfold ifP at h
 split at h
 ·cases h
 ·rename_i _ _ e1
  split at h
  ·cases h
  ·rename_i _ e2
   split at h
   ·cases h
   ·rename_i _ _ e3
    split at h
    ·cases h
    ·rename_i _ e4
     split at h
     ·cases h
     ·rename_i _ _ e5
      cases h
      exact ((((hS _ _ _ _ e1).trans (wantP_suf e2)).trans (hS _ _ _ _ e3)).trans (wantP_suf e4)).trans (hS _ _ _ _ e5)
theorem notP_suf {ex:Rec} (hS:RecS ex) {r r':List Tok} {x:Exp} (h:notP ex r=.ok (x,r')):Suf r r':=by
 unfold notP at h
 split at h
 ·cases h
 ·rename_i _ _ e1
  cases h
  exact hS _ _ _ _ e1
theorem prefP_suf {ex:Rec} (hS:RecS ex) {form:Int} {r r':List Tok} {x:Exp} {o:Int} (h:prefP ex form r=.ok ((x,o),r')):Suf r r'∧0≤o∧o≤7:=by
 unfold prefP at h
 split at h
 ·rename_i hk
  split at h
  ·cases h
  ·rename_i e1
   cases h
   exact ⟨(Suf.tail (isT_kind hk.2)).trans (ifP_suf hS e1),by omega,by omega⟩
 split at h
 ·rename_i hk
  split at h
  ·cases h
  ·rename_i e1
   cases h
   exact ⟨(Suf.tail (isT_kind hk.2)).trans (notP_suf hS e1),by omega,by omega⟩
 split at h
 ·cases h
 ·rename_i e1
  cases h
  exact ⟨primP_suf hS e1,by omega,by omega⟩
theorem idxP_lt {X:Type} (p:X→Bool) (d:X):∀ l:List X,idxP p l<0∨((idxP p l).toNat<l.length∧p (l.getD (idxP p l).toNat d)=true)
 | []=>.inl (by simp [idxP])
 | x::l=>by
  cases hx:p x with
  | true=>exact .inr ⟨by simp [idxP,hx],by simp [idxP,hx]⟩
  | false =>
   rcases idxP_lt p d l with h | ⟨h1,h2⟩
   ·exact .inl (by simp [idxP,hx,h])
   ·by_cases hneg:idxP p l<0
    ·exact .inl (by simp [idxP,hx,hneg])
    ·have e:idxP p (x::l)=idxP p l+1:=by simp [idxP,hx,hneg]
     have e':(idxP p l+1).toNat=(idxP p l).toNat+1:=by omega
     rw [e,e']
     exact .inr ⟨by simpa using h1,by simpa using h2⟩
theorem opI_ok {r:List Tok} (h:¬ opI r<0):(opI r).toNat<oprL.length∧isT (opAt (opI r)).text r=true:=by
 rcases idxP_lt (fun o:Opr=>isT o.text r) o0 oprL with h' | h'
 ·exact (h h').elim
 ·exact h'
theorem form_bnd {i:Nat} (h:i<oprL.length):1≤(oprL.getD i o0).form∧(oprL.getD i o0).form≤6:=by
 have:∀ i,i<8→1≤(oprL.getD i o0).form∧(oprL.getD i o0).form≤6:=by decide
 exact this i h
theorem loopP_suf {ex:Rec} (hS:RecS ex) {form:Int}:∀ (f:Nat) (e:Exp) (own:Int) (r:List Tok) (x:Exp) (r':List Tok),loopP ex form f e own r=.ok (x,r')→Suf r r'
 | 0,e,own,r,x,r',h=>by cases h;exact .refl _
 | f+1,e,own,r,x,r',h=>by
  unfold loopP at h
  split at h
  ·cases h;exact .refl _
  ·rename_i hn
   dsimp only at h
   split at h
   ·cases h;exact .refl _
   ·split at h
    ·cases h
    ·rename_i _ _ e1
     exact ((Suf.tail (isT_kind (opI_ok hn).2)).trans (hS _ _ _ _ e1)).trans (loopP_suf hS f _ _ _ _ _ h)
theorem expS_suf {ex:Rec} (hS:RecS ex):RecS (expS ex):=by
 intro form r x r' h
 unfold expS at h
 split at h
 ·cases h
 ·rename_i _ _ _ e1
  exact (prefP_suf hS e1).1.trans (loopP_suf hS _ _ _ _ _ _ h)
theorem expP_suf:∀ n:Nat,RecS (expP n)
 | 0=>fun form r x r' h=>by cases h
 | n+1=>expS_suf (expP_suf n)
theorem loopP_fuel {ex:Rec} (hS:RecS ex) {form:Int}:∀ (f f':Nat) (e:Exp) (own:Int) (r:List Tok),Fin1 r→r.length≤f→r.length≤f'→loopP ex form f e own r=loopP ex form f' e own r
 | 0,f',e,own,r,h,h1,h2=>by have:=List.length_pos_iff.2 h.ne;omega
 | f+1,0,e,own,r,h,h1,h2=>by have:=List.length_pos_iff.2 h.ne;omega
 | f+1,f'+1,e,own,r,h,h1,h2=>by
  unfold loopP
  split
  ·rfl
  ·rename_i hn
   dsimp only
   split
   ·rfl
   ·split
    ·rfl
    ·rename_i y r' e1
     have hs:=(Suf.tail (isT_kind (opI_ok hn).2)).trans (hS _ _ _ _ e1)
     have hl:=(hS _ _ _ _ e1).le
     have ht:=tail_lt h
     exact loopP_fuel hS f f' _ _ _ (hs.2 h) om0 om0
abbrev PfX (T:List Tok) (form:Int) (r:List Tok) (s:Except Er ((Exp×Int)×List Tok)):Prop :=
 RX 172 [.ptr 0 0,.int .i64 form] [pobj T r] 1 s (fun v=>[encE v.1.1,.int .i64 v.1.2]) (fun v=>[pobj T v.2]) (fun v=>[.cells 27 (cellsE v.1.1)])
def wrapP (o:Int) (s:Ps Exp):Except Er ((Exp×Int)×List Tok):=match s with
 | .error e=>.error e
 | .ok (x,r)=>.ok ((x,o),r)
theorem pref_if {T r:List Tok} (h:PSt T r) {n:Nat} {ex:Rec} (hS:RecS ex) (hX:RecX T n ex) (hn:r.tail.length≤n) {form:Int} (hf:decide (form=0)=true) (hb:isT [105,102] r=true):PfX T form r (wrapP 0 (ifP ex r.tail)):=by
 have q0:=h.tail (isT_kind hb)
 refine xO (cxXOk (fun ch=>∃ er,wrapP 0 (ifP ex r.tail)=.error er∧ch=stopC er) 1 42 [0,1,4,5,6,7,13,35]) Tryz.func172 ?_
 conv=>whnf
 rw [hf]
 refine cR ((has_t h hb)) [0] ?_
 conv=>whnf
 refine gT ?_
 conv=>whnf
 rcases e1:ex 0 r.tail with e | ⟨x,r1⟩
 ·exact CallG.stop rfl (riox_stop (rx_er (hX 0 r.tail (by omega) (by omega) q0 hn) e1) [0] rfl rfl rfl ac0) (fun ch hc=>⟨e,by simp only [wrapP,ifP,e1],hc⟩)
 refine cR (rx_ok (hX 0 r.tail om0 om0 q0 hn) e1) [0] ?_
 conv=>whnf
 have s1:=hS _ _ _ _ e1
 rcases e2:wantP [116,104,101,110] r1 with e | r2
 ·exact CallG.stop rfl (riox_stop (rx_er (want1_x (q0.to s1) [116,104,101,110]) e2) [0,4] rfl rfl rfl ac0) (fun ch hc=>⟨e,by simp only [wrapP,ifP,e1,e2],hc⟩)
 refine cR (rx_ok (want1_x (q0.to s1) [116,104,101,110]) e2) [0,4] ?_
 conv=>whnf
 have s2:=s1.trans (wantP_suf e2)
 rcases e3:ex 0 r2 with e | ⟨y,r3⟩
 ·exact CallG.stop rfl (riox_stop (rx_er (hX 0 r2 (by omega) (by omega) (q0.to s2) (Nat.le_trans s2.le hn)) e3) [0] rfl rfl rfl ac0) (fun ch hc=>⟨e,by simp only [wrapP,ifP,e1,e2,e3],hc⟩)
 refine cR (rx_ok (hX 0 r2 om0 om0 (q0.to s2) (Nat.le_trans s2.le hn)) e3) [0] ?_
 conv=>whnf
 have s3:=s2.trans (hS _ _ _ _ e3)
 rcases e4:wantP [101,108,115,101] r3 with e | r4
 ·exact CallG.stop rfl (riox_stop (rx_er (want1_x (q0.to s3) [101,108,115,101]) e4) [0,7] rfl rfl rfl ac0) (fun ch hc=>⟨e,by simp only [wrapP,ifP,e1,e2,e3,e4],hc⟩)
 refine cR (rx_ok (want1_x (q0.to s3) [101,108,115,101]) e4) [0,7] ?_
 conv=>whnf
 have s4:=s3.trans (wantP_suf e4)
 rcases e5:ex 0 r4 with e | ⟨z,r5⟩
 ·refine DrawG.effp ag0 3 ?_
  conv=>whnf
  exact .mk [0] _ (riox_stop ((rx_er (hX 0 r4 (by omega) (by omega) (q0.to s4) (Nat.le_trans s4.le hn)) e5)) [0] rfl rfl rfl ac0) ((fun ch hc=>⟨e,by simp only [wrapP,ifP,e1,e2,e3,e4,e5],hc⟩)) ⟨by kernel_rfl,by kernel_rfl⟩
 refine .eff ag0 ?_
 conv=>whnf
 refine cR ((rx_ok (hX 0 r4 om0 om0 (q0.to s4) (Nat.le_trans s4.le hn)) e5)) [0] ?_
 conv=>whnf
 refine ⟨by kernel_rfl,?_⟩
 conv=>whnf
 conv=>whnf
 refine ⟨⟨[(4,.ptr 1 0),(5,.int .i64 0)],[(0,.cells 132 (pcell T r5)),(1,.cells 27 (cellsE (.mk 15 0 0 [] [x,y,z])))],2⟩,(wk_frz [9]).trans (wk_of [(0,.id 0),(1,.id 1)] rfl ⟨wc0,wa0,trivial⟩ ⟨wb0,⟨_,rfl,.cells _ _ _ _ rfl (by repeat (first | exact .nil | refine .cons (by first | exact .base (.tree _ _ rfl rfl) | exact .base (.own _ _ rfl) | exact .base (.ptr _ _ _ rfl) | exact .base (.map _ _ rfl) | exact .base (.nilown _ rfl) | exact .fn _ _ _ _ _ .nil (by repeat (first | exact .nil | refine .cons (by exact .ptr _ _ _ rfl) ?_)) | exact .base (.tree _ _ (args3 15 0 0 [] x y z) rfl) | exact .base (.leT _ _ (args3 15 0 0 [] x y z) rfl)) ?_)) rfl⟩,trivial⟩),rfl,rfl,?_⟩
 conv=>whnf
 exact ⟨rfl,((.mk 15 0 0 [] [x,y,z],0),r5),by simp only [wrapP,ifP,e1,e2,e3,e4,e5],rfl,rfl,rfl⟩
theorem pref_not {T r:List Tok} (h:PSt T r) {n:Nat} {ex:Rec} (hS:RecS ex) (hX:RecX T n ex) (hn:r.tail.length≤n) {form:Int} (hf:(decide (form=0)&&isT [105,102] r)=false) (hg:decide (form≤3)=true) (hb:isT [110,111,116] r=true):PfX T form r (wrapP 3 (notP ex r.tail)):=by
 have q0:=h.tail (isT_kind hb)
 cases hb0:decide (form=0) with
 | true =>
  have hi:isT [105,102] r=false:=by simpa [hb0] using hf
  refine xO (cxXOk (fun ch=>∃ er,wrapP 3 (notP ex r.tail)=.error er∧ch=stopC er) 1 42 [0,1,4,5,6,7,13,35]) Tryz.func172 ?_
  conv=>whnf
  rw [hb0]
  refine cR ((has_f h hi)) [0] ?_
  conv=>whnf
  refine gF ?_
  conv=>whnf
  rw [hg]
  refine cR ((has_t h hb)) [0] ?_
  conv=>whnf
  refine gT ?_
  conv=>whnf
  rcases e1:ex 3 r.tail with e | ⟨x,r1⟩
  ·exact CallG.stop rfl (riox_stop (rx_er (hX 3 r.tail (by omega) (by omega) q0 hn) e1) [0] rfl rfl rfl ac0) (fun ch hc=>⟨e,by simp only [wrapP,notP,e1],hc⟩)
  refine cR (rx_ok (hX 3 r.tail om0 om0 q0 hn) e1) [0] ?_
  conv=>whnf
  refine ⟨⟨[(4,.ptr 1 0),(5,.int .i64 3)],[(0,.cells 132 (pcell T r1)),(1,.cells 27 (cellsE (.mk 12 0 0 [] [x])))],2⟩,(wk_frz [3]).trans (wk_of [(0,.id 0),(1,.id 1)] rfl ⟨wc0,wa0,trivial⟩ ⟨wb0,⟨_,rfl,.cells _ _ _ _ rfl (by repeat (first | exact .nil | refine .cons (by first | exact .base (.tree _ _ rfl rfl) | exact .base (.own _ _ rfl) | exact .base (.ptr _ _ _ rfl) | exact .base (.map _ _ rfl) | exact .base (.nilown _ rfl) | exact .fn _ _ _ _ _ .nil (by repeat (first | exact .nil | refine .cons (by exact .ptr _ _ _ rfl) ?_)) | exact .base (.tree _ _ (args1 12 0 0 [] x) rfl) | exact .base (.leT _ _ (args1 12 0 0 [] x) rfl)) ?_)) rfl⟩,trivial⟩),rfl,rfl,?_⟩
  conv=>whnf
  exact ⟨rfl,((.mk 12 0 0 [] [x],3),r1),by simp only [wrapP,notP,e1],rfl,rfl,rfl⟩
 | false =>
  refine xO (cxXOk (fun ch=>∃ er,wrapP 3 (notP ex r.tail)=.error er∧ch=stopC er) 1 42 [0,1,4,5,6,7,13,35]) Tryz.func172 ?_
  conv=>whnf
  rw [hb0]
  refine cF [.rop (pcell T r),.str [105,102]] [.val (.bool false)] ?_
  conv=>whnf
  refine gF ?_
  conv=>whnf
  rw [hg]
  refine cR ((has_t h hb)) [0] ?_
  conv=>whnf
  refine gT ?_
  conv=>whnf
  rcases e1:ex 3 r.tail with e | ⟨x,r1⟩
  ·exact CallG.stop rfl (riox_stop (rx_er (hX 3 r.tail (by omega) (by omega) q0 hn) e1) [0] rfl rfl rfl ac0) (fun ch hc=>⟨e,by simp only [wrapP,notP,e1],hc⟩)
  refine cR (rx_ok (hX 3 r.tail om0 om0 q0 hn) e1) [0] ?_
  conv=>whnf
  refine ⟨⟨[(4,.ptr 1 0),(5,.int .i64 3)],[(0,.cells 132 (pcell T r1)),(1,.cells 27 (cellsE (.mk 12 0 0 [] [x])))],2⟩,(wk_frz [3]).trans (wk_of [(0,.id 0),(1,.id 1)] rfl ⟨wc0,wa0,trivial⟩ ⟨wb0,⟨_,rfl,.cells _ _ _ _ rfl (by repeat (first | exact .nil | refine .cons (by first | exact .base (.tree _ _ rfl rfl) | exact .base (.own _ _ rfl) | exact .base (.ptr _ _ _ rfl) | exact .base (.map _ _ rfl) | exact .base (.nilown _ rfl) | exact .fn _ _ _ _ _ .nil (by repeat (first | exact .nil | refine .cons (by exact .ptr _ _ _ rfl) ?_)) | exact .base (.tree _ _ (args1 12 0 0 [] x) rfl) | exact .base (.leT _ _ (args1 12 0 0 [] x) rfl)) ?_)) rfl⟩,trivial⟩),rfl,rfl,?_⟩
  conv=>whnf
  exact ⟨rfl,((.mk 12 0 0 [] [x],3),r1),by simp only [wrapP,notP,e1],rfl,rfl,rfl⟩
theorem pref_prim {T r:List Tok} (h:PSt T r) {n:Nat} {ex:Rec} (hS:RecS ex) (hX:RecX T n ex) (hn:r.length≤n+1) {form:Int} (hf:(decide (form=0)&&isT [105,102] r)=false) (hg:(decide (form≤3)&&isT [110,111,116] r)=false):PfX T form r (wrapP 7 (primP ex r)):=by
 cases hb0:decide (form=0) with
 | true =>
  have hi:isT [105,102] r=false:=by simpa [hb0] using hf
  have hg3:decide (form≤3)=true:=by have:=of_decide_eq_true hb0;exact decide_eq_true (by omega)
  have hb:isT [110,111,116] r=false:=by simpa [hg3] using hg
  refine xO (cxXOk (fun ch=>∃ er,wrapP 7 (primP ex r)=.error er∧ch=stopC er) 1 42 [0,1,4,5,6,7,13,35]) Tryz.func172 ?_
  conv=>whnf
  rw [hb0]
  refine cR ((has_f h hi)) [0] ?_
  conv=>whnf
  refine gF ?_
  conv=>whnf
  rw [hg3]
  refine cR ((has_f h hb)) [0] ?_
  conv=>whnf
  refine gF ?_
  conv=>whnf
  rcases e1:primP ex r with e | ⟨x,r1⟩
  ·exact CallG.stop rfl (riox_stop (rx_er (prim_x hS hX h hn) e1) [0] rfl rfl rfl ac0) (fun ch hc=>⟨e,by simp only [wrapP,e1],hc⟩)
  refine cR (rx_ok (prim_x hS hX h hn) e1) [0] ?_
  conv=>whnf
  refine ⟨⟨[(4,.ptr 1 0),(5,.int .i64 7)],[(0,.cells 132 (pcell T r1)),(1,.cells 27 (cellsE x))],2⟩,(wk_of [(0,.id 0),(1,.id 1)] rfl ⟨wc0,wa0,trivial⟩ ⟨wb0,wb0,trivial⟩),rfl,rfl,?_⟩
  conv=>whnf
  exact ⟨rfl,((x,7),r1),by simp only [wrapP],rfl,rfl,rfl⟩
 | false =>
  cases hg3:decide (form≤3) with
  | true =>
   have hb:isT [110,111,116] r=false:=by simpa [hg3] using hg
   refine xO (cxXOk (fun ch=>∃ er,wrapP 7 (primP ex r)=.error er∧ch=stopC er) 1 42 [0,1,4,5,6,7,13,35]) Tryz.func172 ?_
   conv=>whnf
   rw [hb0]
   refine cF [.rop (pcell T r),.str [105,102]] [.val (.bool false)] ?_
   conv=>whnf
   refine gF ?_
   conv=>whnf
   rw [hg3]
   refine cR ((has_f h hb)) [0] ?_
   conv=>whnf
   refine gF ?_
   conv=>whnf
   rcases e1:primP ex r with e | ⟨x,r1⟩
   ·exact CallG.stop rfl (riox_stop (rx_er (prim_x hS hX h hn) e1) [0] rfl rfl rfl ac0) (fun ch hc=>⟨e,by simp only [wrapP,e1],hc⟩)
   refine cR (rx_ok (prim_x hS hX h hn) e1) [0] ?_
   conv=>whnf
   refine ⟨⟨[(4,.ptr 1 0),(5,.int .i64 7)],[(0,.cells 132 (pcell T r1)),(1,.cells 27 (cellsE x))],2⟩,(wk_of [(0,.id 0),(1,.id 1)] rfl ⟨wc0,wa0,trivial⟩ ⟨wb0,wb0,trivial⟩),rfl,rfl,?_⟩
   conv=>whnf
   exact ⟨rfl,((x,7),r1),by simp only [wrapP],rfl,rfl,rfl⟩
  | false =>
   refine xO (cxXOk (fun ch=>∃ er,wrapP 7 (primP ex r)=.error er∧ch=stopC er) 1 42 [0,1,4,5,6,7,13,35]) Tryz.func172 ?_
   conv=>whnf
   rw [hb0]
   refine cF [.rop (pcell T r),.str [105,102]] [.val (.bool false)] ?_
   conv=>whnf
   refine gF ?_
   conv=>whnf
   rw [hg3]
   refine cF [.rop (pcell T r),.str [110,111,116]] [.val (.bool false)] ?_
   conv=>whnf
   refine gF ?_
   conv=>whnf
   rcases e1:primP ex r with e | ⟨x,r1⟩
   ·exact CallG.stop rfl (riox_stop (rx_er (prim_x hS hX h hn) e1) [0] rfl rfl rfl ac0) (fun ch hc=>⟨e,by simp only [wrapP,e1],hc⟩)
   refine cR (rx_ok (prim_x hS hX h hn) e1) [0] ?_
   conv=>whnf
   refine ⟨⟨[(4,.ptr 1 0),(5,.int .i64 7)],[(0,.cells 132 (pcell T r1)),(1,.cells 27 (cellsE x))],2⟩,(wk_of [(0,.id 0),(1,.id 1)] rfl ⟨wc0,wa0,trivial⟩ ⟨wb0,wb0,trivial⟩),rfl,rfl,?_⟩
   conv=>whnf
   exact ⟨rfl,((x,7),r1),by simp only [wrapP],rfl,rfl,rfl⟩
theorem prefP_eq (ex:Rec) (form:Int) (r:List Tok):prefP ex form r=if (decide (form=0)&&isT [105,102] r)=true then wrapP 0 (ifP ex r.tail) else if (decide (form≤3)&&isT [110,111,116] r)=true then wrapP 3 (notP ex r.tail) else wrapP 7 (primP ex r):=by
 unfold prefP
 simp only [Bool.and_eq_true,decide_eq_true_eq]
 split
 ·try (cases ifP ex r.tail<;>rfl)
 split
 ·try (cases notP ex r.tail<;>rfl)
 ·try (cases primP ex r<;>rfl)
theorem pref_x {T r:List Tok} (h:PSt T r) {n:Nat} {ex:Rec} (hS:RecS ex) (hX:RecX T n ex) (hn:r.length≤n+1) (form:Int):PfX T form r (prefP ex form r):=by
 have hlt:=tail_lt h.fin
 have hn':r.tail.length≤n:=by omega
 rw [prefP_eq]
 cases h1:(decide (form=0)&&isT [105,102] r) with
 | true =>
  have h1':=h1
  simp only [Bool.and_eq_true] at h1'
  exact pref_if h hS hX hn' h1'.1 h1'.2
 | false =>
  cases h2:(decide (form≤3)&&isT [110,111,116] r) with
  | true =>
   have h2':=h2
   simp only [Bool.and_eq_true] at h2'
   exact pref_not h hS hX hn' h1 h2'.1 h2'.2
  | false=>exact pref_prim h hS hX hn h1 h2
theorem clo_ok {T r:List Tok} (h:PSt T r) (o:Opr):APureV Tryz.prog 173 [encO o,.rop [.rop (pcell T r)]] (.bool (isT o.text r)):=by
 have hi:=is_ok h o.text
 refine aO (cxOk 8 [0,1,2,3]) Tryz.func173 ?_
 conv=>whnf
 refine cO (fun _=>hi) ?_
 conv=>whnf
 rfl
theorem find_ok {T r:List Tok} (h:PSt T r):APureV Tryz.prog 90 [.sl 3 encO o0 oprL,.fn (.func 173) [] [.rop [.rop (pcell T r)]]] (.int .i64 (opI r)) :=
 idxO_ok oprL 173 [.rop (pcell T r)] (fun o=>isT o.text r) (fun o _=>clo_ok h o) (by decide) rfl
theorem loopP_step {ex:Rec} {form:Int} {f:Nat} {e:Exp} {own:Int} {r:List Tok} (h:¬ opI r<0) (hc:¬ ((opAt (opI r)).form<form∨own<(opAt (opI r)).form∨own=4∧(opAt (opI r)).form=4)) :
  loopP ex form (f+1) e own r=match ex ((opAt (opI r)).form+1) r.tail with
    | .error e=>.error e
    | .ok (y,r')=>loopP ex form f (.mk (opAt (opI r)).op 0 0 [] [e,y]) (opAt (opI r)).form r':=by
 rw [loopP,if_neg h]
 dsimp only
 rw [if_neg hc]
 try (cases ex ((opAt (opI r)).form+1) r.tail<;>rfl)
theorem loopP_none {ex:Rec} {form:Int} {f:Nat} {e:Exp} {own:Int} {r:List Tok} (h:opI r<0):loopP ex form (f+1) e own r=.ok (e,r):=by
 rw [loopP,if_pos h]
theorem loopP_stop {ex:Rec} {form:Int} {f:Nat} {e:Exp} {own:Int} {r:List Tok} (h:¬ opI r<0) (hc:(opAt (opI r)).form<form∨own<(opAt (opI r)).form∨own=4∧(opAt (opI r)).form=4):loopP ex form (f+1) e own r=.ok (e,r):=by
 rw [loopP,if_neg h]
 dsimp only
 rw [if_pos hc]
theorem exp_x {T:List Tok} {n:Nat} {ex:Rec} (hS:RecS ex) (hX:RecX T n ex):RecX T (n+1) (expS ex):=by
 intro form r hf0 hf7 h hn
 refine xO (cxXOk (fun ch=>∃ er,expS ex form r=.error er∧ch=stopC er) 1 64 [0,1,2,4,5,6,7,8,19,43]) Tryz.func143 ?_
 conv=>whnf
 rcases e1:prefP ex form r with e | ⟨⟨x0,o0'⟩,r0⟩
 ·exact CallG.stop rfl (riox_stop (rx_er (pref_x h hS hX hn form) e1) [0] rfl rfl rfl ac0) (fun ch hc=>⟨e,by simp only [expS,e1],hc⟩)
 refine cR (rx_ok (pref_x h hS hX hn form) e1) [0] ?_
 conv=>whnf
 obtain ⟨s0,ho0,ho7⟩:=prefP_suf hS e1
 have hx0:expS ex form r=loopP ex form r0.length x0 o0' r0:=by simp only [expS,e1]
 refine loop_inv (cxXOk _ _ _ _) (fun s:(Exp×Int)×List Tok=>PSt T s.2∧s.2.length≤n+1∧(0≤s.1.2∧s.1.2≤7)∧expS ex form r=loopP ex form s.2.length s.1.1 s.1.2 s.2) (fun s=>s.2.length) (fun s=>⟨[(1,.int .i64 form),(2,.ptr 1 0),(4,.ptr 2 0),(5,.ptr 3 0),(6,.int .i64 (s.1.2))],[(0,.cells 132 (pcell T (s.2))),(1,.cells 90 [.ptr 0 0]),(2,.cells 27 [.int .i64 0,.int .i64 0,.int .i64 0,.str [],.nils]),(3,.cells 27 (cellsE (s.1.1)))],4⟩) ((x0,o0'),r0) ⟨h.to s0,Nat.le_trans s0.le hn,⟨ho0,ho7⟩,hx0⟩ ((wk_of [(0,.id 0),(1,.id 1),(2,.id 2),(3,.id 4)] rfl ⟨wa0,wc0,wc0,wc0,wa0,trivial⟩ ⟨wb0,wb0,wb0,wb0,trivial⟩)) ?_
 rintro ⟨⟨e,own⟩,q⟩ ⟨hq,hqn,⟨hw0,hw7⟩,hsp⟩
 dsimp only at hq hqn hw0 hw7 hsp ⊢
 have hio:=find_ok hq
 have hqp:=hq.pos
 conv=>whnf
 refine cO (fun _=>opr_ok) ?_
 conv=>whnf
 refine .one _ _ _ (fun _=>hio) (.cons (lS rfl) (.cons (.fn _ _ _ _ _ _ _ .nil (.cons (.box 1 0 90 [.ptr 0 0] [.rop (pcell T q)] [0] rfl (.cons (t:=[0]) (t':=[]) (.box 0 0 132 (pcell T q) (pcell T q) [] rfl (.cons (t:=[]) (t':=[]) (Bor.same _ rfl) (.cons (t:=[]) (t':=[]) (Bor.same _ rfl) .nil)) (allOne_spec rfl)) .nil) (allOne_spec rfl)) .nil)) .nil)) (.inr fun r hr=>(by rcases List.mem_singleton.1 hr with rfl;rfl)) (.inl rfl) ?_
 conv=>whnf
 obtain ⟨f,hqf⟩:∃ f,q.length=f+1:=⟨q.length-1,by omega⟩
 rw [hqf] at hsp
 refine ⟨fun h0=>?_,fun h0=>?_⟩
 ·have h0:=of_decide_eq_true h0
  conv=>whnf
  refine ⟨⟨[(4,.ptr 1 0)],[(0,.cells 132 (pcell T q)),(1,.cells 27 (cellsE e))],2⟩,(wk_of [(0,.id 0),(1,.id 2)] rfl ⟨wc0,trivial⟩ ⟨wb0,wb0,trivial⟩),rfl,rfl,?_⟩
  conv=>whnf
  exact ⟨rfl,(e,q),by rw [hsp,loopP_none h0],rfl,rfl,rfl⟩
 have h0:=of_decide_eq_false h0
 obtain ⟨hlt,hop⟩:=opI_ok h0
 obtain ⟨hx1,hx6⟩:=form_bnd hlt
 have hge:0≤opI q:=by omega
 have hlt':opI q<8:=by have:oprL.length=8:=rfl;omega
 have hoa:opAt (opI q)=oprL.getD (opI q).toNat o0:=rfl
 rw [← hoa] at hx1 hx6
 conv=>whnf
 refine cO (fun _=>opr_ok) ?_
 conv=>whnf
 refine iO ?_;conv=>whnf
 refine And.intro rfl ?_;conv=>whnf
 rw [← hoa]
 have hdec:(decide ((opAt (opI q)).form<form)||decide (own<(opAt (opI q)).form)||decide (own=4)&&decide ((opAt (opI q)).form=4))=decide ((opAt (opI q)).form<form∨own<(opAt (opI q)).form∨own=4∧(opAt (opI q)).form=4):=by
  simp only [Bool.decide_or,Bool.decide_and,Bool.or_assoc]
 rw [hdec]
 refine ⟨fun hc=>?_,fun hc=>?_⟩
 ·have hc:=of_decide_eq_true hc
  conv=>whnf
  refine ⟨⟨[(4,.ptr 1 0)],[(0,.cells 132 (pcell T q)),(1,.cells 27 (cellsE e))],2⟩,(wk_of [(0,.id 0),(1,.id 2)] rfl ⟨wc0,trivial⟩ ⟨wb0,wb0,trivial⟩),rfl,rfl,?_⟩
  conv=>whnf
  exact ⟨rfl,(e,q),by rw [hsp,loopP_stop h0 hc],rfl,rfl,rfl⟩
 have hc:=of_decide_eq_false hc
 rw [loopP_step h0 hc] at hsp
 have hat:=hq.at
 have hqle:=hq.le
 have hbig:=hq.big
 have qt:=hq.tail (isT_kind hop)
 have htl:=tail_lt hq.fin
 conv=>whnf
 refine iO ?_
 conv=>whnf
 rw [hat]
 conv=>whnf
 rcases e2:ex ((opAt (opI q)).form+1) q.tail with er | ⟨y,q2⟩
 ·rw [e2] at hsp
  refine DrawG.effp ag0 7 ?_
  conv=>whnf
  refine iO ?_
  conv=>whnf
  exact .mk [0] _ (riox_stop ((rx_er (hX _ q.tail om0 om0 qt om0) e2)) [0] rfl rfl rfl ac0) ((fun ch hc=>⟨er,hsp,hc⟩)) ⟨by kernel_rfl,by kernel_rfl⟩
 rw [e2] at hsp
 refine .eff ag0 ?_
 conv=>whnf
 refine iO ?_
 conv=>whnf
 refine cR ((rx_ok (hX _ q.tail om0 om0 qt om0) e2)) [0] ?_
 conv=>whnf
 refine ⟨by kernel_rfl,?_⟩
 conv=>whnf
 conv=>whnf
 have hq2:=qt.to (hS _ _ _ _ e2)
 have hl2:=(hS _ _ _ _ e2).le
 exact ⟨((.mk (opAt (opI q)).op 0 0 [] [e,y],(opAt (opI q)).form),q2),⟨hq2,(by show q2.length≤n+1;omega),⟨(by show 0≤(opAt (opI q)).form;omega),(by show (opAt (opI q)).form≤7;omega)⟩,(by rw [hsp];exact loopP_fuel hS _ _ _ _ _ hq2.fin (by omega) (Nat.le_refl _))⟩,(by show q2.length<q.length;omega),(wk_frz [6]).trans (wk_of [(0,.id 0),(1,.id 1),(2,.id 2),(3,.id 3)] rfl ⟨wa0,wc0,wc0,wc0,wa0,trivial⟩ ⟨wb0,wb0,wb0,⟨_,rfl,.cells _ _ _ _ rfl (by repeat (first | exact .nil | refine .cons (by first | exact .base (.tree _ _ rfl rfl) | exact .base (.own _ _ rfl) | exact .base (.ptr _ _ _ rfl) | exact .base (.map _ _ rfl) | exact .base (.nilown _ rfl) | exact .fn _ _ _ _ _ .nil (by repeat (first | exact .nil | refine .cons (by exact .ptr _ _ _ rfl) ?_)) | exact .base (.tree _ _ (args2 (opAt (opI q)).op 0 0 [] e y) rfl) | exact .base (.leT _ _ (args2 (opAt (opI q)).op 0 0 [] e y) rfl)) ?_)) rfl⟩,trivial⟩)⟩
theorem expP_x (T:List Tok):∀ n:Nat,RecX T n (expP n)
 | 0=>fun form r _ _ h hn=>by have:=h.pos;omega
 | n+1=>exp_x (expP_suf n) (expP_x T n)
inductive WfE:Exp→Prop
 | num (n u:Int) (h0:0≤n) (h1:n≤1000000000000000) (hu:0≤u∧u≤3):WfE (.mk 0 n u [] [])
 | boo (n:Int) (h:n=0∨n=1):WfE (.mk 0 n 4 [] [])
 | name (op:Int) (s:List UInt8) (ho:op=1∨op=2∨op=3) (hn:nameB s=true) (hl:s.length≤9223372036854775807):WfE (.mk op 0 0 s [])
 | within (op n:Int) (x:Exp) (ho:op=16∨op=17∨op=18) (hn:1≤n∧n≤1000) (hx:WfE x):WfE (.mk op n 0 [] [x])
 | not (x:Exp) (hx:WfE x):WfE (.mk 12 0 0 [] [x])
 | pair (op:Int) (x y:Exp) (ho:4≤op∧op≤14∧op≠12) (hx:WfE x) (hy:WfE y):WfE (.mk op 0 0 [] [x,y])
 | cond (x y z:Exp) (hx:WfE x) (hy:WfE y) (hz:WfE z):WfE (.mk 15 0 0 [] [x,y,z])
theorem lev_eq (e:Exp):lev e=levs e.args+1:=by cases e;simp only [lev,Exp.args]
theorem levs_snoc:∀ (l:List Exp) (x:Exp),levs (l++[x])=max (levs l) (lev x)
 | [],x=>by simp only [List.nil_append,levs];omega
 | y::l,x=>by rw [List.cons_append,levs,levs,levs_snoc l x];omega
theorem levs_mem:∀ {l:List Exp} {x:Exp},x∈l→lev x≤levs l
 | y::l,x,h=>by
  rw [levs]
  rcases List.mem_cons.1 h with rfl | h
  ·omega
  ·have:=levs_mem h;omega
theorem levs_take:∀ (l:List Exp) (k:Nat),levs (l.take k)≤levs l
 | [],k=>by simp
 | y::l,0=>by simp [levs]
 | y::l,k+1=>by rw [List.take_succ_cons,levs,levs];have:=levs_take l k;omega
theorem levels_step (e:Exp) (ha:e.args.length≤1000) (hb:lev e≤10000000000000) (h:∀ a∈e.args,APureV Tryz.prog 144 [encE a] (.int .i64 (lev a:Nat))):APureV Tryz.prog 144 [encE e] (.int .i64 (lev e:Nat)):=by
 have hal:=argsE_len e
 have he:=lev_eq e
 refine aO (cxOk 20 [0,1,2,3,5,7,8,9,10]) Tryz.func144 ?_
 conv=>whnf
 refine loop_inv (cxOk _ _) (fun k:Nat=>k≤e.args.length) (fun k=>e.args.length-k) (fun k=>⟨[(3,.int .i64 (levs (e.args.take k):Nat)),(7,.lsl 5 (argsE e)),(8,.int .i64 (e.args.length:Nat)),(9,.int .i64 (k:Nat))],[],0⟩) 0 (by show 0≤_;omega) ((wk_of [] rfl ⟨wa0,wa0,.base (.tree _ _ (congrArg (fun n:Nat=>AV.int .i64 (n:Int)) hal) rfl),wa0,trivial⟩ trivial)) ?_
 intro k hk
 have hk:k≤e.args.length:=hk
 conv=>whnf
 refine ⟨fun hd=>?_,fun hd=>?_⟩
 ·have hd:=of_decide_eq_true hd
  have hlt:k<e.args.length:=by omega
  have hek:(k:Int).toNat=k:=Int.toNat_natCast k
  have hm:argOf e k∈e.args:=getD_argOf hlt
  have hrec:=h _ hm
  have h1:=levs_mem hm
  have h2:=levs_take e.args k
  conv=>whnf
  refine iO ?_;conv=>whnf
  refine And.intro rfl ?_;conv=>whnf
  rw [hek,argsE_get e hlt]
  conv=>whnf
  refine cO (fun _=>hrec) ?_
  conv=>whnf
  refine iO ?_;conv=>whnf
  exact ⟨k+1,hlt,(by show e.args.length-(k+1)<e.args.length-k;omega),(wk_of [] rfl ⟨.base (.tree _ _ (congrArg (AV.int .i64) (by rw [take_getD (d:=ex0) hlt,levs_snoc];show max _ _=((max _ (lev (argOf e k)):Nat):Int);omega)) rfl),wa0,wa0,wa0,trivial⟩ trivial)⟩
 ·have hd:=of_decide_eq_false hd
  have hke:k=e.args.length:=by omega
  rw [hke,List.take_length]
  conv=>whnf
  refine iO ?_;conv=>whnf
  rw [he]
  rfl
theorem levels_ok {e:Exp} (hw:WfE e) (hb:lev e≤10000000000000):APureV Tryz.prog 144 [encE e] (.int .i64 (lev e:Nat)):=by
 have up:∀ (e:Exp),lev e≤10000000000000→∀ a∈e.args,lev a≤10000000000000:=fun e he a ha=>by
  have:=levs_mem ha
  rw [lev_eq] at he
  omega
 induction hw with
 | num n u h0 h1 hu=>exact levels_step _ (by show ([]:List Exp).length≤_;simp) hb (fun a ha=>by cases ha)
 | boo n h=>exact levels_step _ (by show ([]:List Exp).length≤_;simp) hb (fun a ha=>by cases ha)
 | name op s ho hn hl=>exact levels_step _ (by show ([]:List Exp).length≤_;simp) hb (fun a ha=>by cases ha)
 | within op n x ho hn hx ih=>exact levels_step _ (by show [x].length≤_;simp) hb (fun a ha=>by have hl:=up _ hb a ha;have ha:a∈[x]:=ha;simp at ha;subst ha;exact ih hl)
 | not x hx ih=>exact levels_step _ (by show [x].length≤_;simp) hb (fun a ha=>by have hl:=up _ hb a ha;have ha:a∈[x]:=ha;simp at ha;subst ha;exact ih hl)
 | pair op x y ho hx hy ihx ihy=>exact levels_step _ (by show [x,y].length≤_;simp) hb (fun a ha=>by have hl:=up _ hb a ha;have ha:a∈[x,y]:=ha;simp at ha;rcases ha with rfl | rfl<;>first | exact ihx hl | exact ihy hl)
 | cond x y z hx hy hz ihx ihy ihz=>exact levels_step _ (by show [x,y,z].length≤_;simp) hb (fun a ha=>by have hl:=up _ hb a ha;have ha:a∈[x,y,z]:=ha;simp at ha;rcases ha with rfl | rfl | rfl<;>first | exact ihx hl | exact ihy hl | exact ihz hl)
def Made (r:List Tok) (x:Exp) (r':List Tok):Prop:=WfE x∧lev x+r'.length≤r.length
def RecM (T:List Tok) (ex:Rec):Prop:=∀ form r x r',PSt T r→ex form r=.ok (x,r')→Made r x r'
theorem PSt.tl {T r:List Tok} (h:PSt T r):r.tail.length+1=r.length:=by have:=h.pos;rw [List.length_tail];omega
theorem wantP_le {T:List Tok} {s:List UInt8} {r r':List Tok} (h:PSt T r) (e:wantP s r=.ok r'):r'.length+1=r.length:=by
 unfold wantP at e
 split at e
 ·cases e;exact h.tl
 ·cases e
theorem numP_le {T:List Tok} {a b n:Int} {r r':List Tok} (h:PSt T r) (e:numP a b r=.ok (n,r')):r'.length+1=r.length∧a≤n∧n≤b:=by
 unfold numP at e
 split at e
 ·cases e
 ·split at e
  ·rename_i hr;cases e;exact ⟨h.tl,hr⟩
  ·cases e
theorem nameP_le {T:List Tok} {s:List UInt8} {r r':List Tok} (h:PSt T r) (e:nameP r=.ok (s,r')):r'.length+1=r.length∧nameB s=true∧s.length≤4000:=by
 unfold nameP at e
 split at e
 ·rename_i hr
  cases e
  unfold namedB at hr
  simp only [Bool.and_eq_true,decide_eq_true_eq] at hr
  exact ⟨h.tl,hr.2,h.tlen⟩
 ·cases e
theorem unitP_le (r:List Tok):(unitP r).2.length≤r.length∧0≤(unitP r).1∧(unitP r).1≤3:=by
 refine ⟨(unitP_suf r).le,?_⟩
 unfold unitP
 repeat' split
 all_goals simp
theorem lev0 (op n u:Int) (s:List UInt8):lev (.mk op n u s [])=1:=by simp [lev,levs]
theorem lev1 (op n u:Int) (s:List UInt8) (x:Exp):lev (.mk op n u s [x])=lev x+1:=by simp [lev,levs]
theorem lev2 (op n u:Int) (s:List UInt8) (x y:Exp):lev (.mk op n u s [x,y])=max (lev x) (lev y)+1:=by simp [lev,levs]
theorem lev3 (op n u:Int) (s:List UInt8) (x y z:Exp):lev (.mk op n u s [x,y,z])=max (lev x) (max (lev y) (lev z))+1:=by simp [lev,levs]
theorem namedP_made {T:List Tok} {op:Int} (ho:op=1∨op=2∨op=3) {r r':List Tok} {x:Exp} (h:PSt T r) (e:namedP op r=.ok (x,r')):Made r x r':=by
 unfold namedP at e
 split at e
 ·cases e
 ·rename_i s r1 e1
  cases e
  obtain ⟨h1,h2,h3⟩:=nameP_le h e1
  exact ⟨.name op s ho h2 (by omega),by rw [lev0];omega⟩
theorem withinP_made {T:List Tok} {ex:Rec} (hS:RecS ex) (hM:RecM T ex) {op:Int} (ho:op=16∨op=17∨op=18) {r r':List Tok} {x:Exp} (h:PSt T r) (e:withinP ex op r=.ok (x,r')):Made r x r':=by
 unfold withinP at e
 split at e
 ·cases e
 ·rename_i n r1 e1
  split at e
  ·cases e
  ·rename_i r2 e2
   split at e
   ·cases e
   ·rename_i y r3 e3
    split at e
    ·cases e
    ·rename_i r4 e4
     cases e
     have q1:=h.to (numP_suf e1).1
     have q2:=q1.to (wantP_suf e2)
     have q3:=q2.to (hS _ _ _ _ e3)
     obtain ⟨l1,n1,n2⟩:=numP_le h e1
     have l2:=wantP_le q1 e2
     obtain ⟨w3,l3⟩:=hM _ _ _ _ q2 e3
     have l4:=wantP_le q3 e4
     exact ⟨.within op n y ho ⟨n1,n2⟩ w3,by rw [lev1];omega⟩
theorem pairP_made {T:List Tok} {ex:Rec} (hS:RecS ex) (hM:RecM T ex) {op:Int} (ho:4≤op∧op≤14∧op≠12) {r r':List Tok} {x:Exp} (h:PSt T r) (e:pairP ex op r=.ok (x,r')):Made r x r':=by
 unfold pairP at e
 split at e
 ·cases e
 ·rename_i r1 e1
  split at e
  ·cases e
  ·rename_i y r2 e2
   split at e
   ·cases e
   ·rename_i r3 e3
    split at e
    ·cases e
    ·rename_i z r4 e4
     split at e
     ·cases e
     ·rename_i r5 e5
      cases e
      have q1:=h.to (wantP_suf e1)
      have q2:=q1.to (hS _ _ _ _ e2)
      have q3:=q2.to (wantP_suf e3)
      have q4:=q3.to (hS _ _ _ _ e4)
      have l1:=wantP_le h e1
      obtain ⟨w2,l2⟩:=hM _ _ _ _ q1 e2
      have l3:=wantP_le q2 e3
      obtain ⟨w4,l4⟩:=hM _ _ _ _ q3 e4
      have l5:=wantP_le q4 e5
      exact ⟨.pair op y z ho w2 w4,by rw [lev2];omega⟩
theorem parenP_made {T:List Tok} {ex:Rec} (hS:RecS ex) (hM:RecM T ex) {r r':List Tok} {x:Exp} (h:PSt T r) (e:parenP ex r=.ok (x,r')):Made r x r':=by
 unfold parenP at e
 split at e
 ·cases e
 ·rename_i y r1 e1
  split at e
  ·cases e
  ·rename_i r2 e2
   cases e
   have q1:=h.to (hS _ _ _ _ e1)
   obtain ⟨w1,l1⟩:=hM _ _ _ _ h e1
   have l2:=wantP_le q1 e2
   exact ⟨w1,by omega⟩
theorem Made.more {r0 r r':List Tok} {x:Exp} (h:Made r x r') (hl:r.length≤r0.length):Made r0 x r':=⟨h.1,Nat.le_trans h.2 hl⟩
theorem primP_made {T:List Tok} {ex:Rec} (hS:RecS ex) (hM:RecM T ex) {r r':List Tok} {x:Exp} (h:PSt T r) (e:primP ex r=.ok (x,r')):Made r x r':=by
 have htl:=h.tl
 unfold primP at e
 split at e
 ·cases e
  obtain ⟨u1,u2,u3⟩:=unitP_le r.tail
  obtain ⟨_,n1,n2⟩:=h.txt _ h.hd
  exact ⟨.num _ _ n1 n2 ⟨u2,u3⟩,by rw [lev0];omega⟩
 split at e
 ·cases e;exact ⟨.boo 1 (.inr rfl),by rw [lev0];omega⟩
 split at e
 ·cases e;exact ⟨.boo 0 (.inl rfl),by rw [lev0];omega⟩
 split at e
 ·rename_i hk;exact (namedP_made (by omega) (h.tail (isT_kind hk)) e).more (by omega)
 split at e
 ·rename_i hk;exact (namedP_made (by omega) (h.tail (isT_kind hk)) e).more (by omega)
 split at e
 ·rename_i hk;exact (withinP_made hS hM (by omega) (h.tail (isT_kind hk)) e).more (by omega)
 split at e
 ·rename_i hk;exact (withinP_made hS hM (by omega) (h.tail (isT_kind hk)) e).more (by omega)
 split at e
 ·rename_i hk;exact (withinP_made hS hM (by omega) (h.tail (isT_kind hk)) e).more (by omega)
 split at e
 ·rename_i hk;exact (pairP_made hS hM (by split<;>omega) (h.tail (hk.elim isT_kind isT_kind)) e).more (by omega)
 split at e
 ·rename_i hk;exact (parenP_made hS hM (h.tail (isT_kind hk)) e).more (by omega)
 exact namedP_made om0 h e
theorem prefP_made {T:List Tok} {ex:Rec} (hS:RecS ex) (hM:RecM T ex) {form:Int} {r r':List Tok} {x:Exp} {o:Int} (h:PSt T r) (e:prefP ex form r=.ok ((x,o),r')):Made r x r':=by
 have htl:=h.tl
 unfold prefP at e
 split at e
 ·rename_i hk
  have q:=h.tail (isT_kind hk.2)
  split at e
  ·cases e
  ·rename_i x1 r1 e0
   cases e
   unfold ifP at e0
   split at e0
   ·cases e0
   ·rename_i y r1 e1
    split at e0
    ·cases e0
    ·rename_i r2 e2
     split at e0
     ·cases e0
     ·rename_i z r3 e3
      split at e0
      ·cases e0
      ·rename_i r4 e4
       split at e0
       ·cases e0
       ·rename_i u r5 e5
        cases e0
        have q1:=q.to (hS _ _ _ _ e1)
        have q2:=q1.to (wantP_suf e2)
        have q3:=q2.to (hS _ _ _ _ e3)
        have q4:=q3.to (wantP_suf e4)
        obtain ⟨w1,l1⟩:=hM _ _ _ _ q e1
        have l2:=wantP_le q1 e2
        obtain ⟨w3,l3⟩:=hM _ _ _ _ q2 e3
        have l4:=wantP_le q3 e4
        obtain ⟨w5,l5⟩:=hM _ _ _ _ q4 e5
        exact ⟨.cond y z u w1 w3 w5,by rw [lev3];omega⟩
 split at e
 ·rename_i hk
  have q:=h.tail (isT_kind hk.2)
  split at e
  ·cases e
  ·rename_i x1 r1 e0
   cases e
   unfold notP at e0
   split at e0
   ·cases e0
   ·rename_i y r1 e1
    cases e0
    obtain ⟨w1,l1⟩:=hM _ _ _ _ q e1
    exact ⟨.not y w1,by rw [lev1];omega⟩
 split at e
 ·cases e
 ·rename_i x1 r1 e0
  cases e
  exact primP_made hS hM h e0
theorem op_bnd {i:Nat} (h:i<oprL.length):4≤(oprL.getD i o0).op∧(oprL.getD i o0).op≤14∧(oprL.getD i o0).op≠12:=by
 have:∀ i,i<8→4≤(oprL.getD i o0).op∧(oprL.getD i o0).op≤14∧(oprL.getD i o0).op≠12:=by decide
 exact this i h
theorem loopP_made {T:List Tok} {ex:Rec} (hS:RecS ex) (hM:RecM T ex) {form:Int}:∀ (f:Nat) (e0:Exp) (own:Int) (r0 r:List Tok) (x:Exp) (r':List Tok),PSt T r→Made r0 e0 r→loopP ex form f e0 own r=.ok (x,r')→Made r0 x r'
 | 0,e0,own,r0,r,x,r',hp,hm,h=>by cases h;exact hm
 | f+1,e0,own,r0,r,x,r',hp,hm,h=>by
  unfold loopP at h
  split at h
  ·cases h;exact hm
  ·rename_i hn
   dsimp only at h
   split at h
   ·cases h;exact hm
   ·split at h
    ·cases h
    ·rename_i y r1 e1
     obtain ⟨hlt,hop⟩:=opI_ok hn
     have q:=hp.tail (isT_kind hop)
     have htl:=hp.tl
     obtain ⟨w1,l1⟩:=hM _ _ _ _ q e1
     have l2:=hm.2
     exact loopP_made hS hM f _ _ r0 r1 _ _ (q.to (hS _ _ _ _ e1)) ⟨.pair _ _ _ (op_bnd hlt) hm.1 w1,by rw [lev2];omega⟩ h
theorem expS_made {T:List Tok} {ex:Rec} (hS:RecS ex) (hM:RecM T ex):RecM T (expS ex):=by
 intro form r x r' h e
 unfold expS at e
 split at e
 ·cases e
 ·rename_i y o r1 e1
  exact loopP_made hS hM _ _ _ r r1 _ _ (h.to (prefP_suf hS e1).1) (prefP_made hS hM h e1) e
theorem expP_made (T:List Tok):∀ n:Nat,RecM T (expP n)
 | 0=>fun form r x r' _ h=>by cases h
 | n+1=>expS_made (expP_suf n) (expP_made T n)
def wholeP (s:List UInt8) (r:List Tok):Ps Exp :=
 match expP r.length 0 r with
 | .error e=>.error e
 | .ok (x,r1)=>if isT s r1=false then errP 12 r1 else if ((lev x:Nat):Int)≤12 then .ok (x,r1.tail) else errP 6 r1
def partP (s:List UInt8) (a b:Int) (r:List Tok):Ps Int :=
 match wantP s r with
 | .error e=>.error e
 | .ok r1=>match numP a b r1 with
  | .error e=>.error e
  | .ok (n,r2)=>match wantP [59] r2 with
   | .error e=>.error e
   | .ok r3=>.ok (n,r3)
def maybeP (s:List UInt8) (a n0:Int) (r:List Tok):Ps Int:=if isT s r=true then partP s 0 a r else .ok (n0,r)
theorem chk_t {T r:List Tok} (h:PSt T r) (e:Int):RIO Tryz.prog 105 [.ptr 0 0,.bool true,.int .i64 e] [pobj T r] 1 (fun vs bs es=>vs=[]∧bs=[pobj T r]∧es=[]):=rx_ok (check_x h true e) rfl
theorem chk_f {T r:List Tok} (h:PSt T r) (e:Int):RIOX Tryz.prog 105 [.ptr 0 0,.bool false,.int .i64 e] [pobj T r] 1 (fun _ _ _=>False) (fun ch=>ch=stopC ((hdT r).pos,e)):=rx_er (check_x h false e) rfl
theorem whole_x {T r:List Tok} (h:PSt T r) (s:List UInt8):RX 100 [.ptr 0 0,.str s] [pobj T r] 1 (wholeP s r) (fun v=>[encE v.1]) (fun v=>[pobj T v.2]) (fun v=>[.cells 27 (cellsE v.1)]):=by
 refine xO (cxXOk (fun ch=>∃ er,wholeP s r=.error er∧ch=stopC er) 1 26 [0,1,4,5]) Tryz.func100 ?_
 conv=>whnf
 rcases e1:expP r.length 0 r with e | ⟨x,r1⟩
 ·exact CallG.stop rfl (riox_stop (rx_er (expP_x T r.length 0 r (by omega) (by omega) h (Nat.le_refl _)) e1) [0] rfl rfl rfl ac0) (fun ch hc=>⟨e,by simp only [wholeP,e1],hc⟩)
 refine cR (rx_ok (expP_x T r.length 0 r om0 om0 h (Nat.le_refl _)) e1) [0] ?_
 conv=>whnf
 have hq:=h.to (expP_suf _ _ _ _ _ e1)
 obtain ⟨hw,hl⟩:=expP_made T _ _ _ _ _ h e1
 have hbig:=h.big
 have hle:=h.le
 have hi:=is_ok hq s
 have hv:=levels_ok hw (by omega)
 have hat:=hq.at
 have hqp:=hq.pos
 have hqle:=hq.le
 refine cO (fun _=>hi) ?_
 conv=>whnf
 cases hb:isT s r1 with
 | false =>
  have hs:wholeP s r=.error ((hdT r1).pos,12):=by simp only [wholeP,e1,hb,if_true,errP]
  exact CallG.stop rfl (riox_stop (chk_f hq 12) [0] rfl rfl rfl ac0) ((fun ch hc=>⟨_,hs,hc⟩))
 | true =>
  refine cR ((chk_t hq 12)) [0] ?_
  conv=>whnf
  refine cO (fun _=>hv) ?_
  conv=>whnf
  cases h12:decide (((lev x:Nat):Int)≤12) with
  | false =>
   have hs:wholeP s r=.error ((hdT r1).pos,6):=by simp only [wholeP,e1,hb,Bool.true_eq_false,if_false,if_neg (of_decide_eq_false h12),errP]
   exact CallG.stop rfl (riox_stop (chk_f hq 6) [0] rfl rfl rfl ac0) ((fun ch hc=>⟨_,hs,hc⟩))
  | true =>
   refine cR ((chk_t hq 6)) [0] ?_
   conv=>whnf
   refine iO ?_
   conv=>whnf
   rw [hat]
   refine ⟨⟨[(4,.ptr 1 0)],[(0,.cells 132 (pcell T (r1.tail))),(1,.cells 27 (cellsE x))],2⟩,(wk_of [(0,.id 0),(1,.id 1)] rfl ⟨wc0,trivial⟩ ⟨wb0,wb0,trivial⟩),rfl,rfl,?_⟩
   conv=>whnf
   exact ⟨rfl,(x,r1.tail),by simp only [wholeP,e1,hb,Bool.true_eq_false,if_false,if_pos (of_decide_eq_true h12)],rfl,rfl,rfl⟩
theorem part_x {T r:List Tok} (h:PSt T r) (s:List UInt8) (a b:Int):RX 95 [.ptr 0 0,.str s,.int .i64 a,.int .i64 b] [pobj T r] 1 (partP s a b r) (fun v=>[.int .i64 v.1]) (fun v=>[pobj T v.2]) (fun _=>[]):=by
 refine xO (cxXOk (fun ch=>∃ er,partP s a b r=.error er∧ch=stopC er) 1 22 [0,1,2,3,8,9]) Tryz.func95 ?_
 conv=>whnf
 rcases e1:wantP s r with e | r1
 ·exact CallG.stop rfl (riox_stop (rx_er (want1_x h s) e1) [0,1] rfl rfl rfl ac0) (fun ch hc=>⟨e,by simp only [partP,e1],hc⟩)
 refine cR (rx_ok (want1_x h s) e1) [0,1] ?_
 conv=>whnf
 have q1:=h.to (wantP_suf e1)
 rcases e2:numP a b r1 with e | ⟨n,r2⟩
 ·exact CallG.stop rfl (riox_stop (rx_er (num_x q1 a b) e2) [0] rfl rfl rfl ac0) (fun ch hc=>⟨e,by simp only [partP,e1,e2],hc⟩)
 refine cR (rx_ok (num_x q1 a b) e2) [0] ?_
 conv=>whnf
 have q2:=q1.to (numP_suf e2).1
 rcases e3:wantP [59] r2 with e | r3
 ·exact CallG.stop rfl (riox_stop (rx_er (want1_x q2 [59]) e3) [0,2] rfl rfl rfl ac0) (fun ch hc=>⟨e,by simp only [partP,e1,e2,e3],hc⟩)
 refine cR (rx_ok (want1_x q2 [59]) e3) [0,2] ?_
 conv=>whnf
 refine ⟨⟨[(8,.int .i64 n)],[(0,.cells 132 (pcell T r3))],1⟩,(wk_of [(0,.id 0)] rfl ⟨wa0,trivial⟩ ⟨wb0,trivial⟩),rfl,rfl,?_⟩
 conv=>whnf
 exact ⟨rfl,(n,r3),by simp only [partP,e1,e2,e3],rfl,rfl,rfl⟩
theorem maybe_x {T r:List Tok} (h:PSt T r) (s:List UInt8) (a n0:Int):RX 103 [.ptr 0 0,.str s,.int .i64 a,.int .i64 n0] [pobj T r] 1 (maybeP s a n0 r) (fun v=>[.int .i64 v.1]) (fun v=>[pobj T v.2]) (fun _=>[]):=by
 have hi:=is_ok h s
 cases hb:isT s r with
 | false =>
  rw [hb] at hi
  refine xO (cxXOk (fun ch=>∃ er,maybeP s a n0 r=.error er∧ch=stopC er) 1 18 [0,1,2,3,8,12]) Tryz.func103 ?_
  conv=>whnf
  refine cO (fun _=>hi) ?_
  conv=>whnf
  refine gT ?_
  conv=>whnf
  refine ⟨_,Wk.refl _,rfl,rfl,?_⟩
  conv=>whnf
  exact ⟨rfl,(n0,r),by simp only [maybeP,hb,Bool.false_eq_true,if_false],rfl,rfl,rfl⟩
 | true =>
  rw [hb] at hi
  refine xO (cxXOk (fun ch=>∃ er,maybeP s a n0 r=.error er∧ch=stopC er) 1 18 [0,1,2,3,8,12]) Tryz.func103 ?_
  conv=>whnf
  refine cO (fun _=>hi) ?_
  conv=>whnf
  refine gF ?_
  conv=>whnf
  rcases e1:partP s 0 a r with e | ⟨n,r1⟩
  ·exact CallG.stop rfl (riox_stop (rx_er (part_x h s 0 a) e1) [0] rfl rfl rfl ac0) (fun ch hc=>⟨e,by simp only [maybeP,hb,if_true,e1],hc⟩)
  refine cR (rx_ok (part_x h s 0 a) e1) [0] ?_
  conv=>whnf
  refine ⟨_,Wk.refl _,rfl,rfl,?_⟩
  conv=>whnf
  exact ⟨rfl,(n,r1),by simp only [maybeP,hb,if_true,e1],rfl,rfl,rfl⟩
def dateP (least:Int) (r:List Tok):Ps Int :=
 match numP 0 1000000000000000 r with
 | .error e=>.error e
 | .ok (y,r1)=>match wantP [45] r1 with
  | .error e=>.error e
  | .ok r2=>match numP 0 1000000000000000 r2 with
   | .error e=>.error e
   | .ok (m,r3)=>match wantP [45] r3 with
    | .error e=>.error e
    | .ok r4=>if (hdT r4).kind≠1 then errP 12 r4
     else if (dayOf y m (hdT r4).n).2≠0 then errP 23 r4
     else if least<(dayOf y m (hdT r4).n).1 then .ok ((dayOf y m (hdT r4).n).1,r4.tail)
     else errP 3 r4
theorem date_x {T r:List Tok} (h:PSt T r) (least:Int):RX 96 [.ptr 0 0,.int .i64 least] [pobj T r] 1 (dateP least r) (fun v=>[.int .i64 v.1]) (fun v=>[pobj T v.2]) (fun _=>[]):=by
 refine xO (cxXOk (fun ch=>∃ er,dateP least r=.error er∧ch=stopC er) 1 52 [0,1,4,5,6,7,8,9]) Tryz.func96 ?_
 conv=>whnf
 rcases e1:numP 0 1000000000000000 r with e | ⟨y,r1⟩
 ·exact CallG.stop rfl (riox_stop (rx_er (num_x h 0 1000000000000000) e1) [0] rfl rfl rfl ac0) (fun ch hc=>⟨e,by simp only [dateP,e1],hc⟩)
 refine cR (rx_ok (num_x h 0 1000000000000000) e1) [0] ?_
 conv=>whnf
 have q1:=h.to (numP_suf e1).1
 obtain ⟨_,y0,y1⟩:=numP_le h e1
 rcases e2:wantP [45] r1 with e | r2
 ·exact CallG.stop rfl (riox_stop (rx_er (want1_x q1 [45]) e2) [0,1] rfl rfl rfl ac0) (fun ch hc=>⟨e,by simp only [dateP,e1,e2],hc⟩)
 refine cR (rx_ok (want1_x q1 [45]) e2) [0,1] ?_
 conv=>whnf
 have q2:=q1.to (wantP_suf e2)
 rcases e3:numP 0 1000000000000000 r2 with e | ⟨m,r3⟩
 ·exact CallG.stop rfl (riox_stop (rx_er (num_x q2 0 1000000000000000) e3) [0] rfl rfl rfl ac0) (fun ch hc=>⟨e,by simp only [dateP,e1,e2,e3],hc⟩)
 refine cR (rx_ok (num_x q2 0 1000000000000000) e3) [0] ?_
 conv=>whnf
 have q3:=q2.to (numP_suf e3).1
 rcases e4:wantP [45] r3 with e | r4
 ·exact CallG.stop rfl (riox_stop (rx_er (want1_x q3 [45]) e4) [0,2] rfl rfl rfl ac0) (fun ch hc=>⟨e,by simp only [dateP,e1,e2,e3,e4],hc⟩)
 refine cR (rx_ok (want1_x q3 [45]) e4) [0,2] ?_
 conv=>whnf
 have q4:=q3.to (wantP_suf e4)
 have hx:=next_ok q4
 obtain ⟨_,n0,n1⟩:=q4.txt _ q4.hd
 have hd:=dayof_ok y m (hdT r4).n y0 y1 (by omega)
 have hat:=q4.at
 have hqp:=q4.pos
 have hqle:=q4.le
 have hbig:=h.big
 refine cO (fun _=>hx) ?_
 conv=>whnf
 cases hk:decide ((hdT r4).kind=1) with
 | false =>
  have hs:dateP least r=.error ((hdT r4).pos,12):=by simp only [dateP,e1,e2,e3,e4,errP,ne_eq,of_decide_eq_false hk,not_false_eq_true,if_true]
  exact CallG.stop rfl (riox_stop (chk_f q4 12) [0] rfl rfl rfl ac0) ((fun ch hc=>⟨_,hs,hc⟩))
 | true =>
  have hk':=of_decide_eq_true hk
  refine cR ((chk_t q4 12)) [0] ?_
  conv=>whnf
  unfold dayR at hd
  refine cO (fun _=>hd) ?_
  conv=>whnf
  cases h0:decide ((dayOf y m (hdT r4).n).2=0) with
  | false =>
   have hs:dateP least r=.error ((hdT r4).pos,23):=by simp only [dateP,e1,e2,e3,e4,errP,ne_eq,hk',not_true_eq_false,if_false,of_decide_eq_false h0,not_false_eq_true,if_true]
   exact CallG.stop rfl (riox_stop (chk_f q4 23) [0] rfl rfl rfl ac0) ((fun ch hc=>⟨_,hs,hc⟩))
  | true =>
   have h0':=of_decide_eq_true h0
   refine cR ((chk_t q4 23)) [0] ?_
   conv=>whnf
   cases hl:decide (least<(dayOf y m (hdT r4).n).1) with
   | false =>
    have hs:dateP least r=.error ((hdT r4).pos,3):=by simp only [dateP,e1,e2,e3,e4,errP,ne_eq,hk',not_true_eq_false,if_false,h0',of_decide_eq_false hl]
    exact CallG.stop rfl (riox_stop (chk_f q4 3) [0] rfl rfl rfl ac0) ((fun ch hc=>⟨_,hs,hc⟩))
   | true =>
    have hs:dateP least r=.ok ((dayOf y m (hdT r4).n).1,r4.tail):=by simp only [dateP,e1,e2,e3,e4,errP,ne_eq,hk',not_true_eq_false,if_false,h0',of_decide_eq_true hl,if_true]
    refine cR ((chk_t q4 3)) [0] ?_
    conv=>whnf
    refine iO ?_
    conv=>whnf
    rw [hat]
    refine ⟨⟨[(4,.int .i64 ((dayOf y m (hdT r4).n).1))],[(0,.cells 132 (pcell T (r4.tail)))],1⟩,(wk_of [(0,.id 0)] rfl ⟨wa0,trivial⟩ ⟨wb0,trivial⟩),rfl,rfl,?_⟩
    conv=>whnf
    exact ⟨rfl,((dayOf y m (hdT r4).n).1,r4.tail),hs,rfl,rfl,rfl⟩
def oneP (s:List UInt8) (ws:List (List UInt8)) (r:List Tok):Ps Int :=
 match wantP s r with
 | .error e=>.error e
 | .ok r1=>if idxP (fun w=>isT w r1) ws<0 then errP 12 r1
  else match wantP [59] r1.tail with
   | .error e=>.error e
   | .ok r2=>.ok (idxP (fun w=>isT w r1) ws,r2)
theorem has165 {T r:List Tok} (h:PSt T r) (ws:List (List UInt8)) (hl:ws.length≤1000):RIO Tryz.prog 140 [.sl 1 encS [] ws,.fn (.func 137) [.ptr 0 0] []] [pobj T r] 1
  (fun vs bs es=>vs=[.int .i64 (idxP (fun w=>isT w r) ws)]∧bs=[pobj T (if idxP (fun w=>isT w r) ws<0 then r else r.tail)]∧es=[]):=by
 refine rO (cxPOk 1 19 [0,1,4,5,7,8,9,16]) Tryz.func140 ?_
 conv=>whnf
 refine loop_inv (cxPOk _ _ _) (fun k:Nat=>k≤ws.length∧∀ j,j<k→isT (ws.getD j []) r=false) (fun k=>ws.length-k) (fun k=>⟨[(0,.sl 1 encS [] ws),(1,.fn (.func 137) [.ptr 0 0] []),(7,.int .i64 (ws.length:Nat)),(8,.int .i64 (k:Nat))],[(0,.cells 132 (pcell T r))],1⟩) 0 ⟨by show 0≤_;omega,fun j hj=>by omega⟩ ((wk_of [(0,.id 0)] rfl ⟨wa0,.fn _ _ _ _ _ (.cons (.ptr _ _ _ rfl) .nil) .nil,wa0,wa0,trivial⟩ ⟨wb0,trivial⟩)) ?_
 intro k ⟨hk,hP⟩
 have hk:k≤ws.length:=hk
 conv=>whnf
 refine ⟨fun hd=>?_,fun hd=>?_⟩
 ·have hd:=of_decide_eq_true hd
  have hlt:k<ws.length:=by omega
  have hek:(k:Int).toNat=k:=Int.toNat_natCast k
  conv=>whnf
  refine iO ?_;conv=>whnf
  refine And.intro rfl ?_;conv=>whnf
  rw [hek]
  cases hb:isT (ws.getD k []) r with
  | true =>
   have hi:idxP (fun w=>isT w r) ws=k:=idxP_found (d:=[]) hlt hP hb
   rw [hi]
   refine cR ((has_t h hb)) [0] ?_
   conv=>whnf
   refine gT ?_
   conv=>whnf
   refine ⟨⟨[(4,.int .i64 (k:Nat))],[(0,.cells 132 (pcell T r.tail))],1⟩,(wk_of [(0,.id 0)] rfl ⟨wa0,trivial⟩ ⟨wb0,trivial⟩),rfl,rfl,?_⟩
   conv=>whnf
   exact ⟨rfl,rfl,(by rw [if_neg (by omega)];rfl),rfl⟩
  | false =>
   refine cR ((has_f h hb)) [0] ?_
   conv=>whnf
   refine gF ?_
   conv=>whnf
   refine iO ?_
   conv=>whnf
   exact ⟨k+1,⟨hlt,fun j hj=>(by
    by_cases e:j=k
    ·rw [e];exact hb
    ·exact hP j (by omega))⟩,(by show ws.length-(k+1)<ws.length-k;omega),(wk_of [(0,.id 0)] rfl ⟨wa0,.fn _ _ _ _ _ (.cons (.ptr _ _ _ rfl) .nil) .nil,wa0,wa0,trivial⟩ ⟨wb0,trivial⟩)⟩
 ·have hd:=of_decide_eq_false hd
  have hke:k=ws.length:=by omega
  have hi:idxP (fun w=>isT w r) ws=-1:=idxP_none (d:=[]) (fun j hj=>hP j (by omega))
  rw [hi]
  conv=>whnf
  refine ⟨⟨[(4,.int .i64 (-1))],[(0,.cells 132 (pcell T r))],1⟩,(wk_of [(0,.id 0)] rfl ⟨wa0,trivial⟩ ⟨wb0,trivial⟩),rfl,rfl,?_⟩
  conv=>whnf
  exact ⟨rfl,rfl,(by rw [if_pos (by omega)];rfl),rfl⟩
theorem one_x {T r:List Tok} (h:PSt T r) (s:List UInt8) (ws:List (List UInt8)) (hl:ws.length≤1000):RX 98 [.ptr 0 0,.str s,.sl 1 encS [] ws] [pobj T r] 1 (oneP s ws r) (fun v=>[.int .i64 v.1]) (fun v=>[pobj T v.2]) (fun _=>[]):=by
 refine xO (cxXOk (fun ch=>∃ er,oneP s ws r=.error er∧ch=stopC er) 1 24 [0,1,2,6,7]) Tryz.func98 ?_
 conv=>whnf
 rcases e1:wantP s r with e | r1
 ·exact CallG.stop rfl (riox_stop (rx_er (want1_x h s) e1) [0,1] rfl rfl rfl ac0) (fun ch hc=>⟨e,by simp only [oneP,e1],hc⟩)
 refine cR (rx_ok (want1_x h s) e1) [0,1] ?_
 conv=>whnf
 have q1:=h.to (wantP_suf e1)
 have hh:=has165 q1 ws hl
 have hge:=idxP_ge (fun w=>isT w r1) ws
 cases hi:decide (0≤idxP (fun w=>isT w r1) ws) with
 | false =>
  have hi':=of_decide_eq_false hi
  rw [if_pos (by omega)] at hh
  have hs:oneP s ws r=.error ((hdT r1).pos,12):=by simp only [oneP,e1,errP];rw [if_pos (by omega)]
  refine cR (hh) [0] ?_
  conv=>whnf
  rw [hi]
  exact CallG.stop rfl (riox_stop (chk_f q1 12) [0] rfl rfl rfl ac0) ((fun ch hc=>⟨_,hs,hc⟩))
 | true =>
  have hi':=of_decide_eq_true hi
  rw [if_neg (by omega)] at hh
  have hlt:=idxP_lt (fun w=>isT w r1) [] ws
  have hb:isT (ws.getD (idxP (fun w=>isT w r1) ws).toNat []) r1=true:=by
   rcases hlt with hlt | hlt
   ·omega
   ·exact hlt.2
  have q2:=q1.tail (isT_kind hb)
  have hs:oneP s ws r=match wantP [59] r1.tail with
   | .error e=>.error e
   | .ok r2=>.ok (idxP (fun w=>isT w r1) ws,r2):=by simp only [oneP,e1];rw [if_neg (by omega)]
  refine cR (hh) [0] ?_
  conv=>whnf
  rw [hi]
  refine cR ((chk_t q2 12)) [0] ?_
  conv=>whnf
  rcases e2:wantP [59] r1.tail with e | r2
  ·exact CallG.stop rfl (riox_stop (rx_er (want1_x q2 [59]) e2) [0,2] rfl rfl rfl ac0) (fun ch hc=>⟨e,by simp only [hs,e2],hc⟩)
  refine cR (rx_ok (want1_x q2 [59]) e2) [0,2] ?_
  conv=>whnf
  refine ⟨⟨[(6,.int .i64 (idxP (fun w=>isT w r1) ws))],[(0,.cells 132 (pcell T r2))],1⟩,(wk_of [(0,.id 0)] rfl ⟨wa0,trivial⟩ ⟨wb0,trivial⟩),rfl,rfl,?_⟩
  conv=>whnf
  exact ⟨rfl,(idxP (fun w=>isT w r1) ws,r2),by simp only [hs,e2],rfl,rfl,rfl⟩
def freshP (names:List (List UInt8)) (r:List Tok):Ps (List UInt8) :=
 if namedB r=false then errP 12 r else if (hdT r).text∈names then errP 5 r else .ok ((hdT r).text,r.tail)
theorem fresh_x {T r:List Tok} (h:PSt T r) (names:List (List UInt8)) (hl:names.length≤1000):RX 142 [.ptr 0 0,.own 1] [pobj T r,.row 9 1 encS [] names] 2 (freshP names r) (fun v=>[.str v.1]) (fun v=>[pobj T v.2,.row 9 1 encS [] names]) (fun _=>[]):=by
 have hn:=named_ok h
 have hx:=next_ok h
 have hc:=contains_ok names (hdT r).text (by omega)
 cases hb:namedB r with
 | false =>
  rw [hb] at hn
  have hs:freshP names r=.error ((hdT r).pos,12):=by simp only [freshP,hb,if_true,errP]
  refine xO (cxXOk (fun ch=>∃ er,freshP names r=.error er∧ch=stopC er) 2 19 [0,1,4]) Tryz.func142 ?_
  conv=>whnf
  refine cO (fun _=>hn) ?_
  conv=>whnf
  exact CallG.stop rfl (riox_stop (chk_f h 12) [0] rfl rfl rfl ac0) ((fun ch hc=>⟨_,hs,hc⟩))
 | true =>
  have hnm:nameP r=.ok ((hdT r).text,r.tail):=by simp only [nameP,hb,if_true]
  rw [hb] at hn
  cases hm:decide ((hdT r).text∈names) with
  | true =>
   rw [hm] at hc
   have hs:freshP names r=.error ((hdT r).pos,5):=by simp only [freshP,hb,Bool.true_eq_false,if_false,of_decide_eq_true hm,if_true,errP]
   refine xO (cxXOk (fun ch=>∃ er,freshP names r=.error er∧ch=stopC er) 2 19 [0,1,4]) Tryz.func142 ?_
   conv=>whnf
   refine cO (fun _=>hn) ?_
   conv=>whnf
   refine cR ((chk_t h 12)) [0] ?_
   conv=>whnf
   refine cO (fun _=>hx) ?_
   conv=>whnf
   refine cO (fun _=>hc) ?_
   conv=>whnf
   exact CallG.stop rfl (riox_stop (chk_f h 5) [0] rfl rfl rfl ac0) ((fun ch hc=>⟨_,hs,hc⟩))
  | false =>
   rw [hm] at hc
   have hs:freshP names r=.ok ((hdT r).text,r.tail):=by simp only [freshP,hb,Bool.true_eq_false,if_false,of_decide_eq_false hm]
   refine xO (cxXOk (fun ch=>∃ er,freshP names r=.error er∧ch=stopC er) 2 19 [0,1,4]) Tryz.func142 ?_
   conv=>whnf
   refine cO (fun _=>hn) ?_
   conv=>whnf
   refine cR ((chk_t h 12)) [0] ?_
   conv=>whnf
   refine cO (fun _=>hx) ?_
   conv=>whnf
   refine cO (fun _=>hc) ?_
   conv=>whnf
   refine cR ((chk_t h 5)) [0] ?_
   conv=>whnf
   refine cR ((rx_ok (name_x h) hnm)) [0] ?_
   conv=>whnf
   refine ⟨_,Wk.refl _,rfl,rfl,?_⟩
   conv=>whnf
   exact ⟨rfl,((hdT r).text,r.tail),hs,rfl,rfl,rfl⟩
abbrev celN (x:Ind) (ca l cv fv cl:AV):List AV:=[.str x.name,.str x.issuer,.int .i64 x.face,.int .i64 x.frm,.int .i64 x.to,.int .i64 x.every,.int .i64 x.count,.int .i64 x.adjust,.int .i64 x.record,.int .i64 x.rank,
 l,.int .i64 x.coupon.op,.int .i64 x.coupon.n,.int .i64 x.coupon.unit,.str x.coupon.s,ca,.int .i64 x.cap,cv,fv,.int .i64 x.cross,cl,.int .i64 x.notice,.int .i64 x.sink,.int .i64 x.majority,.int .i64 x.fast]
def letsP:Nat→List LetE→List Tok→Ps (List LetE)
 | 0,ls,r=>.ok (ls,r)
 | f+1,ls,r =>
  if isT [108,101,116] r=false then .ok (ls,r)
  else if ¬ (ls.length:Int)<20 then errP 6 r
  else match freshP (ls.map LetE.name) r.tail with
   | .error e=>.error e
   | .ok (s,r1)=>match wantP [61] r1 with
    | .error e=>.error e
    | .ok r2=>match wholeP [59] r2 with
     | .error e=>.error e
     | .ok (x,r3)=>letsP f (ls++[⟨s,x⟩]) r3
theorem freshP_suf {names:List (List UInt8)} {r r':List Tok} {s:List UInt8} (h:freshP names r=.ok (s,r')):Suf r r':=by
 unfold freshP at h
 split at h
 ·cases h
 ·rename_i hb
  split at h
  ·cases h
  ·exact nameP_suf (s:=s) (by unfold nameP;rw [if_pos (by simpa using hb)];exact h)
theorem wholeP_suf {s:List UInt8} {r r':List Tok} {x:Exp} (h:wholeP s r=.ok (x,r')):Suf r r':=by
 unfold wholeP at h
 split at h
 ·cases h
 ·rename_i y r1 e1
  split at h
  ·cases h
  ·rename_i hb
   split at h
   ·cases h
    exact (expP_suf _ _ _ _ _ e1).trans (.tail (isT_kind (by simpa using hb)))
   ·cases h
theorem lets_x {T r:List Tok} (h:PSt T r) (x:Ind):RX 99 [.ptr 0 0,.ptr 1 0] [pobj T r,.cells 31 (celN x .nils .nils .nils .nils .nils)] 2 (letsP r.length [] r) (fun _=>[]) (fun v=>[pobj T v.2,.cells 31 (celN x .nils (.sl 6 encL l0 v.1) .nils .nils .nils)]) (fun _=>[]):=by
 refine xO (cxXOk (fun ch=>∃ er,letsP r.length [] r=.error er∧ch=stopC er) 2 46 [0,1,4,6]) Tryz.func99 ?_
 conv=>whnf
 refine loop_inv (cxXOk _ _ _ _) (fun s:Nat×(List LetE×List Tok)=>PSt T s.2.2∧s.2.2.length≤s.1∧s.2.1.length≤20∧letsP r.length [] r=letsP s.1 s.2.1 s.2.2) (fun s=>s.1) (fun s=>⟨[(0,.ptr 0 0),(1,.ptr 1 0),(4,.own 2)],[(0,.cells 132 (pcell T (s.2.2))),(1,.cells 31 (celN x .nils (.own 3) .nils .nils .nils)),(2,.row 9 1 encS [] ((s.2.1).map LetE.name)),(3,.row 55 6 encL l0 (s.2.1))],4⟩) (r.length,([],r)) ⟨h,Nat.le_refl _,by simp,rfl⟩ ((wk_of [(0,.id 0),(1,.id 1),(2,.nil),(3,.nil)] rfl ⟨wc0,wc0,af0,trivial⟩ ⟨wb0,wb0,⟨_,rfl,ah0⟩,⟨_,rfl,ah0⟩,trivial⟩)) ?_
 rintro ⟨f,ls,q⟩ ⟨hq,hqf,hls,hsp⟩
 dsimp only at hq hqf hls hsp ⊢
 obtain ⟨f,rfl⟩:∃ g,f=g+1:=⟨f-1,by have:=hq.pos;omega⟩
 have hi:=is_ok hq [108,101,116]
 cases hb:isT [108,101,116] q with
 | false =>
  rw [hb] at hi
  conv=>whnf
  refine cO (fun _=>hi) ?_
  conv=>whnf
  refine gF ?_
  conv=>whnf
  have hs:letsP r.length [] r=.ok (ls,q):=by rw [hsp,letsP,if_pos hb]
  refine ⟨⟨[(0,.ptr 0 0)],[(0,.cells 132 (pcell T q)),(1,.cells 31 (celN x .nils (.sl 6 encL l0 ls) .nils .nils .nils))],2⟩,(wk_frz [3]).trans (wk_of [(0,.id 0),(1,.id 1)] rfl ⟨wc0,trivial⟩ ⟨wb0,wb0,trivial⟩),rfl,rfl,?_⟩
  conv=>whnf
  exact ⟨rfl,(ls,q),hs,rfl,rfl,rfl⟩
 | true =>
  rw [hb] at hi
  have q1:=hq.tail (isT_kind hb)
  have hat:=hq.at
  have hqp:=hq.pos
  have hqle:=hq.le
  have hbig:=hq.big
  have hnl:(ls.map LetE.name).length=ls.length:=List.length_map ..
  conv=>whnf
  refine cO (fun _=>hi) ?_
  conv=>whnf
  refine gT ?_
  conv=>whnf
  cases h20:decide ((ls.length:Int)<20) with
  | false =>
   have hs:letsP r.length [] r=.error ((hdT q).pos,6):=by rw [hsp,letsP,if_neg (by simp [hb]),if_pos (of_decide_eq_false h20)];rfl
   rw [hnl,h20]
   exact CallG.stop rfl (riox_stop (chk_f hq 6) [0] rfl rfl rfl ac0) ((fun ch hc=>⟨_,hs,hc⟩))
  | true =>
   have h20':=of_decide_eq_true h20
   have hs:letsP r.length [] r=match freshP (ls.map LetE.name) q.tail with
    | .error e=>.error e
    | .ok (s,r1)=>match wantP [61] r1 with
     | .error e=>.error e
     | .ok r2=>match wholeP [59] r2 with
      | .error e=>.error e
      | .ok (x,r3)=>letsP f (ls++[⟨s,x⟩]) r3:=by rw [hsp,letsP,if_neg (by simp [hb]),if_neg (by omega)]
   rw [hnl,h20]
   refine cR ((chk_t hq 6)) [0] ?_
   conv=>whnf
   refine iO ?_
   conv=>whnf
   rw [hat]
   conv=>whnf
   rcases e1:freshP (ls.map LetE.name) q.tail with e | ⟨s,r1⟩
   ·exact CallG.stop rfl (riox_stop (rx_er (fresh_x q1 (ls.map LetE.name) (by omega)) e1) [0,2] rfl rfl rfl ac0) (fun ch hc=>⟨e,by simp only [hs,e1],hc⟩)
   refine cR (rx_ok (fresh_x q1 (ls.map LetE.name) om0) e1) [0,2] ?_
   conv=>whnf
   refine And.intro rfl ?_
   conv=>whnf
   refine And.intro ⟨rfl,rfl⟩ (And.intro (by show ((List.map LetE.name ls).length+1)*16≤140737488355328;rw [hnl];omega) ?_)
   conv=>whnf
   refine Exists.intro s (And.intro rfl ?_)
   conv=>whnf
   have q2:=q1.to (freshP_suf e1)
   rcases e2:wantP [61] r1 with e | r2
   ·exact CallG.stop rfl (riox_stop (rx_er (want1_x q2 [61]) e2) [0,6] rfl rfl rfl ac0) (fun ch hc=>⟨e,by simp only [hs,e1,e2],hc⟩)
   refine cR (rx_ok (want1_x q2 [61]) e2) [0,6] ?_
   conv=>whnf
   have q3:=q2.to (wantP_suf e2)
   have hnl2:((List.map LetE.name ls++[s]).length:Int)=ls.length+1:=by rw [List.length_append,hnl];rfl
   have hgs:(List.map LetE.name ls++[s]).getD ((ls.length:Nat):Int).toNat []=s:=by
    rw [Int.toNat_natCast,List.getD_eq_getElem?_getD,List.getElem?_append_right (by omega),hnl,Nat.sub_self]
    rfl
   have hlt2:((ls.length:Nat):Int).toNat<(List.map LetE.name ls++[s]).length:=by rw [Int.toNat_natCast,List.length_append,hnl];exact Nat.lt_succ_self _
   have hm1:((ls.length:Nat):Int)+1-1=(ls.length:Nat):=by omega
   rcases e3:wholeP [59] r2 with e | ⟨y,r3⟩
   ·refine DrawG.effp ag0 12 ?_
    conv=>whnf
    rw [hnl2]
    refine iO ?_
    conv=>whnf
    rw [hm1]
    refine iO ?_
    conv=>whnf
    rw [hgs]
    refine And.intro hlt2 (And.intro rfl ?_)
    conv=>whnf
    exact .mk [0] _ (riox_stop ((rx_er (whole_x q3 [59]) e3)) [0] rfl rfl rfl ac0) ((fun ch hc=>⟨e,by simp only [hs,e1,e2,e3],hc⟩)) ⟨by kernel_rfl,by kernel_rfl⟩
   refine .eff ag0 ?_
   conv=>whnf
   rw [hnl2]
   refine iO ?_
   conv=>whnf
   rw [hm1]
   refine iO ?_
   conv=>whnf
   rw [hgs]
   refine And.intro hlt2 (And.intro rfl ?_)
   conv=>whnf
   refine cR ((rx_ok (whole_x q3 [59]) e3)) [0] ?_
   conv=>whnf
   refine And.intro rfl ?_
   conv=>whnf
   refine And.intro ⟨rfl,rfl⟩ (And.intro (by show (ls.length+1)*80≤140737488355328;omega) ?_)
   conv=>whnf
   refine Exists.intro ⟨s,y⟩ (And.intro rfl ?_)
   conv=>whnf
   refine ⟨by kernel_rfl,?_⟩
   conv=>whnf
   conv=>whnf
   have q4:=q3.to (wholeP_suf e3)
   have hl4:r3.length≤f:=by
    have a:=((Suf.refl _).trans (freshP_suf e1)).le
    have b:=(wantP_suf e2).le
    have c:=(wholeP_suf e3).le
    have d:=hq.tl
    omega
   exact ⟨(f,(ls++[⟨s,y⟩],r3)),⟨q4,hl4,(by show (ls++[_]).length≤20;rw [List.length_append];show ls.length+1≤20;omega),(by simp only [hs,e1,e2,e3])⟩,Nat.lt_succ_self f,(wk_of [(0,.id 0),(1,.id 1),(2,.id 5),(3,.id 9)] rfl ⟨wc0,wc0,af0,trivial⟩ ⟨wb0,wb0,⟨_,rfl,(by first | exact .row _ _ _ _ _ _ _ rfl (by rw [List.map_append];rfl) | exact .lstrow _ _ _ _ _ _ _ rfl (by rw [List.map_append];rfl) | exact .nilrow _ _ _ _ _ (by rw [List.map_append];rfl) | exact .truncrow _ _ _ _ _ _ _ _ rfl (by omega) (by rw [List.map_append];rfl))⟩,⟨_,rfl,ah0⟩,trivial⟩)⟩
def covsP:Nat→List Cov→List Tok→Ps (List Cov)
 | 0,ls,r=>.ok (ls,r)
 | f+1,ls,r =>
  if isT [99,111,118,101,110,97,110,116] r=false then .ok (ls,r)
  else if ¬ (ls.length:Int)<20 then errP 6 r
  else match freshP (ls.map Cov.name) r.tail with
   | .error e=>.error e
   | .ok (s,r1)=>match wantP [109,117,115,116] r1 with
    | .error e=>.error e
    | .ok r2=>match wholeP [103,114,97,99,101] r2 with
     | .error e=>.error e
     | .ok (x,r3)=>match numP 0 1000 r3 with
      | .error e=>.error e
      | .ok (n,r4)=>match wantP [59] r4 with
       | .error e=>.error e
       | .ok r5=>covsP f (ls++[⟨s,x,n⟩]) r5
theorem covs_x {T r:List Tok} (h:PSt T r) (x:Ind):RX 101 [.ptr 0 0,.ptr 1 0] [pobj T r,.cells 31 (celN x (.lsl 5 (argsE x.coupon)) (.sl 6 encL l0 x.lets) .nils .nils .nils)] 2 (covsP r.length [] r) (fun _=>[]) (fun v=>[pobj T v.2,.cells 31 (celN x (.lsl 5 (argsE x.coupon)) (.sl 6 encL l0 x.lets) (.sl 7 encC c0 v.1) .nils .nils)]) (fun _=>[]):=by
 refine xO (cxXOk (fun ch=>∃ er,covsP r.length [] r=.error er∧ch=stopC er) 2 54 [0,1,4,5,7]) Tryz.func101 ?_
 conv=>whnf
 refine loop_inv (cxXOk _ _ _ _) (fun s:Nat×(List Cov×List Tok)=>PSt T s.2.2∧s.2.2.length≤s.1∧s.2.1.length≤20∧covsP r.length [] r=covsP s.1 s.2.1 s.2.2) (fun s=>s.1) (fun s=>⟨[(0,.ptr 0 0),(1,.ptr 1 0),(4,.own 2)],[(0,.cells 132 (pcell T (s.2.2))),(1,.cells 31 (celN x (.lsl 5 (argsE x.coupon)) (.sl 6 encL l0 x.lets) (.own 3) .nils .nils)),(2,.row 9 1 encS [] ((s.2.1).map Cov.name)),(3,.row 57 7 encC c0 (s.2.1))],4⟩) (r.length,([],r)) ⟨h,Nat.le_refl _,by simp,rfl⟩ ((wk_of [(0,.id 0),(1,.id 1),(2,.nil),(3,.nil)] rfl ⟨wc0,wc0,af0,trivial⟩ ⟨wb0,wb0,⟨_,rfl,ah0⟩,⟨_,rfl,ah0⟩,trivial⟩)) ?_
 rintro ⟨f,ls,q⟩ ⟨hq,hqf,hls,hsp⟩
 dsimp only at hq hqf hls hsp ⊢
 obtain ⟨f,rfl⟩:∃ g,f=g+1:=⟨f-1,by have:=hq.pos;omega⟩
 have hi:=is_ok hq [99,111,118,101,110,97,110,116]
 cases hb:isT [99,111,118,101,110,97,110,116] q with
 | false =>
  rw [hb] at hi
  conv=>whnf
  refine cO (fun _=>hi) ?_
  conv=>whnf
  refine gF ?_
  conv=>whnf
  have hs:covsP r.length [] r=.ok (ls,q):=by rw [hsp,covsP,if_pos hb]
  refine ⟨⟨[(0,.ptr 0 0)],[(0,.cells 132 (pcell T q)),(1,.cells 31 (celN x (.lsl 5 (argsE x.coupon)) (.sl 6 encL l0 x.lets) (.sl 7 encC c0 ls) .nils .nils))],2⟩,(wk_frz [3]).trans (wk_of [(0,.id 0),(1,.id 1)] rfl ⟨wc0,trivial⟩ ⟨wb0,wb0,trivial⟩),rfl,rfl,?_⟩
  conv=>whnf
  exact ⟨rfl,(ls,q),hs,rfl,rfl,rfl⟩
 | true =>
  rw [hb] at hi
  have q1:=hq.tail (isT_kind hb)
  have hat:=hq.at
  have hqp:=hq.pos
  have hqle:=hq.le
  have hbig:=hq.big
  have hnl:(ls.map Cov.name).length=ls.length:=List.length_map ..
  conv=>whnf
  refine cO (fun _=>hi) ?_
  conv=>whnf
  refine gT ?_
  conv=>whnf
  cases h20:decide ((ls.length:Int)<20) with
  | false =>
   have hs:covsP r.length [] r=.error ((hdT q).pos,6):=by rw [hsp,covsP,if_neg (by simp [hb]),if_pos (of_decide_eq_false h20)];rfl
   rw [hnl,h20]
   exact CallG.stop rfl (riox_stop (chk_f hq 6) [0] rfl rfl rfl ac0) ((fun ch hc=>⟨_,hs,hc⟩))
  | true =>
   have h20':=of_decide_eq_true h20
   have hs:covsP r.length [] r=match freshP (ls.map Cov.name) q.tail with
    | .error e=>.error e
    | .ok (s,r1)=>match wantP [109,117,115,116] r1 with
     | .error e=>.error e
     | .ok r2=>match wholeP [103,114,97,99,101] r2 with
      | .error e=>.error e
      | .ok (x,r3)=>match numP 0 1000 r3 with
       | .error e=>.error e
       | .ok (n,r4)=>match wantP [59] r4 with
        | .error e=>.error e
        | .ok r5=>covsP f (ls++[⟨s,x,n⟩]) r5:=by rw [hsp,covsP,if_neg (by simp [hb]),if_neg (by omega)]
   rw [hnl,h20]
   refine cR ((chk_t hq 6)) [0] ?_
   conv=>whnf
   refine iO ?_
   conv=>whnf
   rw [hat]
   conv=>whnf
   rcases e1:freshP (ls.map Cov.name) q.tail with e | ⟨s,r1⟩
   ·exact CallG.stop rfl (riox_stop (rx_er (fresh_x q1 (ls.map Cov.name) (by omega)) e1) [0,2] rfl rfl rfl ac0) (fun ch hc=>⟨e,by simp only [hs,e1],hc⟩)
   refine cR (rx_ok (fresh_x q1 (ls.map Cov.name) om0) e1) [0,2] ?_
   conv=>whnf
   refine And.intro rfl ?_
   conv=>whnf
   refine And.intro ⟨rfl,rfl⟩ (And.intro (by show ((List.map Cov.name ls).length+1)*16≤140737488355328;rw [hnl];omega) ?_)
   conv=>whnf
   refine Exists.intro s (And.intro rfl ?_)
   conv=>whnf
   have q2:=q1.to (freshP_suf e1)
   rcases e2:wantP [109,117,115,116] r1 with e | r2
   ·exact CallG.stop rfl (riox_stop (rx_er (want1_x q2 [109,117,115,116]) e2) [0,6] rfl rfl rfl ac0) (fun ch hc=>⟨e,by simp only [hs,e1,e2],hc⟩)
   refine cR (rx_ok (want1_x q2 [109,117,115,116]) e2) [0,6] ?_
   conv=>whnf
   have q3:=q2.to (wantP_suf e2)
   have hnl2:((List.map Cov.name ls++[s]).length:Int)=ls.length+1:=by rw [List.length_append,hnl];rfl
   have hgs:(List.map Cov.name ls++[s]).getD ((ls.length:Nat):Int).toNat []=s:=by
    rw [Int.toNat_natCast,List.getD_eq_getElem?_getD,List.getElem?_append_right (by omega),hnl,Nat.sub_self]
    rfl
   have hlt2:((ls.length:Nat):Int).toNat<(List.map Cov.name ls++[s]).length:=by rw [Int.toNat_natCast,List.length_append,hnl];exact Nat.lt_succ_self _
   have hm1:((ls.length:Nat):Int)+1-1=(ls.length:Nat):=by omega
   rcases e3:wholeP [103,114,97,99,101] r2 with e | ⟨y,r3⟩
   ·refine DrawG.effp ag0 7 ?_
    conv=>whnf
    rw [hnl2]
    refine iO ?_
    conv=>whnf
    rw [hm1]
    refine iO ?_
    conv=>whnf
    rw [hgs]
    refine And.intro hlt2 (And.intro rfl ?_)
    conv=>whnf
    exact .mk [0] _ (riox_stop ((rx_er (whole_x q3 [103,114,97,99,101]) e3)) [0] rfl rfl rfl ac0) ((fun ch hc=>⟨e,by simp only [hs,e1,e2,e3],hc⟩)) ⟨by kernel_rfl,by kernel_rfl⟩
   refine .eff ag0 ?_
   conv=>whnf
   rw [hnl2]
   refine iO ?_
   conv=>whnf
   rw [hm1]
   refine iO ?_
   conv=>whnf
   rw [hgs]
   refine And.intro hlt2 (And.intro rfl ?_)
   conv=>whnf
   refine cR ((rx_ok (whole_x q3 [103,114,97,99,101]) e3)) [0] ?_
   conv=>whnf
   refine ⟨by kernel_rfl,?_⟩
   conv=>whnf
   conv=>whnf
   have q4:=q3.to (wholeP_suf e3)
   rcases e4:numP 0 1000 r3 with e | ⟨n,r4⟩
   ·exact CallG.stop rfl (riox_stop (rx_er (num_x q4 0 1000) e4) [0] rfl rfl rfl ac0) (fun ch hc=>⟨e,by simp only [hs,e1,e2,e3,e4],hc⟩)
   refine cR (rx_ok (num_x q4 0 1000) e4) [0] ?_
   conv=>whnf
   have q5:=q4.to (numP_suf e4).1
   rcases e5:wantP [59] r4 with e | r5
   ·exact CallG.stop rfl (riox_stop (rx_er (want1_x q5 [59]) e5) [0,9] rfl rfl rfl ac0) (fun ch hc=>⟨e,by simp only [hs,e1,e2,e3,e4,e5],hc⟩)
   refine cR (rx_ok (want1_x q5 [59]) e5) [0,9] ?_
   conv=>whnf
   have q6:=q5.to (wantP_suf e5)
   refine .eff ag0 ?_;conv=>whnf
   refine And.intro rfl ?_;conv=>whnf
   refine And.intro ⟨rfl,rfl⟩ (And.intro (by show (ls.length+1)*88≤140737488355328;omega) ?_)
   conv=>whnf
   refine Exists.intro ⟨s,y,n⟩ (And.intro rfl ?_)
   conv=>whnf
   refine ⟨by kernel_rfl,?_⟩
   conv=>whnf
   conv=>whnf
   have hl4:r5.length≤f:=by
    have a:=((Suf.refl _).trans (freshP_suf e1)).le
    have b:=(wantP_suf e2).le
    have c:=(wholeP_suf e3).le
    have c4:=(numP_suf e4).1.le
    have c5:=(wantP_suf e5).le
    have d:=hq.tl
    omega
   exact ⟨(f,(ls++[⟨s,y,n⟩],r5)),⟨q6,hl4,(by show (ls++[_]).length≤20;rw [List.length_append];show ls.length+1≤20;omega),(by simp only [hs,e1,e2,e3,e4,e5])⟩,Nat.lt_succ_self f,(wk_of [(0,.id 0),(1,.id 1),(2,.id 5),(3,.id 11)] rfl ⟨wc0,wc0,af0,trivial⟩ ⟨wb0,wb0,⟨_,rfl,(by first | exact .row _ _ _ _ _ _ _ rfl (by rw [List.map_append];rfl) | exact .lstrow _ _ _ _ _ _ _ rfl (by rw [List.map_append];rfl) | exact .nilrow _ _ _ _ _ (by rw [List.map_append];rfl) | exact .truncrow _ _ _ _ _ _ _ _ rfl (by omega) (by rw [List.map_append];rfl))⟩,⟨_,rfl,ah0⟩,trivial⟩)⟩
end Go.Proofs.YtohankpncipefaaGreatDoor
