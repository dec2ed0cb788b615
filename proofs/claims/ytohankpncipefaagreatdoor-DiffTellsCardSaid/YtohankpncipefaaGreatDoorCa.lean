import Derived.Test.YtohankpncipefaaGreatDoorProg
import Derived.Test.YtohankpncipefaaGreatDoorLc
import Derived.KernelRfl
import Derived.Shelf.Strconv.Itoa3
import Derived.Shelf.Small.Wraps
import Derived.Shelf.Small.Strs
import Derived.Shelf.Strings.OnBuilder
import Derived.Shelf.Strings.Split
import Derived.Shelf.Strings.Prefix
import Derived.Ground.NamesProg
import Derived.Lib.ItoaLen
import Derived.Lib.IndexBytes
import Derived.Lib.SplitLaws
import Derived.Lib.Strings
import Derived.Shelf.Strings.Builder1
namespace Go.Proofs.YtohankpncipefaaGreatDoor
open Go.Own
instance:Tabs:=⟨fun g=>match g with
 | 1=>some fun cs=>∃ m:Int,cs=#[.int .i64 m]
 | 2=>some fun cs=>cs=(Lib.pow10Tab.map fun z=>Value.int .u64 z).toArray
 | _=>none⟩
def tab:Tab:=[
 (3,{ desc:=.int .i64,size:=1,bytes:=8,zero:=.int .i64 0 }),
 (4,{ desc:=.bool,size:=1,bytes:=1,zero:=.bool false }),
 (5,{ desc:=.int .u8,size:=1,bytes:=1,zero:=.int .u8 0 }),
 (9,{ desc:=.string,size:=1,bytes:=16,zero:=.string ⟨#[]⟩ }),
 (20,{ desc:=.interface #[],size:=1,bytes:=16,zero:=.nilIface }),
 (22,{ desc:=.slice 9,size:=1,bytes:=24,zero:=.slice none 0 0 }),
 (23,{ desc:=.slice 50,size:=1,bytes:=24,zero:=.slice none 0 0 }),
 (24,{ desc:=.slice 55,size:=1,bytes:=24,zero:=.slice none 0 0 }),
 (25,{ desc:=.slice 27,size:=1,bytes:=24,zero:=.slice none 0 0 }),
 (27, { desc := .struct #[{ name := "Op", type := 3, offset := 0, embedded := false, tag := "", pkgPath := "", byteOffset := 0 }, { name := "N", type := 3, offset := 1, embedded := false, tag := "", pkgPath := "", byteOffset := 8 }, { name := "Unit", type := 3, offset := 2, embedded := false, tag := "", pkgPath := "", byteOffset := 16 }, { name := "S", type := 9, offset := 3, embedded := false, tag := "", pkgPath := "", byteOffset := 24 }, { name := "Args", type := 25, offset := 4, embedded := false, tag := "", pkgPath := "", byteOffset := 40 }], size := 5, bytes := 64, zero := .agg #[.int .i64 0, .int .i64 0, .int .i64 0, .string ⟨#[]⟩, .slice none 0 0] }),
 (28,{ desc:=.slice 57,size:=1,bytes:=24,zero:=.slice none 0 0 }),
 (29,{ desc:=.slice 87,size:=1,bytes:=24,zero:=.slice none 0 0 }),
 (31, { desc := .struct #[{ name := "Name", type := 9, offset := 0, embedded := false, tag := "", pkgPath := "", byteOffset := 0 }, { name := "Issuer", type := 9, offset := 1, embedded := false, tag := "", pkgPath := "", byteOffset := 16 }, { name := "Face", type := 3, offset := 2, embedded := false, tag := "", pkgPath := "", byteOffset := 32 }, { name := "From", type := 3, offset := 3, embedded := false, tag := "", pkgPath := "", byteOffset := 40 }, { name := "To", type := 3, offset := 4, embedded := false, tag := "", pkgPath := "", byteOffset := 48 }, { name := "Every", type := 3, offset := 5, embedded := false, tag := "", pkgPath := "", byteOffset := 56 }, { name := "Count", type := 3, offset := 6, embedded := false, tag := "", pkgPath := "", byteOffset := 64 }, { name := "Adjust", type := 3, offset := 7, embedded := false, tag := "", pkgPath := "", byteOffset := 72 }, { name := "Record", type := 3, offset := 8, embedded := false, tag := "", pkgPath := "", byteOffset := 80 }, { name := "Rank", type := 3, offset := 9, embedded := false, tag := "", pkgPath := "", byteOffset := 88 }, { name := "Lets", type := 24, offset := 10, embedded := false, tag := "", pkgPath := "", byteOffset := 96 }, { name := "Coupon", type := 27, offset := 11, embedded := false, tag := "", pkgPath := "", byteOffset := 120 }, { name := "Cap", type := 3, offset := 16, embedded := false, tag := "", pkgPath := "", byteOffset := 184 }, { name := "Covenants", type := 28, offset := 17, embedded := false, tag := "", pkgPath := "", byteOffset := 192 }, { name := "Favour", type := 22, offset := 18, embedded := false, tag := "", pkgPath := "", byteOffset := 216 }, { name := "Cross", type := 3, offset := 19, embedded := false, tag := "", pkgPath := "", byteOffset := 240 }, { name := "Calls", type := 29, offset := 20, embedded := false, tag := "", pkgPath := "", byteOffset := 248 }, { name := "Notice", type := 3, offset := 21, embedded := false, tag := "", pkgPath := "", byteOffset := 272 }, { name := "Sink", type := 3, offset := 22, embedded := false, tag := "", pkgPath := "", byteOffset := 280 }, { name := "Majority", type := 3, offset := 23, embedded := false, tag := "", pkgPath := "", byteOffset := 288 }, { name := "Fast", type := 3, offset := 24, embedded := false, tag := "", pkgPath := "", byteOffset := 296 }], size := 25, bytes := 304, zero := .agg #[.string ⟨#[]⟩, .string ⟨#[]⟩, .int .i64 0, .int .i64 0, .int .i64 0, .int .i64 0, .int .i64 0, .int .i64 0, .int .i64 0, .int .i64 0, .slice none 0 0, .int .i64 0, .int .i64 0, .int .i64 0, .string ⟨#[]⟩, .slice none 0 0, .int .i64 0, .slice none 0 0, .slice none 0 0, .int .i64 0, .slice none 0 0, .int .i64 0, .int .i64 0, .int .i64 0, .int .i64 0] }),
 (35,{ desc:=.int .i64,size:=1,bytes:=8,zero:=.int .i64 0 }),
 (50, { desc := .struct #[{ name := "Old", type := 3, offset := 0, embedded := false, tag := "", pkgPath := "", byteOffset := 0 }, { name := "New", type := 3, offset := 1, embedded := false, tag := "", pkgPath := "", byteOffset := 8 }], size := 2, bytes := 16, zero := .agg #[.int .i64 0, .int .i64 0] }),
 (55, { desc := .struct #[{ name := "Name", type := 9, offset := 0, embedded := false, tag := "", pkgPath := "", byteOffset := 0 }, { name := "Body", type := 27, offset := 1, embedded := false, tag := "", pkgPath := "", byteOffset := 16 }], size := 6, bytes := 80, zero := .agg #[.string ⟨#[]⟩, .int .i64 0, .int .i64 0, .int .i64 0, .string ⟨#[]⟩, .slice none 0 0] }),
 (57, { desc := .struct #[{ name := "Name", type := 9, offset := 0, embedded := false, tag := "", pkgPath := "", byteOffset := 0 }, { name := "Must", type := 27, offset := 1, embedded := false, tag := "", pkgPath := "", byteOffset := 16 }, { name := "Grace", type := 3, offset := 6, embedded := false, tag := "", pkgPath := "", byteOffset := 80 }], size := 7, bytes := 88, zero := .agg #[.string ⟨#[]⟩, .int .i64 0, .int .i64 0, .int .i64 0, .string ⟨#[]⟩, .slice none 0 0, .int .i64 0] }),
 (59,{ desc:=.array 201 3,size:=201,bytes:=1608,zero:=.agg (Array.replicate 201 (.int .i64 0)) }),
 (60,{ desc:=.array 201 59,size:=40401,bytes:=323208,zero:=.agg (Array.replicate 40401 (.int .i64 0)) }),
 (62,{ desc:=.slice 64,size:=1,bytes:=24,zero:=.slice none 0 0 }),
 (64,{ desc:=.slice 3,size:=1,bytes:=24,zero:=.slice none 0 0 }),
 (70, { desc := .struct #[{ name := "name", type := 9, offset := 0, embedded := false, tag := "", pkgPath := "consol/diff", byteOffset := 0 }, { name := "same", type := 4, offset := 1, embedded := false, tag := "", pkgPath := "consol/diff", byteOffset := 16 }], size := 2, bytes := 24, zero := .agg #[.string ⟨#[]⟩, .bool false] }),
 (71,{ desc:=.slice 70,size:=1,bytes:=24,zero:=.slice none 0 0 }),
 (73,{ desc:=.pointer 76,size:=1,bytes:=8,zero:=.pointer none }),
 (74,{ desc:=.slice 5,size:=1,bytes:=24,zero:=.slice none 0 0 }),
 (76, { desc := .struct #[{ name := "addr", type := 73, offset := 0, embedded := false, tag := "", pkgPath := "strings", byteOffset := 0 }, { name := "buf", type := 74, offset := 1, embedded := false, tag := "", pkgPath := "strings", byteOffset := 8 }], size := 2, bytes := 32, zero := .agg #[.pointer none, .slice none 0 0] }),
 (87, { desc := .struct #[{ name := "From", type := 3, offset := 0, embedded := false, tag := "", pkgPath := "", byteOffset := 0 }, { name := "Price", type := 3, offset := 1, embedded := false, tag := "", pkgPath := "", byteOffset := 8 }], size := 2, bytes := 16, zero := .agg #[.int .i64 0, .int .i64 0] }),
 (90,{ desc:=.pointer 132,size:=1,bytes:=8,zero:=.pointer none }),
 (94,{ desc:=.pointer 3,size:=1,bytes:=8,zero:=.pointer none }),
 (95,{ desc:=.pointer 35,size:=1,bytes:=8,zero:=.pointer none }),
 (118,{ desc:=.func #[3,3] #[9] false,size:=1,bytes:=8,zero:=.nilFunc }),
 (122, { desc := .struct #[{ name := "text", type := 9, offset := 0, embedded := false, tag := "", pkgPath := "consol/syntax", byteOffset := 0 }, { name := "op", type := 3, offset := 1, embedded := false, tag := "", pkgPath := "consol/syntax", byteOffset := 16 }, { name := "form", type := 3, offset := 2, embedded := false, tag := "", pkgPath := "consol/syntax", byteOffset := 24 }], size := 3, bytes := 32, zero := .agg #[.string ⟨#[]⟩, .int .i64 0, .int .i64 0] }),
 (123,{ desc:=.slice 122,size:=1,bytes:=24,zero:=.slice none 0 0 }),
 (127,{ desc:=.pointer 5,size:=1,bytes:=8,zero:=.pointer none }),
 (128,{ desc:=.slice 145,size:=1,bytes:=24,zero:=.slice none 0 0 }),
 (132, { desc := .struct #[{ name := "l", type := 128, offset := 0, embedded := false, tag := "", pkgPath := "consol/syntax", byteOffset := 0 }, { name := "at", type := 3, offset := 1, embedded := false, tag := "", pkgPath := "consol/syntax", byteOffset := 24 }], size := 2, bytes := 32, zero := .agg #[.slice none 0 0, .int .i64 0] }),
 (134, { desc := .struct #[{ name := "pos", type := 3, offset := 0, embedded := false, tag := "", pkgPath := "consol/syntax", byteOffset := 0 }, { name := "err", type := 35, offset := 1, embedded := false, tag := "", pkgPath := "consol/syntax", byteOffset := 8 }], size := 2, bytes := 16, zero := .agg #[.int .i64 0, .int .i64 0] }),
 (141,{ desc:=.pointer 31,size:=1,bytes:=8,zero:=.pointer none }),
 (145, { desc := .struct #[{ name := "Kind", type := 3, offset := 0, embedded := false, tag := "", pkgPath := "", byteOffset := 0 }, { name := "Text", type := 9, offset := 1, embedded := false, tag := "", pkgPath := "", byteOffset := 8 }, { name := "N", type := 3, offset := 2, embedded := false, tag := "", pkgPath := "", byteOffset := 24 }, { name := "Pos", type := 3, offset := 3, embedded := false, tag := "", pkgPath := "", byteOffset := 32 }], size := 4, bytes := 40, zero := .agg #[.int .i64 0, .string ⟨#[]⟩, .int .i64 0, .int .i64 0] }),
 (186,{ desc:=.array 11 9,size:=11,bytes:=176,zero:=.agg #[.string ⟨#[]⟩,.string ⟨#[]⟩,.string ⟨#[]⟩,.string ⟨#[]⟩,.string ⟨#[]⟩,.string ⟨#[]⟩,.string ⟨#[]⟩,.string ⟨#[]⟩,.string ⟨#[]⟩,.string ⟨#[]⟩,.string ⟨#[]⟩] })]
theorem tabOk:TabOk Tryz.prog tab:=tabOk_of ⟨by kernel_rfl,by kernel_rfl,by kernel_rfl,by kernel_rfl,by kernel_rfl,by kernel_rfl,by kernel_rfl,by kernel_rfl,by kernel_rfl,by kernel_rfl,by kernel_rfl,by kernel_rfl,by kernel_rfl,by kernel_rfl,by kernel_rfl,by kernel_rfl,by kernel_rfl,big_entry (by kernel_rfl) (by kernel_rfl) (by kernel_rfl),big_entry (by kernel_rfl) (by kernel_rfl) (by kernel_rfl),by kernel_rfl,by kernel_rfl,by kernel_rfl,by kernel_rfl,by kernel_rfl,by kernel_rfl,by kernel_rfl,by kernel_rfl,by kernel_rfl,by kernel_rfl,by kernel_rfl,by kernel_rfl,by kernel_rfl,by kernel_rfl,by kernel_rfl,by kernel_rfl,by kernel_rfl,by kernel_rfl,by kernel_rfl,by kernel_rfl,by kernel_rfl,trivial⟩
theorem mixed:Tryz.prog.follows .mixedOrders=true:=by kernel_rfl
noncomputable abbrev cx (N:Nat) (keep:List Nat):Cx:=⟨Tryz.prog,tab,N,keep,0,false,fun _=>False⟩
theorem cxOk (N:Nat) (keep:List Nat):CxOk (cx N keep):=⟨tabOk,mixed⟩
noncomputable abbrev cxP (pn N:Nat) (keep:List Nat):Cx:=⟨Tryz.prog,tab,N,keep,pn,false,fun _=>False⟩
theorem cxPOk (pn N:Nat) (keep:List Nat):CxOk (cxP pn N keep):=⟨tabOk,mixed⟩
noncomputable abbrev cxW (N:Nat) (keep:List Nat):Cx:=⟨Tryz.prog,tab,N,keep,0,true,fun _=>False⟩
noncomputable abbrev cxX (px:List PanicEntry→Prop) (pn N:Nat) (keep:List Nat):Cx:=⟨Tryz.prog,tab,N,keep,pn,false,px⟩
theorem cxXOk (px:List PanicEntry→Prop) (pn N:Nat) (keep:List Nat):CxOk (cxX px pn N keep):=⟨tabOk,mixed⟩
inductive Exp where
 | mk (op n unit:Int) (s:List UInt8) (args:List Exp)
def Exp.op:Exp→Int | .mk a _ _ _ _=>a
def Exp.n:Exp→Int | .mk _ a _ _ _=>a
def Exp.unit:Exp→Int | .mk _ _ a _ _=>a
def Exp.s:Exp→List UInt8 | .mk _ _ _ a _=>a
def Exp.args:Exp→List Exp | .mk _ _ _ _ a=>a
mutual
def encT:Exp→AV
 | .mk op n unit s args=>.agg [.int .i64 op,.int .i64 n,.int .i64 unit,.str s,.lsl 5 (encTs args)]
def encTs:List Exp→List AV
 | []=>[]
 | e::l=>encT e::encTs l
end
def argsE (e:Exp):List AV:=encTs e.args
def encE (e:Exp):AV:=.agg [.int .i64 e.op,.int .i64 e.n,.int .i64 e.unit,.str e.s,.lsl 5 (argsE e)]
theorem encT_eq (e:Exp):encT e=encE e:=by
 cases e
 rw [encT]
 rfl
theorem encTs_eq:∀ l:List Exp,encTs l=l.map encE
 | []=>by rw [encTs];rfl
 | e::l=>by rw [encTs,encT_eq,encTs_eq l];rfl
theorem argsE_eq (e:Exp):argsE e=e.args.map encE:=encTs_eq e.args
theorem argsE_len (e:Exp):(argsE e).length=e.args.length:=by rw [argsE_eq,List.length_map]
def ex0:Exp:=.mk 0 0 0 [] []
instance:Inhabited Exp:=⟨ex0⟩
theorem argsE_get (e:Exp) {k:Nat} (h:k<e.args.length):(argsE e).getD k .undef=encE (e.args.getD k ex0):=by
 rw [argsE_eq,List.getD_eq_getElem?_getD,List.getD_eq_getElem?_getD,List.getElem?_map,List.getElem?_eq_getElem h]
 rfl
theorem args_lt (e:Exp) {x:Exp} (h:x∈e.args):SizeOf.sizeOf x<SizeOf.sizeOf e:=by
 cases e with
 | mk a b c d l =>
  have h1:=List.sizeOf_lt_of_mem (show x∈l from h)
  simp only [Exp.mk.sizeOf_spec]
  omega
def encI (n:Int):AV:=.int .i64 n
def encIs (l:List Int):AV:=.sl 1 encI 0 l
def encB (b:Bool):AV:=.bool b
def encS (s:List UInt8):AV:=.str s
structure LetE where
 name:List UInt8
 body:Exp
def l0:LetE:=⟨[],ex0⟩
instance:Inhabited LetE:=⟨l0⟩
def encL (x:LetE):AV:=.agg [.str x.name,.int .i64 x.body.op,.int .i64 x.body.n,.int .i64 x.body.unit,.str x.body.s,.lsl 5 (argsE x.body)]
structure Cov where
 name:List UInt8
 must:Exp
 grace:Int
def c0:Cov:=⟨[],ex0,0⟩
instance:Inhabited Cov:=⟨c0⟩
def encC (x:Cov):AV:=.agg [.str x.name,.int .i64 x.must.op,.int .i64 x.must.n,.int .i64 x.must.unit,.str x.must.s,.lsl 5 (argsE x.must),.int .i64 x.grace]
structure CallE where
 a:Int
 b:Int
def k0:CallE:=⟨0,0⟩
instance:Inhabited CallE:=⟨k0⟩
def encK (x:CallE):AV:=.agg [.int .i64 x.a,.int .i64 x.b]
structure Ind where
 name:List UInt8
 issuer:List UInt8
 face:Int
 frm:Int
 to:Int
 every:Int
 count:Int
 adjust:Int
 record:Int
 rank:Int
 lets:List LetE
 coupon:Exp
 cap:Int
 cov:List Cov
 favour:List (List UInt8)
 cross:Int
 calls:List CallE
 notice:Int
 sink:Int
 majority:Int
 fast:Int
def i0:Ind:=⟨[],[],0,0,0,0,0,0,0,0,[],ex0,0,[],[],0,[],0,0,0,0⟩
instance:Inhabited Ind:=⟨i0⟩
def celX (x:Ind):List AV:=[.str x.name,.str x.issuer,.int .i64 x.face,.int .i64 x.frm,.int .i64 x.to,.int .i64 x.every,.int .i64 x.count,.int .i64 x.adjust,.int .i64 x.record,.int .i64 x.rank,
 .sl 6 encL l0 x.lets,.int .i64 x.coupon.op,.int .i64 x.coupon.n,.int .i64 x.coupon.unit,.str x.coupon.s,.lsl 5 (argsE x.coupon),.int .i64 x.cap,.sl 7 encC c0 x.cov,.sl 1 encS [] x.favour,.int .i64 x.cross,.sl 2 encK k0 x.calls,
 .int .i64 x.notice,.int .i64 x.sink,.int .i64 x.majority,.int .i64 x.fast]
def encX (x:Ind):AV:=.agg [.str x.name,.str x.issuer,.int .i64 x.face,.int .i64 x.frm,.int .i64 x.to,.int .i64 x.every,.int .i64 x.count,.int .i64 x.adjust,.int .i64 x.record,.int .i64 x.rank,
 .sl 6 encL l0 x.lets,.int .i64 x.coupon.op,.int .i64 x.coupon.n,.int .i64 x.coupon.unit,.str x.coupon.s,.lsl 5 (argsE x.coupon),.int .i64 x.cap,.sl 7 encC c0 x.cov,.sl 1 encS [] x.favour,.int .i64 x.cross,.sl 2 encK k0 x.calls,
 .int .i64 x.notice,.int .i64 x.sink,.int .i64 x.majority,.int .i64 x.fast]
def encXs (l:List Ind):AV:=.sl 25 encX i0 l
structure Tok where
 kind:Int
 text:List UInt8
 n:Int
 pos:Int
deriving DecidableEq
def t0:Tok:=⟨0,[],0,0⟩
instance:Inhabited Tok:=⟨t0⟩
def encTk (t:Tok):AV:=.agg [.int .i64 t.kind,.str t.text,.int .i64 t.n,.int .i64 t.pos]
def encTks (l:List Tok):AV:=.sl 4 encTk t0 l
structure Opr where
 text:List UInt8
 op:Int
 form:Int
deriving DecidableEq
def o0:Opr:=⟨[],0,0⟩
instance:Inhabited Opr:=⟨o0⟩
def encO (o:Opr):AV:=.agg [.str o.text,.int .i64 o.op,.int .i64 o.form]
structure Chg where
 o:Int
 n:Int
instance:Inhabited Chg:=⟨⟨0,0⟩⟩
abbrev g0:Chg:=⟨0,0⟩
def encG (c:Chg):AV:=.agg [.int .i64 c.o,.int .i64 c.n]
def encGs (l:List Chg):AV:=.sl 2 encG g0 l
open Go.Shelf
def Tryz.itoaB_ren:Go.Shelf.Ren:=⟨fun | 171=>40 | 243=>82 | 246=>130 | 283=>164 | 284=>165 | 285=>166 | 286=>167 | 129=>184 | 317=>183 | 318=>185 | 319=>186 | 320=>187 | 337=>192 | 338=>193 | n=>n,fun | 3=>3 | 9=>9 | 2=>2 | 4=>4 | 171=>178 | 0=>0 | 53=>179 | 37=>74 | 5=>5 | 173=>182 | 212=>192 | 51=>193 | 20=>20 | 213=>194 | 46=>189 | 232=>205 | 233=>206 | n=>n,fun | 17=>2 | 18=>5 | 19=>6 | n=>n⟩
theorem Tryz.itoaB:Go.Proofs.LaysM.n171 Tryz.prog Tryz.itoaB_ren:={
 mixed:=by kernel_rfl
 f129:=Tryz.func184.trans (congrArg some (by kernel_rfl))
 f171:=Tryz.func40.trans (congrArg some (by kernel_rfl))
 f243:=Tryz.func82.trans (congrArg some (by kernel_rfl))
 f246:=Tryz.func130.trans (congrArg some (by kernel_rfl))
 f283:=Tryz.func164.trans (congrArg some (by kernel_rfl))
 f284:=Tryz.func165.trans (congrArg some (by kernel_rfl))
 f285:=Tryz.func166.trans (congrArg some (by kernel_rfl))
 f286:=Tryz.func167.trans (congrArg some (by kernel_rfl))
 f317:=Tryz.func183.trans (congrArg some (by kernel_rfl))
 f318:=Tryz.func185.trans (congrArg some (by kernel_rfl))
 f319:=Tryz.func186.trans (congrArg some (by kernel_rfl))
 f320:=Tryz.func187.trans (congrArg some (by kernel_rfl))
 f337:=Tryz.func192.trans (congrArg some (by kernel_rfl))
 f338:=Tryz.func193.trans (congrArg some (by kernel_rfl))
 t0:=Tryz.underlying0
 a0:=Tryz.isAgg0
 z0:=Tryz.sizeOf0
 v0:=Tryz.zeroValue0
 t2:=Tryz.underlying2
 a2:=Tryz.isAgg2
 z2:=Tryz.sizeOf2
 v2:=Tryz.zeroValue2
 t3:=Tryz.underlying3
 a3:=Tryz.isAgg3
 z3:=Tryz.sizeOf3
 v3:=Tryz.zeroValue3
 t4:=Tryz.underlying4
 a4:=Tryz.isAgg4
 z4:=Tryz.sizeOf4
 v4:=Tryz.zeroValue4
 t5:=Tryz.underlying5
 a5:=Tryz.isAgg5
 z5:=Tryz.sizeOf5
 v5:=Tryz.zeroValue5
 t9:=Tryz.underlying9
 a9:=Tryz.isAgg9
 z9:=Tryz.sizeOf9
 v9:=Tryz.zeroValue9
 t20:=Tryz.underlying20
 a20:=Tryz.isAgg20
 z20:=Tryz.sizeOf20
 v20:=Tryz.zeroValue20
 t37:=Tryz.underlying74
 a37:=Tryz.isAgg74
 z37:=Tryz.sizeOf74
 v37:=Tryz.zeroValue74
 t46:=Tryz.underlying189
 a46:=Tryz.isAgg189
 z46:=Tryz.sizeOf189
 v46:=Tryz.zeroValue189
 t51:=Tryz.underlying193
 a51:=Tryz.isAgg193
 z51:=Tryz.sizeOf193
 v51:=Tryz.zeroValue193
 t53:=Tryz.underlying179
 a53:=Tryz.isAgg179
 z53:=Tryz.sizeOf179
 v53:=Tryz.zeroValue179
 t171:=Tryz.underlying178
 a171:=Tryz.isAgg178
 z171:=Tryz.sizeOf178
 v171:=Tryz.zeroValue178
 t173:=Tryz.underlying182
 a173:=Tryz.isAgg182
 z173:=Tryz.sizeOf182
 v173:=Tryz.zeroValue182
 t212:=Tryz.underlying192
 a212:=Tryz.isAgg192
 z212:=Tryz.sizeOf192
 v212:=Tryz.zeroValue192
 t213:=Tryz.underlying194
 a213:=Tryz.isAgg194
 z213:=Tryz.sizeOf194
 t232:=Tryz.underlying205
 a232:=Tryz.isAgg205
 z232:=Tryz.sizeOf205
 v232:=Tryz.zeroValue205
 t233:=Tryz.underlying206
 a233:=Tryz.isAgg206
 z233:=Tryz.sizeOf206
 v233:=Tryz.zeroValue206
 g17:=by kernel_rfl
 g18:=by kernel_rfl
 g19:=by kernel_rfl
 i0:=by kernel_rfl
 i2:=by kernel_rfl
 i3:=by kernel_rfl
 i4:=by kernel_rfl
 i5:=by kernel_rfl
 i9:=by kernel_rfl
 i20:=by kernel_rfl
 i37:=by kernel_rfl
 i46:=by kernel_rfl
 i51:=by kernel_rfl
 i53:=by kernel_rfl
 i171:=by kernel_rfl
 i173:=by kernel_rfl
 i212:=by kernel_rfl
 i232:=by kernel_rfl
 i233:=by kernel_rfl
 m17:=by kernel_rfl
 m18:=by kernel_rfl
 m19:=by kernel_rfl }
def Tryz.joinB_ren:Go.Shelf.Ren:=⟨fun | 156=>39 | 165=>81 | 166=>38 | 169=>46 | 240=>80 | 241=>129 | 276=>128 | 277=>163 | n=>n,fun | 31=>22 | 9=>9 | 3=>3 | 4=>4 | 0=>0 | 20=>20 | 72=>76 | 76=>79 | 70=>73 | 37=>74 | 75=>78 | 127=>127 | 164=>159 | 5=>5 | 80=>89 | n=>n,fun | n=>n⟩
theorem Tryz.joinB:Go.Proofs.Lays.n156 Tryz.prog Tryz.joinB_ren:={
 mixed:=by kernel_rfl
 f156:=Tryz.func39.trans (congrArg some (by kernel_rfl))
 f165:=Tryz.func81.trans (congrArg some (by kernel_rfl))
 f166:=Tryz.func38.trans (congrArg some (by kernel_rfl))
 f169:=Tryz.func46.trans (congrArg some (by kernel_rfl))
 f240:=Tryz.func80.trans (congrArg some (by kernel_rfl))
 f241:=Tryz.func129.trans (congrArg some (by kernel_rfl))
 f276:=Tryz.func128.trans (congrArg some (by kernel_rfl))
 f277:=Tryz.func163.trans (congrArg some (by kernel_rfl))
 t0:=Tryz.underlying0
 a0:=Tryz.isAgg0
 z0:=Tryz.sizeOf0
 v0:=Tryz.zeroValue0
 t3:=Tryz.underlying3
 a3:=Tryz.isAgg3
 z3:=Tryz.sizeOf3
 v3:=Tryz.zeroValue3
 t4:=Tryz.underlying4
 a4:=Tryz.isAgg4
 z4:=Tryz.sizeOf4
 v4:=Tryz.zeroValue4
 t9:=Tryz.underlying9
 a9:=Tryz.isAgg9
 z9:=Tryz.sizeOf9
 v9:=Tryz.zeroValue9
 t20:=Tryz.underlying20
 a20:=Tryz.isAgg20
 z20:=Tryz.sizeOf20
 v20:=Tryz.zeroValue20
 t31:=Tryz.underlying22
 a31:=Tryz.isAgg22
 z31:=Tryz.sizeOf22
 v31:=Tryz.zeroValue22
 t37:=Tryz.underlying74
 a37:=Tryz.isAgg74
 z37:=Tryz.sizeOf74
 v37:=Tryz.zeroValue74
 t70:=Tryz.underlying73
 a70:=Tryz.isAgg73
 z70:=Tryz.sizeOf73
 v70:=Tryz.zeroValue73
 t72:=Tryz.underlying76
 a72:=Tryz.isAgg76
 z72:=Tryz.sizeOf76
 v72:=Tryz.zeroValue76
 t75:=Tryz.underlying78
 a75:=Tryz.isAgg78
 z75:=Tryz.sizeOf78
 v75:=Tryz.zeroValue78
 t76:=Tryz.underlying79
 a76:=Tryz.isAgg79
 z76:=Tryz.sizeOf79
 v76:=Tryz.zeroValue79
 t127:=Tryz.underlying127
 a127:=Tryz.isAgg127
 z127:=Tryz.sizeOf127
 v127:=Tryz.zeroValue127
 t164:=Tryz.underlying159
 a164:=Tryz.isAgg159
 z164:=Tryz.sizeOf159
 v164:=Tryz.zeroValue159 }
def Tryz.splitB_ren:Go.Shelf.Ren:=⟨fun | 146=>28 | 221=>57 | 268=>107 | 138=>108 | 143=>109 | 195=>145 | 197=>146 | 218=>147 | 219=>148 | 260=>174 | 217=>175 | 225=>176 | 224=>177 | 267=>178 | 266=>190 | 314=>191 | n=>n,fun | 9=>9 | 31=>22 | 3=>3 | 4=>4 | 0=>0 | 105=>171 | 21=>21 | 5=>5 | 46=>189 | 119=>197 | 139=>200 | 138=>199 | 146=>201 | 51=>193 | n=>n,fun | 1=>1 | 3=>3 | 4=>4 | n=>n⟩
theorem Tryz.splitB:Go.Proofs.Lays.n146 Tryz.prog Tryz.splitB_ren:={
 mixed:=by kernel_rfl
 f138:=Tryz.func108.trans (congrArg some (by kernel_rfl))
 f143:=Tryz.func109.trans (congrArg some (by kernel_rfl))
 f146:=Tryz.func28.trans (congrArg some (by kernel_rfl))
 f195:=Tryz.func145.trans (congrArg some (by kernel_rfl))
 f197:=Tryz.func146.trans (congrArg some (by kernel_rfl))
 f217:=Tryz.func175.trans (congrArg some (by kernel_rfl))
 f218:=Tryz.func147.trans (congrArg some (by kernel_rfl))
 f219:=Tryz.func148.trans (congrArg some (by kernel_rfl))
 f221:=Tryz.func57.trans (congrArg some (by kernel_rfl))
 f224:=Tryz.func177.trans (congrArg some (by kernel_rfl))
 f225:=Tryz.func176.trans (congrArg some (by kernel_rfl))
 f260:=Tryz.func174.trans (congrArg some (by kernel_rfl))
 f266:=Tryz.func190.trans (congrArg some (by kernel_rfl))
 f267:=Tryz.func178.trans (congrArg some (by kernel_rfl))
 f268:=Tryz.func107.trans (congrArg some (by kernel_rfl))
 f314:=Tryz.func191.trans (congrArg some (by kernel_rfl))
 t0:=Tryz.underlying0
 a0:=Tryz.isAgg0
 z0:=Tryz.sizeOf0
 v0:=Tryz.zeroValue0
 t3:=Tryz.underlying3
 a3:=Tryz.isAgg3
 z3:=Tryz.sizeOf3
 v3:=Tryz.zeroValue3
 t4:=Tryz.underlying4
 a4:=Tryz.isAgg4
 z4:=Tryz.sizeOf4
 v4:=Tryz.zeroValue4
 t5:=Tryz.underlying5
 a5:=Tryz.isAgg5
 z5:=Tryz.sizeOf5
 v5:=Tryz.zeroValue5
 t9:=Tryz.underlying9
 a9:=Tryz.isAgg9
 z9:=Tryz.sizeOf9
 v9:=Tryz.zeroValue9
 t21:=Tryz.underlying21
 a21:=Tryz.isAgg21
 z21:=Tryz.sizeOf21
 v21:=Tryz.zeroValue21
 t31:=Tryz.underlying22
 a31:=Tryz.isAgg22
 z31:=Tryz.sizeOf22
 v31:=Tryz.zeroValue22
 t46:=Tryz.underlying189
 a46:=Tryz.isAgg189
 z46:=Tryz.sizeOf189
 v46:=Tryz.zeroValue189
 t51:=Tryz.underlying193
 a51:=Tryz.isAgg193
 z51:=Tryz.sizeOf193
 v51:=Tryz.zeroValue193
 t105:=Tryz.underlying171
 a105:=Tryz.isAgg171
 z105:=Tryz.sizeOf171
 v105:=Tryz.zeroValue171
 t119:=Tryz.underlying197
 a119:=Tryz.isAgg197
 z119:=Tryz.sizeOf197
 t138:=Tryz.underlying199
 a138:=Tryz.isAgg199
 z138:=Tryz.sizeOf199
 v138:=Tryz.zeroValue199
 t139:=Tryz.underlying200
 a139:=Tryz.isAgg200
 z139:=Tryz.sizeOf200
 v139:=Tryz.zeroValue200
 t146:=Tryz.underlying201
 a146:=Tryz.isAgg201
 z146:=Tryz.sizeOf201
 v146:=Tryz.zeroValue201
 g1:=by kernel_rfl
 g3:=by kernel_rfl
 g4:=by kernel_rfl }
def Tryz.trimB_ren:Go.Shelf.Ren:=⟨fun | 102=>29 | 209=>58 | 207=>110 | n=>n,fun | 9=>9 | 4=>4 | 3=>3 | n=>n,fun | n=>n⟩
theorem Tryz.trimB:Go.Proofs.Lays.n102 Tryz.prog Tryz.trimB_ren:={
 mixed:=by kernel_rfl
 f102:=Tryz.func29.trans (congrArg some (by kernel_rfl))
 f207:=Tryz.func110.trans (congrArg some (by kernel_rfl))
 f209:=Tryz.func58.trans (congrArg some (by kernel_rfl))
 t3:=Tryz.underlying3
 a3:=Tryz.isAgg3
 z3:=Tryz.sizeOf3
 v3:=Tryz.zeroValue3
 t4:=Tryz.underlying4
 a4:=Tryz.isAgg4
 z4:=Tryz.sizeOf4
 v4:=Tryz.zeroValue4
 t9:=Tryz.underlying9
 a9:=Tryz.isAgg9
 z9:=Tryz.sizeOf9
 v9:=Tryz.zeroValue9 }
theorem Tryz.joinX:Builder.Extra Tryz.prog Tryz.joinB_ren:={
 sizeBuilder:=by kernel_rfl
 liesBuilder:=by kernel_rfl
 t5:=Tryz.underlying5
 a5:=Tryz.isAgg5
 z5:=Tryz.sizeOf5
 v5:=Tryz.zeroValue5
 infoByte:=by kernel_rfl
 cellsByte:=by kernel_rfl
 sizeByte:=by kernel_rfl
 neB5:=by decide }
set_option maxHeartbeats 4000000
set_option maxRecDepth 100000
theorem tab_pow (S : Blocks) (w : World) (h : TabAt S w) : Lib.TabIs Tryz.prog w "internal/strconv.uint64pow10" .u64 Lib.pow10Tab := by
 obtain ⟨_,cs,e,fz,h1,h2⟩:=h 2 _ rfl
 have hg : Tryz.prog.globalNamed "internal/strconv.uint64pow10" = some 2 := by kernel_rfl
 have h2':cs=(Lib.pow10Tab.map fun z=>Value.int .u64 z).toArray:=h2
 unfold Lib.TabIs World.var?
 rw [hg]
 show (match w.heap[2]? with | some (.cells cs _ _)=>some cs | _=>none)=_
 rw [h1,h2']
theorem itoa_c (n:Int) (h0:-9223372036854775808≤n) (h1:n≤9223372036854775807):APureV Tryz.prog 40 [.int .i64 n] (.str (Lib.itoa n)) :=
 itoa_ok Tryz.itoaB ⟨_,Tryz.func40,rfl,by decide⟩ tab_pow n h0 h1
theorem join_c (xs:List (List UInt8)) (sep:List UInt8) (hN:xs.length≤140737488355328) (hlen:(Lib.join xs sep).length≤140737488355328):APureV Tryz.prog 39 [.lsl 1 (xs.map fun s=>AV.str s),.str sep] (.str (Lib.join xs sep)) :=
 join_ok Tryz.joinB Tryz.joinX ⟨_,Tryz.func39,rfl,by decide⟩ xs sep hN hlen
theorem trim_c (s t:List UInt8) (hs:s.length≤9223372036854775807):APureV Tryz.prog 29 [.str s,.str t] (.str (Lib.trimSuffix s t)) :=
 trimSuffix_ok Tryz.trimB ⟨_,Tryz.func29,rfl,by decide⟩ s t hs
theorem max_len (S:Blocks) (w:World) (h:TabAt S w):∃ m,w.cell? ⟨1,0,none⟩=some (.int .i64 m):=by
 obtain ⟨_,cs,e,fz,h1,m,rfl⟩:=h 1 _ rfl
 exact ⟨m,by simp [World.cell?,h1]⟩
theorem split_c (s t:List UInt8) (hs:s.length<4294967281) (ht:1≤t.length):APureV Tryz.prog 28 [.str s,.str t] (.sl 1 encS [] (Lib.splitK t 0 (Lib.count s t) s)) :=
 split_ok Tryz.splitB ⟨_,Tryz.func28,rfl,by decide⟩ (by kernel_rfl) max_len encS (fun _=>rfl) s t hs ht
def letB (c:Int):Bool:=decide (97≤c)&&decide (c≤122)
def digB (c:Int):Bool:=decide (48≤c)&&decide (c≤57)
def blkB (c:Int):Bool:=decide (c=32)||decide (c=9)||decide (c=10)
theorem letter_ok (c:Int):APureV Tryz.prog 156 [.int .u8 c] (.bool (letB c)):=by
 refine aO (cxOk 9 [0,2]) Tryz.func156 ?_
 conv=>whnf
 rfl
theorem digit_ok (c:Int):APureV Tryz.prog 158 [.int .u8 c] (.bool (digB c)):=by
 refine aO (cxOk 9 [0,2]) Tryz.func158 ?_
 conv=>whnf
 rfl
theorem wordc_ok (c:Int):APureV Tryz.prog 157 [.int .u8 c] (.bool (letB c||digB c)):=by
 have h1:=letter_ok c
 have h2:=digit_ok c
 refine aO (cxOk 9 [0,2]) Tryz.func157 ?_
 conv=>whnf
 refine cO (fun _=>h1) ?_
 conv=>whnf
 refine cO (fun _=>h2) ?_
 conv=>whnf
 rfl
def spanN (p:Int→Bool) (s:List UInt8):Nat:=(s.takeWhile fun b=>p (b.toNat:Int)).length
theorem spanN_le (p:Int→Bool) (s:List UInt8):spanN p s≤s.length:=(List.takeWhile_sublist _).length_le
theorem spanN_lt {p:Int→Bool} {s:List UInt8} {k:Nat} (h:k<spanN p s):p ((s.getD k 0).toNat:Int)=true:=by
 have hk:k<s.length:=Nat.lt_of_lt_of_le h (spanN_le p s)
 have h2:(s.takeWhile fun b=>p (b.toNat:Int))[k]=s[k]:=(List.takeWhile_prefix _).getElem h
 have h3:(s.takeWhile fun b=>p (b.toNat:Int))[k]∈s.takeWhile fun b=>p (b.toNat:Int):=List.getElem_mem h
 have h4:=(List.all_eq_true.1 (List.all_takeWhile (p:=fun b:UInt8=>p (b.toNat:Int)) (l:=s))) _ h3
 rw [h2] at h4
 simpa [List.getD,List.getElem?_eq_getElem hk] using h4
theorem spanN_at {p:Int→Bool}:∀ {s:List UInt8},spanN p s<s.length→p ((s.getD (spanN p s) 0).toNat:Int)=false
 | [],h=>by simp at h
 | b::s,h=>by
  unfold spanN at h ⊢
  rw [List.takeWhile_cons] at h ⊢
  split at h
  ·rename_i hb
   rw [if_pos hb]
   simp only [List.length_cons,List.getD_cons_succ] at h ⊢
   exact spanN_at (s:=s) (by unfold spanN;omega)
  ·rename_i hb
   rw [if_neg hb]
   simpa using hb
theorem span_ok (s:List UInt8) (f:FuncId) (p:Int→Bool) (hf:∀ c,APureV Tryz.prog f [.int .u8 c] (.bool (p c))) (hs:s.length≤9223372036854775807):APureV Tryz.prog 134 [.str s,.fn (.func f) [] []] (.int .i64 (spanN p s)):=by
 have hle:=spanN_le p s
 refine aO (cxOk 20 [0,1,4,5,16]) Tryz.func134 ?_
 conv=>whnf
 refine loop_up (cxOk _ _) (spanN p s) (fun _=>True) (fun k=>⟨[(0,.str s),(1,.fn (.func f) [] []),(5,.int .i64 (k:Nat))],[],0⟩) trivial ((wk_of [] rfl ⟨wa0,.fn _ _ _ _ _ ac0 ac0,wa0,trivial⟩ trivial)) ?_
 intro k hk _
 conv=>whnf
 have hek:(k:Int).toNat=k:=Int.toNat_natCast k
 refine And.intro (fun h=>(by simp only [andG,polB,decide_eq_true_eq] at h;omega)) ?_
 conv=>whnf
 rw [hek]
 conv=>whnf
 refine cO (fun _=>hf ((s.getD k 0).toNat:Int)) ?_
 conv=>whnf
 refine ⟨fun hc=>?_,fun hc=>?_⟩
 ·have hlt:k<s.length:=by simp at hc;omega
  have hpk:p ((s.getD k 0).toNat:Int)=true:=by simp at hc;simpa using hc.2
  have hne:k<spanN p s:=by
   apply Classical.byContradiction
   intro hh
   have he:k=spanN p s:=by omega
   have hat:=spanN_at (p:=p) (s:=s) (by omega)
   rw [← he,hpk] at hat
   cases hat
  conv=>whnf
  refine iO ?_;conv=>whnf
  refine ⟨k+1,⟨hne,trivial⟩,(by show spanN p s-(k+1)<spanN p s-k;omega),(wk_of [] rfl ⟨wa0,.fn _ _ _ _ _ ac0 ac0,wa0,trivial⟩ trivial)⟩
 ·have he:k=spanN p s:=by
   apply Classical.byContradiction
   intro hh
   have hlt:k<spanN p s:=by omega
   have:=spanN_lt hlt
   rw [this] at hc
   simp at hc
   omega
  conv=>whnf
  rw [he]
  rfl
def wordB (s:List UInt8):Bool:=decide (s≠[])&&letB ((s.getD 0 0).toNat:Int)&&decide (s.length≤20)&&decide (spanN (fun c=>letB c||digB c) s=s.length)
theorem word_ok (s:List UInt8) (hs:s.length≤9223372036854775807):APureV Tryz.prog 121 [.str s] (.bool (wordB s)):=by
 have hsp:=span_ok s 157 _ wordc_ok hs
 unfold wordB
 have hpos:s≠[]→0<s.length:=fun h=>List.length_pos_iff.2 h
 refine aO (cxOk 21 [0,2,15]) Tryz.func121 ?_
 conv=>whnf
 refine And.intro (fun h=>(by have h2:s≠[]:=by simpa [andG,polB] using h
                              have:=hpos h2
                              omega)) ?_
 conv=>whnf
 refine cO (fun _=>letter_ok ((s.getD 0 0).toNat:Int)) ?_
 conv=>whnf
 have e1:decide (20<(s.length:Int))=!decide (s.length≤20):=by
  by_cases h:s.length≤20
  ·simp [h];omega
  ·simp [h];omega
 have e2:decide (s≠[])=!decide (s=[]):=by simp
 have e3:decide ((spanN (fun c=>letB c||digB c) s:Int)=(s.length:Int))=decide (spanN (fun c=>letB c||digB c) s=s.length):=by
  by_cases h:spanN (fun c=>letB c||digB c) s=s.length
  ·simp [h]
  ·simp [h];omega
 rw [e1,e2]
 have e4:decide (s=(⟨#[]⟩:ByteArray).data.toList)=decide (s=[]):=rfl
 rw [e4]
 generalize decide (s=[])=b1
 generalize letB ((s.getD 0 0).toNat:Int)=b2
 generalize decide (s.length≤20)=b3
 refine ⟨fun hc=>?_,fun hc=>?_⟩
 ·conv=>whnf
  have hb:(!b1&&b2&&b3)=false:=by cases b1<;>cases b2<;>cases b3<;>simp_all
  rw [hb]
  rfl
 ·conv=>whnf
  have hb:(!b1&&b2&&b3)=true:=by cases b1<;>cases b2<;>cases b3<;>simp_all
  rw [hb,Bool.true_and]
  refine cO (fun _=>hsp) ?_
  conv=>whnf
  rw [e3]
  rfl
def encSs (l:List (List UInt8)):AV:=.sl 1 encS [] l
theorem index_ok (l:List (List UInt8)) (x:List UInt8) (hl:l.length≤9223372036854775807):APure Tryz.prog 159 [encSs l,.str x] (fun rs=>∃ v:Int,(0≤v↔x∈l)∧rs=[.val (.int .i64 v)]):=by
 refine aO (cxOk 19 [0,1,4,5,7,8,9,16]) Tryz.func159 ?_
 conv=>whnf
 refine loop_up (cxOk _ _) l.length (fun k=>∀ j,j<k→l.getD j []≠x) (fun k=>⟨[(0,encSs l),(1,.str x),(7,.int .i64 (l.length:Nat)),(8,.int .i64 (k:Nat))],[],0⟩) (by intro j hj;omega) ((wk_of [] rfl ⟨wa0,wa0,wa0,wa0,trivial⟩ trivial)) ?_
 intro k hk hP
 conv=>whnf
 refine ⟨fun hd=>?_,fun hd=>?_⟩
 ·have hd:=of_decide_eq_true hd
  have hlt:k<l.length:=by omega
  have hek:(k:Int).toNat=k:=Int.toNat_natCast k
  conv=>whnf
  refine iO ?_;conv=>whnf
  refine And.intro rfl ?_;conv=>whnf
  rw [hek]
  conv=>whnf
  refine ⟨fun he=>?_,fun he=>?_⟩
  ·have he:=of_decide_eq_true he
   conv=>whnf
   refine ⟨(k:Int),⟨fun _=>by rw [he];exact getD_mem hlt,fun _=>by omega⟩,rfl⟩
  ·have he:=of_decide_eq_false he
   conv=>whnf
   refine iO ?_;conv=>whnf
   refine up hlt (fun j hj=>?_) ((wk_of [] rfl ⟨wa0,wa0,wa0,wa0,trivial⟩ trivial))
   by_cases e:j=k
   ·subst e;exact fun e=>he e.symm
   ·exact hP j om0
 ·have hd:=of_decide_eq_false hd
  obtain rfl:k=l.length:=by omega
  conv=>whnf
  refine ⟨-1,⟨fun h=>by omega,fun h=>?_⟩,rfl⟩
  obtain ⟨j,hj,e⟩:=mem_getD (d:=[]) h
  exact (hP j hj e).elim
theorem contains_ok (l:List (List UInt8)) (x:List UInt8) (hl:l.length≤9223372036854775807):APureV Tryz.prog 122 [encSs l,.str x] (.bool (decide (x∈l))):=by
 refine aO (cxOk 9 [0,1,4]) Tryz.func122 ?_
 conv=>whnf
 refine .any _ _ _ ⟨rfl,rfl⟩ (index_ok l x hl) ah0 ak0 ?_
 rintro rs ⟨v,hv,rfl⟩
 conv=>whnf
 rw [show decide (x∈l)=decide (0≤v) by simp only [hv]]
 rfl
set_option maxHeartbeats 1000000
theorem take_succ_eq {α:Type} [DecidableEq α] {a b:List α} {k:Nat} (d:α) (h:k<a.length) (hl:a.length=b.length):(a.take (k+1)=b.take (k+1))↔(a.take k=b.take k∧a.getD k d=b.getD k d):=by
 rw [take_getD (d:=d) h,take_getD (d:=d) (by omega)]
 constructor
 ·intro h'
  have:=List.append_inj' h' rfl
  simpa using this
 ·rintro ⟨h1,h2⟩
  rw [h1,h2]
theorem texts_ok (a b:List (List UInt8)) (ha:a.length≤9223372036854775807) (hb:b.length≤9223372036854775807):APureV Tryz.prog 13 [encSs a,encSs b] (.bool (decide (a=b))):=by
 refine aO (cxOk 26 [0,1,4,5,10,14,25]) Tryz.func13 ?_
 conv=>whnf
 refine ⟨fun hc=>?_,fun hc=>?_⟩
 ·conv=>whnf
  have:decide (a=b)=false:=by
   simp only [Bool.not_eq_true',decide_eq_false_iff_not] at hc ⊢
   intro h
   subst h
   exact hc rfl
  rw [this]
  rfl
 conv=>whnf
 have hlen:a.length=b.length:=by
  simp only [Bool.not_eq_false',decide_eq_true_eq] at hc
  omega
 refine loop_up (cxOk _ _) a.length (fun k=>a.take k=b.take k) (fun k=>⟨[(0,encSs a),(1,encSs b),(5,.int .i64 k)],[],0⟩) (by simp) (wk_of [] rfl ⟨wa0,wa0,wa0,trivial⟩ trivial) ?_
 intro k hk hP
 conv=>whnf
 refine ⟨fun hc=>?_,fun hc=>?_⟩
 ·simp only [decide_eq_true_eq] at hc
  have hlt:k<a.length:=by omega
  conv=>whnf
  refine .quiet (by kernel_rfl) ?_;conv=>whnf
  refine iO ?_;conv=>whnf
  refine And.intro rfl ?_;conv=>whnf
  refine iO ?_;conv=>whnf
  refine And.intro rfl ?_;conv=>whnf
  refine ⟨fun hd=>?_,fun hd=>?_⟩
  ·conv=>whnf
   simp only [Int.toNat_natCast,Bool.not_eq_true',decide_eq_false_iff_not] at hd
   have:decide (a=b)=false:=by
    rw [decide_eq_false_iff_not]
    intro h
    rw [h] at hd
    exact hd rfl
   rw [this]
   rfl
  ·simp only [Int.toNat_natCast,Bool.not_eq_false',decide_eq_true_eq] at hd
   conv=>whnf
   refine iO ?_;conv=>whnf
   refine up hlt ((take_succ_eq [] hlt hlen).2 ⟨hP,hd⟩) (wk_of [] rfl ⟨wa0,wa0,wa0,trivial⟩ trivial)
 ·simp only [decide_eq_false_iff_not] at hc
  conv=>whnf
  rw [List.take_of_length_le (by omega),List.take_of_length_le (by omega)] at hP
  rw [decide_eq_true hP]
  rfl
def eqG (a b:Chg):Bool:=decide (a.o=b.o)&&(decide (a.n=b.n)&&true)
theorem eqG_iff {a b:Chg}:eqG a b=true↔a=b:=by
 cases a;cases b
 simp [eqG]
instance:DecidableEq Chg:=fun a b=>decidable_of_iff _ (eqG_iff (a:=a) (b:=b))
theorem sameG_ok (a b:List Chg) (ha:a.length≤9223372036854775807) (hb:b.length≤9223372036854775807):APureV Tryz.prog 10 [encGs a,encGs b] (.bool (decide (a=b))):=by
 refine aO (cxOk 26 [0,1,4,5,10,14,25]) Tryz.func10 ?_
 conv=>whnf
 refine ⟨fun hc=>?_,fun hc=>?_⟩
 ·conv=>whnf
  have:decide (a=b)=false:=by
   simp only [Bool.not_eq_true',decide_eq_false_iff_not] at hc ⊢
   intro h
   subst h
   exact hc rfl
  rw [this]
  rfl
 conv=>whnf
 have hlen:a.length=b.length:=by
  simp only [Bool.not_eq_false',decide_eq_true_eq] at hc
  omega
 refine loop_up (cxOk _ _) a.length (fun k=>a.take k=b.take k) (fun k=>⟨[(0,encGs a),(1,encGs b),(5,.int .i64 k)],[],0⟩) (by simp) (wk_of [] rfl ⟨wa0,wa0,wa0,trivial⟩ trivial) ?_
 intro k hk hP
 conv=>whnf
 refine ⟨fun hc=>?_,fun hc=>?_⟩
 ·simp only [decide_eq_true_eq] at hc
  have hlt:k<a.length:=by omega
  conv=>whnf
  refine .quiet (by kernel_rfl) ?_;conv=>whnf
  refine iO ?_;conv=>whnf
  refine And.intro rfl ?_;conv=>whnf
  refine iO ?_;conv=>whnf
  refine And.intro rfl ?_;conv=>whnf
  refine And.intro ⟨by kernel_rfl,by kernel_rfl⟩ ?_
  conv=>whnf
  refine ⟨fun hd=>?_,fun hd=>?_⟩
  ·conv=>whnf
   simp only [Int.toNat_natCast] at hd
   have hd':(!eqG (a.getD k g0) (b.getD k g0))=true:=hd
   have:decide (a=b)=false:=by
    rw [decide_eq_false_iff_not]
    intro h
    rw [h,eqG_iff.2 rfl] at hd'
    cases hd'
   rw [this]
   rfl
  ·simp only [Int.toNat_natCast] at hd
   have hd':(!eqG (a.getD k g0) (b.getD k g0))=false:=hd
   simp only [Bool.not_eq_false'] at hd'
   conv=>whnf
   refine iO ?_;conv=>whnf
   refine up hlt ((take_succ_eq g0 hlt hlen).2 ⟨hP,eqG_iff.1 hd'⟩) (wk_of [] rfl ⟨wa0,wa0,wa0,trivial⟩ trivial)
 ·simp only [decide_eq_false_iff_not] at hc
  conv=>whnf
  rw [List.take_of_length_le (by omega),List.take_of_length_le (by omega)] at hP
  rw [decide_eq_true hP]
  rfl
def chgB (c:Chg):Bool:=decide (c.o=-1)||decide (c.n=-1)
def changes (l:List Chg):Nat:=l.countP chgB
def fewT (l:List (List UInt8)) (n:Int):Bool:=decide ((l.length:Int)≤n)&&l.all fun s=>decide (s.length≤100)
theorem fewT_ok (l:List (List UInt8)) (n:Int) (hl:l.length≤9223372036854775807) (h0:0≤n) (hn:n≤1000):APureV Tryz.prog 23 [encSs l,.int .i64 n] (.bool (fewT l n)):=by
 refine aO (cxOk 27 [0,1,4,5,14,22]) Tryz.func23 ?_
 conv=>whnf
 refine loop_up (cxOk _ _) l.length (fun k=>(k:Int)≤n+1∧∀ i<k,(l.getD i []).length≤100) (fun k=>⟨[(0,encSs l),(1,.int .i64 n),(5,.int .i64 k)],[],0⟩) ⟨by omega,fun i hi=>by omega⟩ (wk_of [] rfl ⟨wa0,wa0,wa0,trivial⟩ trivial) ?_
 rintro k hk ⟨hkn,hall⟩
 conv=>whnf
 refine ⟨fun hc=>?_,fun hc=>?_⟩
 ·simp only [Bool.and_eq_true,decide_eq_true_eq] at hc
  have hlt:k<l.length:=by omega
  conv=>whnf
  refine iO ?_;conv=>whnf
  refine And.intro rfl ?_;conv=>whnf
  refine ⟨fun hd=>?_,fun hd=>?_⟩
  ·conv=>whnf
   simp only [Int.toNat_natCast,decide_eq_true_eq] at hd
   have:fewT l n=false:=by
    cases h:fewT l n with
    | false=>rfl
    | true =>
     simp only [fewT,Bool.and_eq_true,List.all_eq_true,decide_eq_true_eq] at h
     have:=h.2 _ (getD_mem (d:=[]) hlt)
     omega
   rw [this]
   rfl
  ·simp only [Int.toNat_natCast,decide_eq_false_iff_not] at hd
   conv=>whnf
   refine iO ?_;conv=>whnf
   refine up hlt ⟨by omega,fun i hi=>?_⟩ (wk_of [] rfl ⟨wa0,wa0,wa0,trivial⟩ trivial)
   by_cases e:i=k
   ·subst e;omega
   ·exact hall i om0
 ·conv=>whnf
  simp only [Bool.and_eq_false_iff,decide_eq_false_iff_not] at hc
  have:fewT l n=decide ((l.length:Int)≤n):=by
   by_cases h:(l.length:Int)≤n
   ·have hkl:k=l.length:=by omega
    have:(l.all fun s=>decide (s.length≤100))=true:=by
     simp only [List.all_eq_true,decide_eq_true_eq]
     intro f hf
     obtain ⟨i,hi,rfl⟩:=mem_getD (d:=[]) hf
     exact hall i om0
    simp [fewT,h,this]
   ·simp [fewT,h]
  rw [this]
  rfl
def few2 (a b:List (List UInt8)):Bool:=fewT a 30&&fewT b 30
theorem few34_ok (a b:List (List UInt8)) (ha:a.length≤9223372036854775807) (hb:b.length≤9223372036854775807):APureV Tryz.prog 6 [encSs a,encSs b] (.bool (few2 a b)):=by
 refine aO (cxOk 11 [0,1,4]) Tryz.func6 ?_
 conv=>whnf
 refine cO (fun _=>fewT_ok a 30 ha dd0 dd0) ?_
 conv=>whnf
 refine cO (fun _=>fewT_ok b 30 hb dd0 dd0) ?_
 conv=>whnf
 rfl
theorem clone_ok (l:List (List UInt8)) (hl:l.length≤1000000):APure Tryz.prog 25 [encSs l] (fun rs=>rs=[.new (.row 9 1 encS [] l)]):=by
 have h:APure Tryz.prog 25 [encSs l] (fun rs=>rs=[.new (.row 9 1 encS [] l)]∨l=[]∧rs=[.val .nils]):=by
  refine aO (cxOk 8 [0,2,4]) Tryz.func25 ?_
  conv=>whnf
  intro b hb
  conv=>whnf
  refine ⟨fun hc=>?_,fun hc=>?_⟩
  ·conv=>whnf
   exact .inr ⟨hb hc,rfl⟩
  ·conv=>whnf
   refine And.intro rfl ?_
   conv=>whnf
   refine ⟨⟨rfl,rfl⟩,(show (0+l.length)*16≤140737488355328 by omega),?_⟩
   conv=>whnf
   exact .inl rfl
 refine h.le fun rs hrs=>?_
 rcases hrs with rfl | ⟨rfl,rfl⟩
 ·exact ⟨_,rfl,rfl,fun j r r' h1 h2=>by
   cases j with
   | zero=>simp at h1 h2;subst h1;subst h2;exact .same _
   | succ j=>simp at h1⟩
 ·exact ⟨_,rfl,rfl,fun j r r' h1 h2=>by
   cases j with
   | zero=>simp at h1 h2;subst h1;subst h2;exact .nil _ _ _ _
   | succ j=>simp at h1⟩
abbrev Str:=List UInt8
def lcs:List Str→List Str→Nat
 | [],_=>0
 | _::_,[]=>0
 | x::a,y::b=>if x=y then lcs a b+1 else max (lcs a (y::b)) (lcs (x::a) b)
termination_by a b=>a.length+b.length
theorem lcs_nil_l (b:List Str):lcs [] b=0:=by rw [lcs]
theorem lcs_nil_r (a:List Str):lcs a []=0:=by cases a<;>rw [lcs]
theorem lcs_cons (x y:Str) (a b:List Str):lcs (x::a) (y::b)=if x=y then lcs a b+1 else max (lcs a (y::b)) (lcs (x::a) b):=by rw [lcs]
theorem lcs_le_left:∀ (a b:List Str),lcs a b≤a.length
 | [],b=>by rw [lcs_nil_l];exact Nat.zero_le _
 | x::a,[]=>by rw [lcs_nil_r];exact Nat.zero_le _
 | x::a,y::b=>by
  rw [lcs_cons]
  have h1:=lcs_le_left a b
  have h2:=lcs_le_left a (y::b)
  have h3:=lcs_le_left (x::a) b
  simp only [List.length_cons] at *
  split<;>omega
termination_by a b=>a.length+b.length
theorem drop_at {α:Type} {l:List α} {k:Nat} (d:α) (h:k<l.length):l.drop k=l.getD k d::l.drop (k+1):=by
 rw [List.drop_eq_getElem_cons h]
 simp [List.getD,List.getElem?_eq_getElem h]
def tabF (a b:List Str) (i k:Nat) (j:Nat):Int:=if i≤j / 201∨(j / 201+1=i∧k≤j % 201) then lcs (a.drop (j / 201)) (b.drop (j % 201)) else 0
theorem tabF_at {a b:List Str} {i k p q:Nat} (hq:q<201):tabF a b i k (p*201+q)=if i≤p∨(p+1=i∧k≤q) then (lcs (a.drop p) (b.drop q):Int) else 0:=by
 unfold tabF
 rw [show (p*201+q) / 201=p by omega,show (p*201+q) % 201=q by omega]
theorem tabF_full {a b:List Str} {j:Nat}:tabF a b a.length 201 j=0:=by
 unfold tabF
 split
 ·rename_i h
  rcases h with h | h
  ·rw [List.drop_eq_nil_of_le h,lcs_nil_l];rfl
  ·omega
 ·rfl
theorem tabF_row {a b:List Str} {i j:Nat} (hb:b.length≤200):tabF a b (i+1) (b.length) j=tabF a b (i+1) 201 j:=by
 unfold tabF
 by_cases h:i+1≤j / 201
 ·simp [h]
 ·by_cases h2:j / 201+1=i+1∧b.length≤j % 201
  ·have h3:¬ (i+1≤j / 201∨(j / 201+1=i+1∧201≤j % 201)):=by omega
   rw [if_pos (.inr h2),if_neg h3,List.drop_eq_nil_of_le h2.2,lcs_nil_r];rfl
  ·have h3:¬ (i+1≤j / 201∨(j / 201+1=i+1∧201≤j % 201)):=by omega
   rw [if_neg (by omega),if_neg h3]
theorem tabF_next {a b:List Str} {i j:Nat}:tabF a b (i+1) 0 j=tabF a b i 201 j:=by
 unfold tabF
 by_cases h:i≤j / 201
 ·rw [if_pos (by omega),if_pos (.inl h)]
 ·rw [if_neg (by omega),if_neg (by omega)]
theorem tabF_upd {a b:List Str} {p q j:Nat} (hq:q<201):updF (tabF a b (p+1) (q+1)) (p*201+q) (lcs (a.drop p) (b.drop q)) j=tabF a b (p+1) q j:=by
 unfold updF
 by_cases e:j=p*201+q
 ·subst e
  rw [if_pos rfl,tabF_at hq,if_pos (by omega)]
 ·rw [if_neg e]
  unfold tabF
  have:¬ (j / 201=p∧j % 201=q):=by omega
  by_cases h:p+1≤j / 201
  ·rw [if_pos (.inl h),if_pos (.inl h)]
  ·by_cases h2:j / 201+1=p+1∧q+1≤j % 201
   ·rw [if_pos (.inr h2),if_pos (by omega)]
   ·rw [if_neg (by omega),if_neg (by omega)]
theorem stays_ok (a b:List Str) (ha:a.length≤200) (hb:b.length≤200):APure Tryz.prog 26 [encSs a,encSs b] (fun rs=>∃ f,(∀ i k,k<201→f (i*201+k)=(lcs (a.drop i) (b.drop k):Int))∧rs=[.val (.iarr .i64 40401 f)]):=by
 refine aO (cxOk 61 [0,1,4,5,6,7,12,19,30]) Tryz.func26 ?_
 conv=>whnf
 refine And.intro rfl ?_
 conv=>whnf
 refine And.intro rfl ?_
 conv=>whnf
 refine iO ?_;conv=>whnf
 refine loop_inv (cxOk _ _) (σ:=Nat) (fun i=>i≤a.length) (fun i=>i) (fun i=>⟨[(0,encSs a),(1,encSs b),(4,.ptr 0 0),(5,.ptr 1 0),(6,.int .i64 ((i:Int)-1))],[(0,.arr 60 .i64 40401 (fun _=>0)),(1,.arr 60 .i64 40401 (tabF a b i 201))],2⟩) a.length (Nat.le_refl _) ((wk_of [(0,.id 0),(1,.id 1)] rfl ⟨wa0,wa0,wb0,wb0,wa0,trivial⟩ ⟨wd0,⟨_,rfl,.arr _ _ _ _ _ _ rfl (fun _ _=>tabF_full.symm)⟩,trivial⟩)) ?_
 intro i hi
 conv=>whnf
 refine ⟨fun hc=>?_,fun hc=>?_⟩
 ·simp only [decide_eq_true_eq] at hc
  conv=>whnf
  refine iO ?_;conv=>whnf
  obtain ⟨p,rfl⟩:∃ p,i=p+1:=⟨i-1,by omega⟩
  refine loop_inv (cxOk _ _) (σ:=Nat) (fun k=>k≤b.length) (fun k=>k) (fun k=>⟨[(0,encSs a),(1,encSs b),(4,.ptr 0 0),(5,.ptr 1 0),(6,.int .i64 (p:Int)),(7,.int .i64 ((k:Int)-1))],[(0,.arr 60 .i64 40401 (fun _=>0)),(1,.arr 60 .i64 40401 (tabF a b (p+1) k))],2⟩) b.length (Nat.le_refl _) ((wk_of [(0,.id 0),(1,.id 1)] rfl ⟨wa0,wa0,wb0,wb0,.base (.tree _ _ (by show AV.int .i64 (((p+1:Nat):Int)-1)=AV.int .i64 (p:Int);congr 1;omega) rfl),wa0,trivial⟩ ⟨wd0,⟨_,rfl,.arr _ _ _ _ _ _ rfl (fun _ _=>(tabF_row hb).symm)⟩,trivial⟩)) ?_
  intro k hk
  conv=>whnf
  refine ⟨fun hc=>?_,fun hc=>?_⟩
  ·simp only [decide_eq_true_eq] at hc
   obtain ⟨q,rfl⟩:∃ q,k=q+1:=⟨k-1,by omega⟩
   have e1:((q+1:Nat):Int)-1=q:=by omega
   rw [e1]
   have hA:a.drop p=a.getD p []::a.drop (p+1):=drop_at [] (by omega)
   have hB:b.drop q=b.getD q []::b.drop (q+1):=drop_at [] (by omega)
   have hL:=lcs_cons (a.getD p []) (b.getD q []) (a.drop (p+1)) (b.drop (q+1))
   rw [← hA,← hB] at hL
   conv=>whnf
   refine .quiet (by kernel_rfl) ?_;conv=>whnf
   refine iO ?_;conv=>whnf
   refine And.intro rfl ?_;conv=>whnf
   refine iO ?_;conv=>whnf
   refine And.intro rfl ?_;conv=>whnf
   have hp200:p<200:=by omega
   have hq200:q<200:=by omega
   have hl1:=lcs_le_left (a.drop (p+1)) (b.drop (q+1))
   have hl2:=lcs_le_left (a.drop (p+1)) (b.drop q)
   have hl3:=lcs_le_left (a.drop p) (b.drop (q+1))
   simp only [List.length_drop] at hl1 hl2 hl3
   have eo:0+(p:Int).toNat*201+(q:Int).toNat*1=p*201+q:=by omega
   refine ⟨fun hd=>?_,fun hd=>?_⟩
   ·simp only [Int.toNat_natCast,decide_eq_true_eq] at hd
    rw [if_pos hd] at hL
    have hv:tabF a b (p+1) (q+1) (0+((p:Int)+1).toNat*201+((q:Int)+1).toNat*1)=(lcs (a.drop (p+1)) (b.drop (q+1)):Int):=by
     rw [show 0+((p:Int)+1).toNat*201+((q:Int)+1).toNat*1=(p+1)*201+(q+1) by omega,tabF_at (by omega),if_pos (by omega)]
    conv=>whnf
    refine .eff (cxOk _ _) ?_
    conv=>whnf
    refine iO ?_;conv=>whnf
    refine iO ?_;conv=>whnf
    refine iO ?_;conv=>whnf
    refine iO ?_;conv=>whnf
    refine And.intro (show 0+((p:Int)+1).toNat*201+((q:Int)+1).toNat*1<40401 by omega) ?_
    conv=>whnf
    refine And.intro (show -9223372036854775808≤tabF a b (p+1) (q+1) (0+((p:Int)+1).toNat*201+((q:Int)+1).toNat*1)+1∧tabF a b (p+1) (q+1) (0+((p:Int)+1).toNat*201+((q:Int)+1).toNat*1)+1≤9223372036854775807 by rw [hv];constructor<;>omega) ?_
    conv=>whnf
    refine iO ?_;conv=>whnf
    refine iO ?_;conv=>whnf
    refine And.intro (show 0+(p:Int).toNat*201+(q:Int).toNat*1<40401 by omega) ?_
    conv=>whnf
    refine ⟨by kernel_rfl,?_⟩
    conv=>whnf
    refine iO ?_;conv=>whnf
    refine ⟨q,by omega,by show q<q+1;omega,(wk_of [(0,.id 0),(1,.id 1)] rfl ⟨wa0,wa0,wb0,wb0,wa0,wa0,trivial⟩ ⟨wd0,⟨_,rfl,.arr _ _ _ _ _ _ rfl (fun j _=>(show updF (tabF a b (p+1) (q+1)) (0+(p:Int).toNat*201+(q:Int).toNat*1) (tabF a b (p+1) (q+1) (0+((p:Int)+1).toNat*201+((q:Int)+1).toNat*1)+1) j=tabF a b (p+1) q j by rw [eo,hv,← tabF_upd (by omega),hL];rfl))⟩,trivial⟩)⟩
   ·simp only [Int.toNat_natCast,decide_eq_false_iff_not] at hd
    rw [if_neg hd] at hL
    have hv1:tabF a b (p+1) (q+1) (0+((p:Int)+1).toNat*201+(q:Int).toNat*1)=(lcs (a.drop (p+1)) (b.drop q):Int):=by
     rw [show 0+((p:Int)+1).toNat*201+(q:Int).toNat*1=(p+1)*201+q by omega,tabF_at (by omega),if_pos (by omega)]
    have hv2:tabF a b (p+1) (q+1) (0+(p:Int).toNat*201+((q:Int)+1).toNat*1)=(lcs (a.drop p) (b.drop (q+1)):Int):=by
     rw [show 0+(p:Int).toNat*201+((q:Int)+1).toNat*1=p*201+(q+1) by omega,tabF_at (by omega),if_pos (by omega)]
    conv=>whnf
    refine .eff (cxOk _ _) ?_
    conv=>whnf
    refine iO ?_;conv=>whnf
    refine iO ?_;conv=>whnf
    refine iO ?_;conv=>whnf
    refine And.intro (show 0+((p:Int)+1).toNat*201+(q:Int).toNat*1<40401 by omega) ?_
    conv=>whnf
    refine iO ?_;conv=>whnf
    refine iO ?_;conv=>whnf
    refine iO ?_;conv=>whnf
    refine And.intro (show 0+(p:Int).toNat*201+((q:Int)+1).toNat*1<40401 by omega) ?_
    conv=>whnf
    refine iO ?_;conv=>whnf
    refine iO ?_;conv=>whnf
    refine And.intro (show 0+(p:Int).toNat*201+(q:Int).toNat*1<40401 by omega) ?_
    conv=>whnf
    refine ⟨by kernel_rfl,?_⟩
    conv=>whnf
    refine iO ?_;conv=>whnf
    refine ⟨q,by omega,by show q<q+1;omega,(wk_of [(0,.id 0),(1,.id 1)] rfl ⟨wa0,wa0,wb0,wb0,wa0,wa0,trivial⟩ ⟨wd0,⟨_,rfl,.arr _ _ _ _ _ _ rfl (fun j _=>(show updF (tabF a b (p+1) (q+1)) (0+(p:Int).toNat*201+(q:Int).toNat*1) (max (tabF a b (p+1) (q+1) (0+((p:Int)+1).toNat*201+(q:Int).toNat*1)) (tabF a b (p+1) (q+1) (0+(p:Int).toNat*201+((q:Int)+1).toNat*1))) j=tabF a b (p+1) q j by rw [eo,hv1,hv2,← tabF_upd (by omega),hL];congr 1;omega))⟩,trivial⟩)⟩
  ·conv=>whnf
   simp only [decide_eq_false_iff_not] at hc
   have hk0:k=0:=by omega
   subst hk0
   refine iO ?_;conv=>whnf
   refine ⟨p,by omega,by show p<p+1;omega,(wk_of [(0,.id 0),(1,.id 1)] rfl ⟨wa0,wa0,wb0,wb0,wa0,trivial⟩ ⟨wd0,⟨_,rfl,.arr _ _ _ _ _ _ rfl (fun _ _=>tabF_next)⟩,trivial⟩)⟩
 ·conv=>whnf
  simp only [decide_eq_false_iff_not] at hc
  have hi0:i=0:=by omega
  subst hi0
  refine ⟨_,fun i k hk=>?_,rfl⟩
  rw [tabF_at hk,if_pos (by omega)]
def cmp:List Str→List Str→Int→Int→List Chg
 | [],[],_,_=>[]
 | _::a,[],i,k=>⟨i,-1⟩::cmp a [] (i+1) k
 | [],_::b,i,k=>⟨-1,k⟩::cmp [] b i (k+1)
 | x::a,y::b,i,k=>if x=y then ⟨i,k⟩::cmp a b (i+1) (k+1)
  else if lcs (x::a) b≤lcs a (y::b) then ⟨i,-1⟩::cmp a (y::b) (i+1) k else ⟨-1,k⟩::cmp (x::a) b i (k+1)
termination_by a b=>a.length+b.length
theorem cmp_nil (i k:Int):cmp [] [] i k=[]:=by rw [cmp]
theorem cmp_left (x:Str) (a:List Str) (i k:Int):cmp (x::a) [] i k=⟨i,-1⟩::cmp a [] (i+1) k:=by rw [cmp]
theorem cmp_right (y:Str) (b:List Str) (i k:Int):cmp [] (y::b) i k=⟨-1,k⟩::cmp [] b i (k+1):=by rw [cmp]
theorem cmp_both (x y:Str) (a b:List Str) (i k:Int):cmp (x::a) (y::b) i k=if x=y then ⟨i,k⟩::cmp a b (i+1) (k+1)
  else if lcs (x::a) b≤lcs a (y::b) then ⟨i,-1⟩::cmp a (y::b) (i+1) k else ⟨-1,k⟩::cmp (x::a) b i (k+1):=by rw [cmp]
theorem cmp_len:∀ (a b:List Str) (i k:Int),(cmp a b i k).length≤a.length+b.length
 | [],[],i,k=>by rw [cmp_nil];simp
 | x::a,[],i,k=>by
  have:=cmp_len a [] (i+1) k
  rw [cmp_left]
  simp at this ⊢
  omega
 | [],y::b,i,k=>by
  have:=cmp_len [] b i (k+1)
  rw [cmp_right]
  simp at this ⊢
  omega
 | x::a,y::b,i,k=>by
  have h1:=cmp_len a b (i+1) (k+1)
  have h2:=cmp_len a (y::b) (i+1) k
  have h3:=cmp_len (x::a) b i (k+1)
  rw [cmp_both]
  simp only [List.length_cons] at h1 h2 h3 ⊢
  split
  ·simp;omega
  ·split<;>simp<;>omega
termination_by a b=>a.length+b.length
def compareL (a b:List Str):List Chg:=cmp a b 0 0
theorem compare_ok (a b:List Str) (ha:a.length≤200) (hb:b.length≤200):APure Tryz.prog 11 [encSs a,encSs b] (fun rs=>rs=[.new (.row 50 2 encG g0 (compareL a b))]):=by
 refine aO (cxOk 99 [0,1,4,5,6,7,8,14,27,35,55,79,90]) Tryz.func11 ?_
 conv=>whnf
 refine ⟨fun hc=>?_,fun hc=>?_⟩
 ·exfalso
  simp only [decide_eq_true_eq] at hc
  omega
 conv=>whnf
 refine .any _ _ _ ⟨rfl,rfl⟩ (stays_ok a b ha hb) ah0 ak0 ?_
 rintro rs ⟨f,hf,rfl⟩
 conv=>whnf
 refine And.intro rfl ?_;conv=>whnf
 have stepA:∀ {xs:List Chg} {c:Chg} {i k i' k':Nat} {t:List Chg},xs++cmp (a.drop i) (b.drop k) i k=compareL a b→cmp (a.drop i) (b.drop k) i k=c::t→t=cmp (a.drop i') (b.drop k') i' k'→(xs++[c])++cmp (a.drop i') (b.drop k') i' k'=compareL a b:=by
  intro xs c i k i' k' t h h1 h2
  rw [← h,h1,← h2]
  simp
 refine loop_inv (cxOk _ _) (σ:=Nat×Nat×List Chg) (fun s=>(s.1≤a.length∧s.2.1≤b.length)∧s.2.2.length≤s.1+s.2.1∧s.2.2++cmp (a.drop s.1) (b.drop s.2.1) s.1 s.2.1=compareL a b) (fun s=>a.length+b.length-s.1-s.2.1) (fun s=>⟨[(0,encSs a),(1,encSs b),(5,.ptr 0 0),(6,.own 1),(7,.int .i64 ((s.1):Nat)),(8,.int .i64 ((s.2.1):Nat))],[(0,.arr 60 .i64 40401 f),(1,.row 50 2 encG g0 (s.2.2))],2⟩) (0,0,[]) ⟨⟨Nat.zero_le _,Nat.zero_le _⟩,by simp,by simp [compareL]⟩ ((wk_of [(0,.id 0),(1,.nil)] rfl ⟨wa0,wa0,wb0,ae0,wa0,wa0,trivial⟩ ⟨wd0,⟨_,rfl,ag0⟩,trivial⟩)) ?_
 rintro ⟨i,k,xs⟩ ⟨⟨hi,hk⟩,hlen,hxs⟩
 simp only at hi hk hlen hxs
 show evCode _ _ (⟨[(0,encSs a),(1,encSs b),(5,.ptr 0 0),(6,.own 1),(7,.int .i64 (i:Nat)),(8,.int .i64 (k:Nat))],[(0,.arr 60 .i64 40401 f),(1,.row 50 2 encG g0 xs)],2⟩) _
 conv=>whnf
 refine ⟨fun hc=>?_,fun hc=>?_⟩
 ·simp only [Bool.and_eq_true,decide_eq_true_eq] at hc
  have hlt:i<a.length:=by omega
  have hlk:k<b.length:=by omega
  have hA:a.drop i=a.getD i []::a.drop (i+1):=drop_at [] hlt
  have hB:b.drop k=b.getD k []::b.drop (k+1):=drop_at [] hlk
  have hstep:=cmp_both (a.getD i []) (b.getD k []) (a.drop (i+1)) (b.drop (k+1)) i k
  rw [← hA,← hB] at hstep
  conv=>whnf
  refine .quiet (by kernel_rfl) ?_;conv=>whnf
  refine iO ?_;conv=>whnf
  refine And.intro rfl ?_;conv=>whnf
  refine iO ?_;conv=>whnf
  refine And.intro rfl ?_;conv=>whnf
  refine ⟨fun hd=>?_,fun hd=>?_⟩
  ·simp only [Int.toNat_natCast,decide_eq_true_eq] at hd
   rw [if_pos hd] at hstep
   conv=>whnf
   refine And.intro rfl ?_;conv=>whnf
   refine And.intro ⟨rfl,rfl⟩ (And.intro (show (xs.length+1)*16≤140737488355328 by omega) ?_)
   conv=>whnf
   refine ⟨⟨i,k⟩,rfl,?_⟩
   conv=>whnf
   refine iO ?_;conv=>whnf
   refine iO ?_;conv=>whnf
   refine ⟨(i+1,k+1,xs++[⟨i,k⟩]),⟨⟨hlt,hlk⟩,by simp;omega,?_⟩,by show a.length+b.length-(i+1)-(k+1)<a.length+b.length-i-k;omega,(wk_of [(0,.id 0),(1,.id 3)] rfl ⟨wa0,wa0,wb0,ae0,wa0,wa0,trivial⟩ ⟨wd0,⟨_,rfl,ag0⟩,trivial⟩)⟩
   exact stepA hxs hstep rfl
  ·simp only [Int.toNat_natCast,decide_eq_false_iff_not] at hd
   rw [if_neg hd] at hstep
   have hv1:f (0+((i:Int)+1).toNat*201+(k:Int).toNat*1)=(lcs (a.drop (i+1)) (b.drop k):Int):=by
    rw [show 0+((i:Int)+1).toNat*201+(k:Int).toNat*1=(i+1)*201+k by omega,hf _ _ (by omega)]
   have hv2:f (0+(i:Int).toNat*201+((k:Int)+1).toNat*1)=(lcs (a.drop i) (b.drop (k+1)):Int):=by
    rw [show 0+(i:Int).toNat*201+((k:Int)+1).toNat*1=i*201+(k+1) by omega,hf _ _ (by omega)]
   conv=>whnf
   refine .quiet (by kernel_rfl) ?_;conv=>whnf
   refine iO ?_;conv=>whnf
   refine iO ?_;conv=>whnf
   refine iO ?_;conv=>whnf
   refine And.intro (show 0+((i:Int)+1).toNat*201+(k:Int).toNat*1<40401 by omega) ?_
   conv=>whnf
   refine iO ?_;conv=>whnf
   refine iO ?_;conv=>whnf
   refine iO ?_;conv=>whnf
   refine And.intro (show 0+(i:Int).toNat*201+((k:Int)+1).toNat*1<40401 by omega) ?_
   conv=>whnf
   refine ⟨fun he=>?_,fun he=>?_⟩
   ·have he':decide (f (0+(i:Int).toNat*201+((k:Int)+1).toNat*1)≤f (0+((i:Int)+1).toNat*201+(k:Int).toNat*1))=true:=he
    rw [hv1,hv2,decide_eq_true_eq] at he'
    rw [if_pos (by omega)] at hstep
    conv=>whnf
    refine And.intro rfl ?_;conv=>whnf
    refine And.intro ⟨rfl,rfl⟩ (And.intro (show (xs.length+1)*16≤140737488355328 by omega) ?_)
    conv=>whnf
    refine ⟨⟨i,-1⟩,rfl,?_⟩
    conv=>whnf
    refine iO ?_;conv=>whnf
    refine ⟨(i+1,k,xs++[⟨i,-1⟩]),⟨⟨hlt,hk⟩,by simp;omega,?_⟩,by show a.length+b.length-(i+1)-k<a.length+b.length-i-k;omega,(wk_of [(0,.id 0),(1,.id 3)] rfl ⟨wa0,wa0,wb0,ae0,wa0,wa0,trivial⟩ ⟨wd0,⟨_,rfl,ag0⟩,trivial⟩)⟩
    exact stepA hxs hstep (by rw [hB];rfl)
   ·have he':decide (f (0+(i:Int).toNat*201+((k:Int)+1).toNat*1)≤f (0+((i:Int)+1).toNat*201+(k:Int).toNat*1))=false:=he
    rw [hv1,hv2,decide_eq_false_iff_not] at he'
    rw [if_neg (by omega)] at hstep
    conv=>whnf
    refine And.intro rfl ?_;conv=>whnf
    refine And.intro ⟨rfl,rfl⟩ (And.intro (show (xs.length+1)*16≤140737488355328 by omega) ?_)
    conv=>whnf
    refine ⟨⟨-1,k⟩,rfl,?_⟩
    conv=>whnf
    refine iO ?_;conv=>whnf
    refine ⟨(i,k+1,xs++[⟨-1,k⟩]),⟨⟨hi,hlk⟩,by simp;omega,?_⟩,by show a.length+b.length-i-(k+1)<a.length+b.length-i-k;omega,(wk_of [(0,.id 0),(1,.id 3)] rfl ⟨wa0,wa0,wb0,ae0,wa0,wa0,trivial⟩ ⟨wd0,⟨_,rfl,ag0⟩,trivial⟩)⟩
    exact stepA hxs hstep (by rw [hA];rfl)
 ·simp only [Bool.and_eq_false_iff,decide_eq_false_iff_not] at hc
  have hend:a.length=i∨b.length=k:=by omega
  conv=>whnf
  clear hc
  refine loop_inv (cxOk _ _) (σ:=Nat×List Chg) (fun s=>s.1≤a.length∧(s.1<a.length→k=b.length)∧s.2.length≤s.1+k∧s.2++cmp (a.drop s.1) (b.drop k) s.1 k=compareL a b) (fun s=>a.length-s.1) (fun s=>⟨[(0,encSs a),(1,encSs b),(5,.ptr 0 0),(6,.own 1),(7,.int .i64 ((s.1):Nat)),(8,.int .i64 (k:Nat))],[(0,.arr 60 .i64 40401 f),(1,.row 50 2 encG g0 (s.2))],2⟩) (i,xs) ⟨hi,by omega,hlen,hxs⟩ ((wk_of [(0,.id 0),(1,.id 1)] rfl ⟨wa0,wa0,wb0,ae0,wa0,wa0,trivial⟩ ⟨wd0,⟨_,rfl,ag0⟩,trivial⟩)) ?_
  rintro ⟨i,xs⟩ ⟨hi,hik,hlen,hxs⟩
  simp only at hi hik hlen hxs
  show evCode _ _ (⟨[(0,encSs a),(1,encSs b),(5,.ptr 0 0),(6,.own 1),(7,.int .i64 (i:Nat)),(8,.int .i64 (k:Nat))],[(0,.arr 60 .i64 40401 f),(1,.row 50 2 encG g0 xs)],2⟩) _
  conv=>whnf
  refine ⟨fun hc=>?_,fun hc=>?_⟩
  ·simp only [decide_eq_true_eq] at hc
   have hlt:i<a.length:=by omega
   have hkb:=hik hlt
   have hA:a.drop i=a.getD i []::a.drop (i+1):=drop_at [] hlt
   have hB:b.drop k=[]:=List.drop_eq_nil_of_le (by omega)
   have hstep:=cmp_left (a.getD i []) (a.drop (i+1)) i k
   rw [← hA,← hB] at hstep
   conv=>whnf
   refine And.intro rfl ?_;conv=>whnf
   refine And.intro ⟨rfl,rfl⟩ (And.intro (show (xs.length+1)*16≤140737488355328 by omega) ?_)
   conv=>whnf
   refine ⟨⟨i,-1⟩,rfl,?_⟩
   conv=>whnf
   refine iO ?_;conv=>whnf
   refine ⟨(i+1,xs++[⟨i,-1⟩]),⟨hlt,fun _=>hkb,by simp;omega,?_⟩,by show a.length-(i+1)<a.length-i;omega,(wk_of [(0,.id 0),(1,.id 3)] rfl ⟨wa0,wa0,wb0,ae0,wa0,wa0,trivial⟩ ⟨wd0,⟨_,rfl,ag0⟩,trivial⟩)⟩
   exact stepA hxs hstep rfl
  ·simp only [decide_eq_false_iff_not] at hc
   have hia:i=a.length:=by omega
   conv=>whnf
   clear hc hik hend
   refine loop_inv (cxOk _ _) (σ:=Nat×List Chg) (fun s=>s.1≤b.length∧s.2.length≤i+s.1∧s.2++cmp (a.drop i) (b.drop s.1) i s.1=compareL a b) (fun s=>b.length-s.1) (fun s=>⟨[(0,encSs a),(1,encSs b),(5,.ptr 0 0),(6,.own 1),(7,.int .i64 (i:Nat)),(8,.int .i64 ((s.1):Nat))],[(0,.arr 60 .i64 40401 f),(1,.row 50 2 encG g0 (s.2))],2⟩) (k,xs) ⟨hk,hlen,hxs⟩ ((wk_of [(0,.id 0),(1,.id 1)] rfl ⟨wa0,wa0,wb0,ae0,wa0,wa0,trivial⟩ ⟨wd0,⟨_,rfl,ag0⟩,trivial⟩)) ?_
   rintro ⟨k,xs⟩ ⟨hk,hlen,hxs⟩
   simp only at hk hlen hxs
   show evCode _ _ (⟨[(0,encSs a),(1,encSs b),(5,.ptr 0 0),(6,.own 1),(7,.int .i64 (i:Nat)),(8,.int .i64 (k:Nat))],[(0,.arr 60 .i64 40401 f),(1,.row 50 2 encG g0 xs)],2⟩) _
   have hA:a.drop i=[]:=List.drop_eq_nil_of_le (by omega)
   conv=>whnf
   refine ⟨fun hc=>?_,fun hc=>?_⟩
   ·simp only [decide_eq_true_eq] at hc
    have hlk:k<b.length:=by omega
    have hB:b.drop k=b.getD k []::b.drop (k+1):=drop_at [] hlk
    have hstep:=cmp_right (b.getD k []) (b.drop (k+1)) i k
    rw [← hB,← hA] at hstep
    conv=>whnf
    refine And.intro rfl ?_;conv=>whnf
    refine And.intro ⟨rfl,rfl⟩ (And.intro (show (xs.length+1)*16≤140737488355328 by omega) ?_)
    conv=>whnf
    refine ⟨⟨-1,k⟩,rfl,?_⟩
    conv=>whnf
    refine iO ?_;conv=>whnf
    refine ⟨(k+1,xs++[⟨-1,k⟩]),⟨hlk,by simp;omega,?_⟩,by show b.length-(k+1)<b.length-k;omega,(wk_of [(0,.id 0),(1,.id 3)] rfl ⟨wa0,wa0,wb0,ae0,wa0,wa0,trivial⟩ ⟨wd0,⟨_,rfl,ag0⟩,trivial⟩)⟩
    exact stepA hxs hstep rfl
   ·simp only [decide_eq_false_iff_not] at hc
    have hB:b.drop k=[]:=List.drop_eq_nil_of_le (by omega)
    rw [hA,hB,cmp_nil,List.append_nil] at hxs
    conv=>whnf
    rw [hxs]
    rfl
def bad1 (c:Chg) (i k la lb:Int):Bool :=
 ((decide (c.o=-1)&&decide (c.n=-1))||(!decide (c.o=-1)&&(!decide (c.o=i)||decide (i=la))))||(!decide (c.n=-1)&&(!decide (c.n=k)||decide (k=lb)))
def bad2 (c:Chg) (x y:Str):Bool:=(!decide (c.o=-1)&&!decide (c.n=-1))&&!decide (x=y)
def mv (n:Int) (i:Nat):Nat:=if n=-1 then i else i+1
theorem mv_move {n:Int} {i:Nat} (h:¬ n=-1):i+1=mv n i:=by rw [mv,if_neg h]
theorem mv_stay {n:Int} {i:Nat} (h:n=-1):i=mv n i:=by rw [mv,if_pos h]
def okL (a b:List Str):Nat→Nat→List Chg→Bool
 | i,k,[]=>decide (i=a.length)&&decide (k=b.length)
 | i,k,c::l=>!bad1 c i k a.length b.length&&!bad2 c (a.getD i []) (b.getD k [])&&okL a b (mv c.o i) (mv c.n k) l
def applyRs (a b:List Str) (l:List Chg):List AR:=if okL a b 0 0 l=true then [.new (.row 9 1 encS [] b),.val (.int .i64 0)] else [.val .nils,.val (.int .i64 24)]
theorem bad1_false {c:Chg} {i k la lb:Int} (h:bad1 c i k la lb=false):(c.o≠-1→i≠la)∧(c.n≠-1→k≠lb):=by
 simp only [bad1,Bool.or_eq_false_iff,Bool.and_eq_false_iff,Bool.not_eq_false',decide_eq_true_eq,decide_eq_false_iff_not] at h
 exact ⟨fun ho=>by rcases h.1.2 with h | h;exact (ho h).elim;exact h.2,fun ho=>by rcases h.2 with h | h;exact (ho h).elim;exact h.2⟩
theorem apply_ok (a b:List Str) (l:List Chg) (ha:a.length≤1000) (hb:b.length≤1000) (hl:l.length≤9223372036854775807):APure Tryz.prog 8 [encSs a,encSs b,encGs l] (fun rs=>rs=applyRs a b l):=by
 refine aO (cxOk 102 [0,1,2,6,7,8,9,11,12,13,14,15,59,78,81,86,99]) Tryz.func8 ?_
 conv=>whnf
 refine loop_inv (cxOk _ _) (σ:=Nat×Nat×Nat) (fun s=>s.1≤a.length∧s.2.1≤b.length∧s.2.2≤l.length∧okL a b 0 0 l=okL a b s.1 s.2.1 (l.drop s.2.2)) (fun s=>l.length-s.2.2) (fun s=>⟨[(0,encSs a),(1,encSs b),(8,.int .i64 ((s.1):Nat)),(9,.int .i64 ((s.2.1):Nat)),(12,encGs l),(13,.int .i64 l.length),(14,.int .i64 ((s.2.2):Nat))],[],0⟩) (0,0,0) ⟨Nat.zero_le _,Nat.zero_le _,Nat.zero_le _,by simp⟩ (wk_of [] rfl ⟨wa0,wa0,wa0,wa0,wa0,wa0,wa0,trivial⟩ trivial) ?_
 rintro ⟨i,k,j⟩ ⟨hi,hk,hj,hP⟩
 simp only at hi hk hj hP
 show evCode _ _ (⟨[(0,encSs a),(1,encSs b),(8,.int .i64 (i:Nat)),(9,.int .i64 (k:Nat)),(12,encGs l),(13,.int .i64 l.length),(14,.int .i64 (j:Nat))],[],0⟩) _
 conv=>whnf
 refine ⟨fun hc=>?_,fun hc=>?_⟩
 ·simp only [decide_eq_true_eq] at hc
  have hlt:j<l.length:=by omega
  rw [drop_at g0 hlt,okL] at hP
  conv=>whnf
  refine iO ?_;conv=>whnf
  refine And.intro rfl ?_;conv=>whnf
  refine ⟨fun hd=>?_,fun hd=>?_⟩
  ·simp only [Int.toNat_natCast] at hd
   have hd':bad1 (l.getD j g0) i k a.length b.length=true:=hd
   rw [hd'] at hP
   conv=>whnf
   rw [applyRs,if_neg (by rw [hP];simp)]
   rfl
  simp only [Int.toNat_natCast] at hd
  have hd':bad1 (l.getD j g0) i k a.length b.length=false:=hd
  obtain ⟨hb1,hb2⟩:=bad1_false hd'
  rw [hd'] at hP
  conv=>whnf
  refine .quiet (by kernel_rfl) ?_
  conv=>whnf
  refine And.intro (fun hg=>?_) ?_
  ·have:=guard_true hg
   simp only [Int.toNat_natCast,Bool.and_eq_true,Bool.not_eq_true',decide_eq_false_iff_not] at this
   have:=hb1 this.1
   constructor<;>omega
  conv=>whnf
  refine And.intro rfl ?_;conv=>whnf
  refine And.intro (fun hg=>?_) ?_
  ·have:=guard_true hg
   simp only [Int.toNat_natCast,Bool.and_eq_true,Bool.not_eq_true',decide_eq_false_iff_not] at this
   have:=hb2 this.2
   constructor<;>omega
  conv=>whnf
  refine And.intro rfl ?_;conv=>whnf
  refine ⟨fun he=>?_,fun he=>?_⟩
  ·simp only [Int.toNat_natCast] at he
   have he':bad2 (l.getD j g0) (a.getD i []) (b.getD k [])=true:=he
   rw [he'] at hP
   conv=>whnf
   rw [applyRs,if_neg (by rw [hP];simp)]
   rfl
  simp only [Int.toNat_natCast] at he
  have he':bad2 (l.getD j g0) (a.getD i []) (b.getD k [])=false:=he
  rw [he'] at hP
  conv=>whnf
  have fin:∀ (i' k':Nat),i'=mv (l.getD j g0).o i→k'=mv (l.getD j g0).n k→okL a b 0 0 l=okL a b i' k' (l.drop (j+1)):=by
   intro i' k' e1 e2
   rw [hP,e1,e2]
   rfl
  refine ⟨fun h1=>?_,fun h1=>?_⟩
  ·simp only [Int.toNat_natCast,Bool.not_eq_true',decide_eq_false_iff_not] at h1
   have:=hb1 h1
   conv=>whnf
   refine iO ?_;conv=>whnf
   refine ⟨fun h2=>?_,fun h2=>?_⟩
   ·simp only [Int.toNat_natCast,Bool.not_eq_true',decide_eq_false_iff_not] at h2
    have:=hb2 h2
    conv=>whnf
    refine iO ?_;conv=>whnf
    refine iO ?_;conv=>whnf
    refine ⟨(i+1,k+1,j+1),⟨by show i+1≤a.length;omega,by show k+1≤b.length;omega,hlt,fin _ _ (mv_move h1) (mv_move h2)⟩,by show l.length-(j+1)<l.length-j;omega,(wk_of [] rfl ⟨wa0,wa0,wa0,wa0,wa0,wa0,wa0,trivial⟩ trivial)⟩
   ·simp only [Int.toNat_natCast,Bool.not_eq_false',decide_eq_true_eq] at h2
    conv=>whnf
    refine iO ?_;conv=>whnf
    refine ⟨(i+1,k,j+1),⟨by show i+1≤a.length;omega,hk,hlt,fin _ _ (mv_move h1) (mv_stay h2)⟩,by show l.length-(j+1)<l.length-j;omega,(wk_of [] rfl ⟨wa0,wa0,wa0,wa0,wa0,wa0,wa0,trivial⟩ trivial)⟩
  ·simp only [Int.toNat_natCast,Bool.not_eq_false',decide_eq_true_eq] at h1
   conv=>whnf
   refine ⟨fun h2=>?_,fun h2=>?_⟩
   ·simp only [Int.toNat_natCast,Bool.not_eq_true',decide_eq_false_iff_not] at h2
    have:=hb2 h2
    conv=>whnf
    refine iO ?_;conv=>whnf
    refine iO ?_;conv=>whnf
    refine ⟨(i,k+1,j+1),⟨hi,by show k+1≤b.length;omega,hlt,fin _ _ (mv_stay h1) (mv_move h2)⟩,by show l.length-(j+1)<l.length-j;omega,(wk_of [] rfl ⟨wa0,wa0,wa0,wa0,wa0,wa0,wa0,trivial⟩ trivial)⟩
   ·simp only [Int.toNat_natCast,Bool.not_eq_false',decide_eq_true_eq] at h2
    conv=>whnf
    refine iO ?_;conv=>whnf
    refine ⟨(i,k,j+1),⟨hi,hk,hlt,fin _ _ (mv_stay h1) (mv_stay h2)⟩,by show l.length-(j+1)<l.length-j;omega,(wk_of [] rfl ⟨wa0,wa0,wa0,wa0,wa0,wa0,wa0,trivial⟩ trivial)⟩
 ·simp only [decide_eq_false_iff_not] at hc
  rw [List.drop_eq_nil_of_le (by omega),okL] at hP
  conv=>whnf
  refine ⟨fun hd=>?_,fun hd=>?_⟩
  ·simp only [Bool.or_eq_true,decide_eq_true_eq] at hd
   conv=>whnf
   rw [applyRs,if_neg (by rw [hP];simp;omega)]
   rfl
  ·simp only [Bool.or_eq_false_iff,decide_eq_false_iff_not] at hd
   conv=>whnf
   refine cO (fun _=>clone_ok b om0) ?_
   conv=>whnf
   rw [applyRs,if_pos (by rw [hP];simp;omega)]
   rfl
def dist:List Str→List Str→Nat
 | [],b=>b.length
 | _::a,[]=>a.length+1
 | x::a,y::b=>if x=y then dist a b else 1+min (dist a (y::b)) (dist (x::a) b)
termination_by a b=>a.length+b.length
theorem dist_nil_l (b:List Str):dist [] b=b.length:=by rw [dist]
theorem dist_nil_r (a:List Str):dist a []=a.length:=by cases a<;>rw [dist]<;>simp
theorem dist_cons (x y:Str) (a b:List Str):dist (x::a) (y::b)=if x=y then dist a b else 1+min (dist a (y::b)) (dist (x::a) b):=by rw [dist]
theorem dist_lcs:∀ (a b:List Str),dist a b+2*lcs a b=a.length+b.length
 | [],b=>by rw [dist_nil_l,lcs_nil_l];simp
 | x::a,[]=>by rw [dist_nil_r,lcs_nil_r];simp
 | x::a,y::b=>by
  have h1:=dist_lcs a b
  have h2:=dist_lcs a (y::b)
  have h3:=dist_lcs (x::a) b
  rw [dist_cons,lcs_cons]
  simp only [List.length_cons] at *
  split<;>omega
termination_by a b=>a.length+b.length
theorem dist_le (a b:List Str):dist a b≤a.length+b.length:=by have:=dist_lcs a b;omega
theorem dist_turn (x y:Str) (a b:List Str):dist a (y::b)≤dist (x::a) b↔lcs (x::a) b≤lcs a (y::b):=by
 have h2:=dist_lcs a (y::b)
 have h3:=dist_lcs (x::a) b
 simp only [List.length_cons] at *
 omega
def rowF (a b:List Str) (i k:Nat):List Int:=(List.range (b.length+1)).map fun j=>if k≤j then (dist (a.drop i) (b.drop j):Int) else 0
def cutL:List UInt8→List UInt8→List (List UInt8)
 | [],_=>[]
 | c::s,acc=>if c=10 then acc::cutL s [] else cutL s (acc++[c])
def onHead (a:List UInt8):List (List UInt8)→List (List UInt8)
 | []=>[]
 | p::ps=>(a++p)::ps
theorem onHead_nil (l:List (List UInt8)):onHead [] l=l:=by cases l<;>simp [onHead]
theorem onHead_app (a b:List UInt8) (l:List (List UInt8)):onHead a (onHead b l)=onHead (a++b) l:=by cases l<;>simp [onHead]
def splitC (s:List UInt8):List (List UInt8):=Lib.splitK [10] 0 (Lib.count s [10]) s
theorem splitC_nil:splitC []=[[]]:=by rfl
theorem index_at (l:List UInt8):Lib.index (10::l) [10]=0:=by simp [Lib.index]
theorem splitC_at (l:List UInt8):splitC (10::l)=[]::splitC l:=by
 unfold splitC
 rw [Lib.count_cons_eq,Nat.add_comm 1,Lib.splitK,index_at]
 rfl
theorem index_ne (b:UInt8) (l:List UInt8) (h:b≠10):Lib.index (b::l) [10]=if Lib.index l [10] == -1 then -1 else Lib.index l [10]+1:=by
 rw [Lib.index,if_neg]
 simp [List.isPrefixOf]
 exact fun e=>h e.symm
theorem splitC_ne (b:UInt8) (l:List UInt8) (h:b≠10):splitC (b::l)=onHead [b] (splitC l):=by
 unfold splitC
 rw [Lib.count_cons_ne b 10 l h]
 cases hk:Lib.count l [10] with
 | zero=>rfl
 | succ k =>
  have hi:¬ Lib.index l [10]=-1:=fun e=>by rw [Lib.count_miss e] at hk;cases hk
  have hg:=Lib.index_ge l [10]
  have h1:¬ (Lib.index l [10] == -1)=true:=fun e=>hi (beq_iff_eq.1 e)
  have h2:¬ (Lib.index (b::l) [10] == -1)=true:=fun e=>by
   have:=beq_iff_eq.1 e
   rw [index_ne b l h,if_neg h1] at this
   omega
  rw [Lib.splitK,Lib.splitK,if_neg h1,if_neg h2,index_ne b l h,if_neg h1]
  obtain ⟨n,hn⟩:∃ n:Nat,Lib.index l [10]=n:=⟨(Lib.index l [10]).toNat,by omega⟩
  rw [hn]
  have e1:((n:Int)+1).toNat=n+1:=by omega
  have e2:(n:Int).toNat=n:=by omega
  rw [e1,e2]
  show _=([b]++_)::_
  rw [Nat.add_zero,Nat.add_zero]
  rfl
theorem cut_split:∀ (s acc:List UInt8),cutL (s++[10]) acc=onHead acc (splitC s)
 | [],acc=>by simp [cutL,splitC_nil,onHead]
 | c::s,acc=>by
  rw [List.cons_append,cutL]
  by_cases h:c=10
  ·subst h
   rw [if_pos rfl,cut_split s [],splitC_at,onHead_nil]
   simp [onHead]
  ·rw [if_neg h,cut_split s (acc++[c]),splitC_ne c s h,onHead_app]
theorem trim_end (s:List UInt8):Lib.trimSuffix (s++[10]) [10]=s:=by
 unfold Lib.trimSuffix
 rw [if_pos (by simp [Lib.hasSuffix])]
 simp
theorem clauses_same (s:List UInt8):splitC (Lib.trimSuffix (s++[10]) [10])=cutL (s++[10]) []:=by
 rw [trim_end,cut_split,onHead_nil]
theorem encIs_cells (L:List (List Int)):∀ x∈L.map encIs,x.cells.length=1:=fun x hx=>by
 obtain ⟨c,_,rfl⟩:=List.mem_map.1 hx
 rfl
theorem encIs_ones (L:List (List Int)):∀ a∈flat (L.map encIs),a.one=true:=fun a ha=>by
 obtain ⟨x,hx,hax⟩:=List.mem_flatMap.1 ha
 obtain ⟨c,_,rfl⟩:=List.mem_map.1 hx
 simp [encIs,AV.cells] at hax
 subst hax
 rfl
theorem flat_one {l:List AV} (h:∀ a∈l,a.cells=[a]):flat l=l:=by
 induction l with
 | nil=>rfl
 | cons a l ih =>
  unfold flat at ih ⊢
  rw [List.flatMap_cons,h a (by simp),ih fun b hb=>h b (by simp [hb])]
  rfl
theorem LeTs.of_get {l r:List AV} (hl:r.length=l.length) (h:∀ (j:Nat) (a b:AV),l[j]?=some a→r[j]?=some b→LeT a b):LeTs l r:=by
 induction l generalizing r with
 | nil =>
  cases r with
  | nil=>exact .nil
  | cons b r=>simp at hl
 | cons a l ih =>
  cases r with
  | nil=>simp at hl
  | cons b r=>exact .cons (h 0 a b rfl rfl) (ih (by simpa using hl) fun j x y h1 h2=>h (j+1) x y h1 h2)
theorem nils_let (m:Int) (n:Nat) (hm:m.toNat=n):LeTs (flat (Src.list (.lst (List.replicate m.toNat AV.nils)))) (flat ((List.replicate n ([]:List Int)).map encIs)):=by
 have e1:flat (Src.list (.lst (List.replicate m.toNat AV.nils)))=List.replicate n AV.nils:=by
  rw [hm]
  exact flat_one fun a ha=>by
   rw [(List.mem_replicate.1 ha).2];rfl
 have e2:flat ((List.replicate n ([]:List Int)).map encIs)=List.replicate n (encIs []):=by
  rw [List.map_replicate]
  exact flat_one fun a ha=>by rw [(List.mem_replicate.1 ha).2];rfl
 rw [e1,e2]
 refine LeTs.of_get (by simp) fun j a b h1 h2=>?_
 rw [List.getElem?_replicate] at h1 h2
 split at h1
 ·rename_i h
  rw [if_pos h] at h2
  cases h1;cases h2
  exact LeT.nils_sl _ _ _
 ·cases h1
def dT (a b:List Str) (i k:Nat):Int:=(dist (a.drop i) (b.drop k):Int)
theorem dT_nn (a b:List Str) (i k:Nat):0≤dT a b i k:=Int.natCast_nonneg _
theorem dT_le (a b:List Str) (i k:Nat):dT a b i k≤a.length+b.length:=by
 have:=dist_le (a.drop i) (b.drop k)
 simp only [List.length_drop] at this
 unfold dT
 omega
theorem dT_a (a b:List Str) (k:Nat):dT a b a.length k=(b.length-k:Nat):=by unfold dT;rw [List.drop_length,dist_nil_l,List.length_drop]
theorem dT_b (a b:List Str) (i:Nat):dT a b i b.length=(a.length-i:Nat):=by unfold dT;rw [List.drop_length,dist_nil_r,List.length_drop]
theorem dT_at {a b:List Str} {i k:Nat} (hi:i<a.length) (hk:k<b.length):dT a b i k=if a.getD i []=b.getD k [] then dT a b (i+1) (k+1) else 1+min (dT a b (i+1) k) (dT a b i (k+1)):=by
 have hA:a.drop i=a.getD i []::a.drop (i+1):=drop_at [] hi
 have hB:b.drop k=b.getD k []::b.drop (k+1):=drop_at [] hk
 have h:=dist_cons (a.getD i []) (b.getD k []) (a.drop (i+1)) (b.drop (k+1))
 rw [← hA,← hB] at h
 unfold dT
 rw [h]
 split
 ·rfl
 ·omega
def rowK (a b:List Str) (i k:Nat):List Int:=(List.range (b.length+1)).map fun j=>if k≤j then dT a b i j else 0
theorem rowK_len (a b:List Str) (i k:Nat):(rowK a b i k).length=b.length+1:=by unfold rowK;simp
theorem rowK_get {a b:List Str} {i k j:Nat} (hj:j≤b.length) (hk:k≤j):(rowK a b i k).getD j 0=dT a b i j:=by
 unfold rowK
 rw [List.getD_eq_getElem?_getD,List.getElem?_map,List.getElem?_range (by omega)]
 simp [hk]
theorem rowK_full (a b:List Str) (i:Nat):rowK a b i (b.length+1)=List.replicate (b.length+1) 0:=by
 unfold rowK
 refine List.ext_getElem (by simp) fun k h1 h2=>?_
 simp at h1
 simp
 omega
theorem rowK_set {a b:List Str} {i k:Nat} (hk:k≤b.length):(rowK a b i (k+1)).set k (dT a b i k)=rowK a b i k:=by
 refine List.ext_getElem (by simp [rowK]) fun j h1 h2=>?_
 rw [List.getElem_set]
 simp only [rowK,List.getElem_map,List.getElem_range]
 by_cases e:k=j
 ·subst e;simp
 ·rw [if_neg e]
  by_cases h:k≤j
  ·rw [if_pos (by omega),if_pos h]
  ·rw [if_neg (by omega),if_neg h]
def tabD (a b:List Str) (i:Nat):List (List Int):=(List.range (a.length+1)).map fun j=>if i≤j then rowK a b j 0 else []
theorem tabD_len (a b:List Str) (i:Nat):(tabD a b i).length=a.length+1:=by unfold tabD;simp
theorem tabD_get {a b:List Str} {i j:Nat} (hj:j≤a.length) (hk:i≤j):(tabD a b i).getD j []=rowK a b j 0:=by
 unfold tabD
 rw [List.getD_eq_getElem?_getD,List.getElem?_map,List.getElem?_range (by omega)]
 simp [hk]
theorem tabD_full (a b:List Str):tabD a b (a.length+1)=List.replicate (a.length+1) []:=by
 unfold tabD
 refine List.ext_getElem (by simp) fun k h1 h2=>?_
 simp at h1
 simp
 omega
theorem tabD_set {a b:List Str} {i:Nat} (hi:i≤a.length):(tabD a b (i+1)).set i (rowK a b i 0)=tabD a b i:=by
 refine List.ext_getElem (by simp [tabD]) fun j h1 h2=>?_
 rw [List.getElem_set]
 simp only [tabD,List.getElem_map,List.getElem_range]
 by_cases e:i=j
 ·subst e;simp
 ·rw [if_neg e]
  by_cases h:i≤j
  ·rw [if_pos (by omega),if_pos h]
  ·rw [if_neg (by omega),if_neg h]
theorem least_ok (a b:List Str) (ha:a.length≤200) (hb:b.length≤200):APure Tryz.prog 27 [encSs a,encSs b] (fun rs=>rs=[.new (.row 64 1 encIs [] (tabD a b 0))]):=by
 refine aO (cxOk 95 [0,1,4,5,6,7,8,16,26,32,43,59]) Tryz.func27 ?_
 conv=>whnf
 refine iO ?_;conv=>whnf
 refine And.intro ⟨ab0,ab0⟩ ?_;conv=>whnf
 have e0:((a.length:Int)+1).toNat=a.length+1:=by omega
 have e1:((b.length:Int)+1).toNat=b.length+1:=by omega
 refine loop_inv (cxOk _ _) (σ:=Nat) (fun i=>i≤a.length+1) (fun i=>i) (fun i=>⟨[(0,encSs a),(1,encSs b),(5,.own 0),(6,.int .i64 ((i:Int)-1))],[(0,.row 64 1 encIs [] (tabD a b i))],1⟩) (a.length+1) (Nat.le_refl _) (by rw [tabD_full];exact (wk_of [(0,.id 0)] rfl ⟨wa0,wa0,(by first | exact .base (.own _ _ rfl) | exact .base (.nilown _ rfl) | exact .base (.trunc _ _ _ rfl)),.base (.tree _ _ (by show AV.int .i64 (a.length:Int)=AV.int .i64 (((a.length+1:Nat):Int)-1);congr 1;omega) rfl),trivial⟩ ⟨⟨_,rfl,.rowT 0 64 1 (.lst _) encIs [] _ rfl (by simp [Src.list,avOf1]) (encIs_cells _) (encIs_ones _) (nils_let _ _ e0)⟩,trivial⟩)) ?_
 intro i hi
 conv=>whnf
 refine ⟨fun hc=>?_,fun hc=>?_⟩
 ·simp only [decide_eq_true_eq] at hc
  obtain ⟨p,rfl⟩:∃ p,i=p+1:=⟨i-1,by omega⟩
  have hp:p≤a.length:=by omega
  have eP:((p+1:Nat):Int)-1=p:=by omega
  rw [eP]
  conv=>whnf
  refine iO ?_;conv=>whnf
  refine And.intro ⟨ab0,ab0⟩ ?_;conv=>whnf
  have hTl:=tabD_len a b (p+1)
  have hTs:=tabD_set (b:=b) hp
  have hTg:p<a.length→(tabD a b (p+1)).getD (p+1) []=rowK a b (p+1) 0:=fun h=>tabD_get (by omega) (Nat.le_refl _)
  generalize tabD a b (p+1)=T at *
  refine loop_inv (cxOk _ _) (σ:=Nat) (fun k=>k≤b.length+1) (fun k=>k) (fun k=>⟨[(0,encSs a),(1,encSs b),(5,.own 0),(6,.int .i64 (p:Int)),(7,.own 1),(8,.int .i64 ((k:Int)-1))],[(0,.row 64 1 encIs [] T),(1,.row 3 1 encI 0 (rowK a b p k))],2⟩) (b.length+1) (Nat.le_refl _) (by rw [rowK_full];exact (wk_of [(0,.id 0),(1,.id 1)] rfl ⟨wa0,wa0,(by first | exact .base (.own _ _ rfl) | exact .base (.nilown _ rfl) | exact .base (.trunc _ _ _ rfl)),wa0,(by first | exact .base (.own _ _ rfl) | exact .base (.nilown _ rfl) | exact .base (.trunc _ _ _ rfl)),.base (.tree _ _ (by show AV.int .i64 (b.length:Int)=AV.int .i64 (((b.length+1:Nat):Int)-1);congr 1;omega) rfl),trivial⟩ ⟨⟨_,rfl,(by first | exact .row _ _ _ _ _ _ _ rfl rfl | exact .lstrow _ _ _ _ _ _ _ rfl rfl | exact .nilrow _ _ _ _ _ rfl | exact .truncrow _ _ _ _ _ _ _ _ rfl (by omega) rfl)⟩,⟨_,rfl,(by first | exact .row _ _ _ _ _ _ _ rfl (by rw [e1];exact (List.map_replicate (f:=encI)).symm) | exact .lstrow _ _ _ _ _ _ _ rfl (by rw [e1];exact (List.map_replicate (f:=encI)).symm) | exact .nilrow _ _ _ _ _ (by rw [e1];exact (List.map_replicate (f:=encI)).symm) | exact .truncrow _ _ _ _ _ _ _ _ rfl (by omega) (by rw [e1];exact (List.map_replicate (f:=encI)).symm))⟩,trivial⟩)) ?_
  intro k hk
  conv=>whnf
  refine ⟨fun hd=>?_,fun hd=>?_⟩
  ·simp only [decide_eq_true_eq] at hd
   obtain ⟨q,rfl⟩:∃ q,k=q+1:=⟨k-1,by omega⟩
   have hq:q≤b.length:=by omega
   have eQ:((q+1:Nat):Int)-1=q:=by omega
   have eqn:(q:Int).toNat=q:=Int.toNat_natCast q
   rw [eQ]
   have hRl:=rowK_len a b p (q+1)
   have hRs:=rowK_set (a:=a) (i:=p) hq
   have hRg:q<b.length→(rowK a b p (q+1)).getD (q+1) 0=dT a b p (q+1):=fun h=>rowK_get (by omega) (Nat.le_refl _)
   generalize rowK a b p (q+1)=R at *
   conv=>whnf
   refine ⟨fun h1=>?_,fun h1=>?_⟩
   ·simp only [decide_eq_true_eq] at h1
    obtain rfl:p=a.length:=by omega
    have hv:=dT_a a b q
    conv=>whnf
    refine iO ?_;conv=>whnf
    refine iO ?_;conv=>whnf
    refine Exists.intro _ (And.intro rfl (And.intro ab0 (And.intro ⟨rfl,rfl,rfl,rfl,rfl⟩ ?_)));conv=>whnf
    refine iO ?_;conv=>whnf
    refine ⟨q,by omega,by show q<q+1;omega,(wk_of [(0,.id 0),(1,.id 1)] rfl ⟨wa0,wa0,ae0,wa0,ae0,wa0,trivial⟩ ⟨⟨_,rfl,ag0⟩,⟨_,rfl,(by first | exact .row _ _ _ _ _ _ _ rfl (by rw [← hRs,hv,eqn];congr 1;omega) | exact .lstrow _ _ _ _ _ _ _ rfl (by rw [← hRs,hv,eqn];congr 1;omega) | exact .nilrow _ _ _ _ _ (by rw [← hRs,hv,eqn];congr 1;omega) | exact .truncrow _ _ _ _ _ _ _ _ rfl (by omega) (by rw [← hRs,hv,eqn];congr 1;omega))⟩,trivial⟩)⟩
   ·simp only [decide_eq_false_iff_not] at h1
    have hpl:p<a.length:=by omega
    conv=>whnf
    refine ⟨fun h2=>?_,fun h2=>?_⟩
    ·simp only [decide_eq_true_eq] at h2
     obtain rfl:q=b.length:=by omega
     have hv:=dT_b a b p
     conv=>whnf
     refine iO ?_;conv=>whnf
     refine iO ?_;conv=>whnf
     refine Exists.intro _ (And.intro rfl (And.intro ab0 (And.intro ⟨rfl,rfl,rfl,rfl,rfl⟩ ?_)));conv=>whnf
     refine iO ?_;conv=>whnf
     refine ⟨b.length,by omega,by show b.length<b.length+1;omega,(wk_of [(0,.id 0),(1,.id 1)] rfl ⟨wa0,wa0,ae0,wa0,ae0,wa0,trivial⟩ ⟨⟨_,rfl,ag0⟩,⟨_,rfl,(by first | exact .row _ _ _ _ _ _ _ rfl (by rw [← hRs,hv,eqn];congr 1;omega) | exact .lstrow _ _ _ _ _ _ _ rfl (by rw [← hRs,hv,eqn];congr 1;omega) | exact .nilrow _ _ _ _ _ (by rw [← hRs,hv,eqn];congr 1;omega) | exact .truncrow _ _ _ _ _ _ _ _ rfl (by omega) (by rw [← hRs,hv,eqn];congr 1;omega))⟩,trivial⟩)⟩
    ·simp only [decide_eq_false_iff_not] at h2
     have hql:q<b.length:=by omega
     have hv:=dT_at hpl hql
     have hT1:=hTg hpl
     have hR1:=hRg hql
     have b1:=dT_nn a b (p+1) (q+1)
     have b2:=dT_nn a b (p+1) q
     have b3:=dT_nn a b p (q+1)
     have c1:=dT_le a b (p+1) (q+1)
     have c2:=dT_le a b (p+1) q
     have c3:=dT_le a b p (q+1)
     have hN:=rowK_len a b (p+1) 0
     have hN1:(rowK a b (p+1) 0).getD (q+1) 0=dT a b (p+1) (q+1):=rowK_get (by omega) (Nat.zero_le _)
     have hN2:(rowK a b (p+1) 0).getD q 0=dT a b (p+1) q:=rowK_get (by omega) (Nat.zero_le _)
     have ep:((p:Int)+1).toNat=p+1:=by omega
     have eq':((q:Int)+1).toNat=q+1:=by omega
     conv=>whnf
     refine .quiet (by kernel_rfl) ?_;conv=>whnf
     refine iO ?_;conv=>whnf
     refine And.intro rfl ?_;conv=>whnf
     refine iO ?_;conv=>whnf
     refine And.intro rfl ?_;conv=>whnf
     refine ⟨fun h3=>?_,fun h3=>?_⟩
     ·simp only [Int.toNat_natCast,decide_eq_true_eq] at h3
      rw [if_pos h3] at hv
      conv=>whnf
      refine iO ?_;conv=>whnf
      refine iO ?_;conv=>whnf
      refine And.intro om0 (And.intro rfl ?_);conv=>whnf
      refine iO ?_;conv=>whnf
      rw [ep,hT1]
      conv=>whnf
      refine iO ?_;conv=>whnf
      refine And.intro rfl ?_;conv=>whnf
      refine iO ?_;conv=>whnf
      refine Exists.intro _ (And.intro rfl (And.intro ab0 (And.intro ⟨rfl,rfl,rfl,rfl,rfl⟩ ?_)));conv=>whnf
      refine iO ?_;conv=>whnf
      refine ⟨q,by omega,by show q<q+1;omega,(wk_of [(0,.id 0),(1,.id 1)] rfl ⟨wa0,wa0,ae0,wa0,ae0,wa0,trivial⟩ ⟨⟨_,rfl,ag0⟩,⟨_,rfl,(by first | exact .row _ _ _ _ _ _ _ rfl (by rw [← hRs,hv,eqn,eq',hN1]) | exact .lstrow _ _ _ _ _ _ _ rfl (by rw [← hRs,hv,eqn,eq',hN1]) | exact .nilrow _ _ _ _ _ (by rw [← hRs,hv,eqn,eq',hN1]) | exact .truncrow _ _ _ _ _ _ _ _ rfl (by omega) (by rw [← hRs,hv,eqn,eq',hN1]))⟩,trivial⟩)⟩
     ·simp only [Int.toNat_natCast,decide_eq_false_iff_not] at h3
      rw [if_neg h3] at hv
      conv=>whnf
      refine .eff af0 ?_;conv=>whnf
      refine iO ?_;conv=>whnf
      refine iO ?_;conv=>whnf
      refine And.intro om0 (And.intro rfl ?_);conv=>whnf
      rw [ep,hT1]
      conv=>whnf
      refine iO ?_;conv=>whnf
      refine And.intro rfl ?_;conv=>whnf
      refine iO ?_;conv=>whnf
      refine iO ?_;conv=>whnf
      refine And.intro om0 (And.intro rfl ?_);conv=>whnf
      rw [eqn,eq',hN2,hR1]
      refine iO ?_
      conv=>whnf
      refine iO ?_;conv=>whnf
      refine Exists.intro _ (And.intro rfl (And.intro ab0 (And.intro ⟨rfl,rfl,rfl,rfl,rfl⟩ ?_)));conv=>whnf
      refine And.intro rfl ?_;conv=>whnf
      refine iO ?_;conv=>whnf
      refine ⟨q,by omega,by show q<q+1;omega,(wk_of [(0,.id 0),(1,.id 1)] rfl ⟨wa0,wa0,ae0,wa0,ae0,wa0,trivial⟩ ⟨⟨_,rfl,ag0⟩,⟨_,rfl,(by first | exact .row _ _ _ _ _ _ _ rfl (by rw [← hRs,hv,eqn]) | exact .lstrow _ _ _ _ _ _ _ rfl (by rw [← hRs,hv,eqn]) | exact .nilrow _ _ _ _ _ (by rw [← hRs,hv,eqn]) | exact .truncrow _ _ _ _ _ _ _ _ rfl (by omega) (by rw [← hRs,hv,eqn]))⟩,trivial⟩)⟩
  ·simp only [decide_eq_false_iff_not] at hd
   obtain rfl:k=0:=by omega
   conv=>whnf
   refine iO ?_;conv=>whnf
   refine Exists.intro _ (And.intro rfl (And.intro ab0 (And.intro ⟨rfl,rfl,rfl,rfl,rfl⟩ ?_)));conv=>whnf
   refine iO ?_;conv=>whnf
   refine ⟨p,by omega,by show p<p+1;omega,(wk_of [(0,.id 0)] rfl ⟨wa0,wa0,ae0,wa0,trivial⟩ ⟨⟨_,rfl,(by first | exact .row _ _ _ _ _ _ _ rfl (by rw [← hTs,Int.toNat_natCast]) | exact .lstrow _ _ _ _ _ _ _ rfl (by rw [← hTs,Int.toNat_natCast]) | exact .nilrow _ _ _ _ _ (by rw [← hTs,Int.toNat_natCast]) | exact .truncrow _ _ _ _ _ _ _ _ rfl (by omega) (by rw [← hTs,Int.toNat_natCast]))⟩,trivial⟩)⟩
 ·simp only [decide_eq_false_iff_not] at hc
  obtain rfl:i=0:=by omega
  conv=>whnf
  rfl
theorem leastv_ok (a b:List Str) (ha:a.length≤200) (hb:b.length≤200):APureV Tryz.prog 27 [encSs a,encSs b] (.sl 1 encIs [] (tabD a b 0)) :=
 (least_ok a b ha hb).freeze1
theorem gff {t:Nat} {p g:Bool} {r:List Lay} {q:Prop} (h:andG (⟨t,p,g⟩::r) (polB true false)=true):q:=by simp [andG,polB] at h
theorem compare2_ok (a b:List Str) (ha:a.length≤200) (hb:b.length≤200):APure Tryz.prog 12 [encSs a,encSs b] (fun rs=>rs=[.new (.row 50 2 encG g0 (compareL a b))]):=by
 refine aO (cxOk 102 [0,1,4,5,6,7,8,9,17,30,41,50,86]) Tryz.func12 ?_
 conv=>whnf
 refine ⟨fun hc=>?_,fun hc=>?_⟩
 ·exfalso
  simp only [Bool.or_eq_true,decide_eq_true_eq] at hc
  omega
 conv=>whnf
 refine cO (fun _=>leastv_ok a b ha hb) ?_
 conv=>whnf
 have hTl:=tabD_len a b 0
 have hTg:∀ i,i≤a.length→(tabD a b 0).getD i []=rowK a b i 0:=fun i hi=>tabD_get hi (Nat.zero_le _)
 generalize tabD a b 0=T at *
 have stepA:∀ {xs:List Chg} {c:Chg} {i k i' k':Nat} {t:List Chg},xs++cmp (a.drop i) (b.drop k) i k=compareL a b→cmp (a.drop i) (b.drop k) i k=c::t→t=cmp (a.drop i') (b.drop k') i' k'→(xs++[c])++cmp (a.drop i') (b.drop k') i' k'=compareL a b:=by
  intro xs c i k i' k' t h h1 h2
  rw [← h,h1,← h2]
  simp
 refine loop_inv (cxOk _ _) (σ:=Nat×Nat×List Chg) (fun s=>(s.1≤a.length∧s.2.1≤b.length)∧s.2.2.length≤s.1+s.2.1∧s.2.2++cmp (a.drop s.1) (b.drop s.2.1) s.1 s.2.1=compareL a b) (fun s=>a.length+b.length-s.1-s.2.1) (fun s=>⟨[(0,encSs a),(1,encSs b),(5,.sl 1 encIs [] T),(6,.own 0),(7,.int .i64 ((s.1):Nat)),(8,.int .i64 ((s.2.1):Nat))],[(0,.row 50 2 encG g0 (s.2.2))],1⟩) (0,0,[]) ⟨⟨Nat.zero_le _,Nat.zero_le _⟩,by simp,by simp [compareL]⟩ ((wk_of [(0,.nil)] rfl ⟨wa0,wa0,wa0,ae0,wa0,wa0,trivial⟩ ⟨⟨_,rfl,ag0⟩,trivial⟩)) ?_
 rintro ⟨i,k,xs⟩ ⟨⟨hi,hk⟩,hlen,hxs⟩
 simp only at hi hk hlen hxs
 show evCode _ _ (⟨[(0,encSs a),(1,encSs b),(5,.sl 1 encIs [] T),(6,.own 0),(7,.int .i64 (i:Nat)),(8,.int .i64 (k:Nat))],[(0,.row 50 2 encG g0 xs)],1⟩) _
 conv=>whnf
 refine ⟨fun hc=>?_,fun hc=>?_⟩
 ·have eI:(i:Int).toNat=i:=Int.toNat_natCast i
  have eK:(k:Int).toNat=k:=Int.toNat_natCast k
  simp only [Bool.or_eq_true,decide_eq_true_eq] at hc
  conv=>whnf
  refine ⟨fun hb=>?_,fun hb=>?_⟩
  ·rw [hb]
   simp only [Bool.and_eq_true,decide_eq_true_eq] at hb
   have hlt:i<a.length:=by omega
   have hlk:k<b.length:=by omega
   have hA:a.drop i=a.getD i []::a.drop (i+1):=drop_at [] hlt
   have hB:b.drop k=b.getD k []::b.drop (k+1):=drop_at [] hlk
   have hstep:=cmp_both (a.getD i []) (b.getD k []) (a.drop (i+1)) (b.drop (k+1)) i k
   have hturn:=dist_turn (a.getD i []) (b.getD k []) (a.drop (i+1)) (b.drop (k+1))
   rw [← hA,← hB] at hstep hturn
   conv=>whnf
   refine .quiet (by kernel_rfl) ?_;conv=>whnf
   refine iO ?_;conv=>whnf
   refine And.intro rfl ?_;conv=>whnf
   refine iO ?_;conv=>whnf
   refine And.intro rfl ?_;conv=>whnf
   refine ⟨fun hd=>?_,fun hd=>?_⟩
   ·simp only [Int.toNat_natCast,decide_eq_true_eq] at hd
    rw [if_pos hd] at hstep
    conv=>whnf
    refine And.intro rfl ?_;conv=>whnf
    refine And.intro ⟨rfl,rfl⟩ (And.intro (show (xs.length+1)*16≤140737488355328 by omega) ?_)
    conv=>whnf
    refine ⟨⟨i,k⟩,rfl,?_⟩
    conv=>whnf
    refine iO ?_;conv=>whnf
    refine iO ?_;conv=>whnf
    refine ⟨(i+1,k+1,xs++[⟨i,k⟩]),⟨⟨hlt,hlk⟩,by simp;omega,?_⟩,by show a.length+b.length-(i+1)-(k+1)<a.length+b.length-i-k;omega,(wk_of [(0,.id 2)] rfl ⟨wa0,wa0,wa0,ae0,wa0,wa0,trivial⟩ ⟨⟨_,rfl,ag0⟩,trivial⟩)⟩
    exact stepA hxs hstep rfl
   ·simp only [Int.toNat_natCast,decide_eq_false_iff_not] at hd
    rw [if_neg hd] at hstep
    have hT1:=hTg (i+1) hlt
    have hT2:=hTg i hi
    have e1:((i:Int)+1).toNat=i+1:=by omega
    have e2:((k:Int)+1).toNat=k+1:=by omega
    have hN1:=rowK_len a b (i+1) 0
    have hN2:=rowK_len a b i 0
    have hv1:(rowK a b (i+1) 0).getD k 0=dT a b (i+1) k:=rowK_get hk (Nat.zero_le _)
    have hv2:(rowK a b i 0).getD (k+1) 0=dT a b i (k+1):=rowK_get hlk (Nat.zero_le _)
    conv=>whnf
    refine .quiet (by kernel_rfl) ?_;conv=>whnf
    refine And.intro (fun _=>⟨by omega,by omega⟩) ?_;conv=>whnf
    refine And.intro om0 (And.intro rfl ?_);conv=>whnf
    rw [e1,hT1]
    conv=>whnf
    refine And.intro om0 (And.intro rfl ?_);conv=>whnf
    refine And.intro om0 (And.intro rfl ?_);conv=>whnf
    refine And.intro (fun _=>⟨by omega,by omega⟩) ?_;conv=>whnf
    rw [eI,hT2]
    conv=>whnf
    refine And.intro om0 (And.intro rfl ?_);conv=>whnf
    have hvd:((rowK a b (i+1) 0).getD (k:Int).toNat 0≤(rowK a b i 0).getD ((k:Int)+1).toNat 0)↔lcs (a.drop i) (b.drop (k+1))≤lcs (a.drop (i+1)) (b.drop k):=by
     rw [eK,e2,hv1,hv2,← hturn]
     exact Int.ofNat_le
    refine ⟨fun he=>?_,fun he=>?_⟩
    ·simp only [Bool.or_eq_true,Bool.true_and,decide_eq_true_eq] at he
     rw [if_pos (hvd.1 (by rcases he with h | h;omega;exact h))] at hstep
     conv=>whnf
     refine And.intro rfl ?_;conv=>whnf
     refine And.intro ⟨rfl,rfl⟩ (And.intro (show (xs.length+1)*16≤140737488355328 by omega) ?_)
     conv=>whnf
     refine ⟨⟨i,-1⟩,rfl,?_⟩
     conv=>whnf
     refine iO ?_;conv=>whnf
     refine ⟨(i+1,k,xs++[⟨i,-1⟩]),⟨⟨hlt,hk⟩,by simp;omega,?_⟩,by show a.length+b.length-(i+1)-k<a.length+b.length-i-k;omega,(wk_of [(0,.id 2)] rfl ⟨wa0,wa0,wa0,ae0,wa0,wa0,trivial⟩ ⟨⟨_,rfl,ag0⟩,trivial⟩)⟩
     exact stepA hxs hstep (by rw [hB];rfl)
    ·simp only [Bool.or_eq_false_iff,Bool.true_and,decide_eq_false_iff_not] at he
     rw [if_neg (fun h=>he.2 (hvd.2 h))] at hstep
     conv=>whnf
     refine And.intro rfl ?_;conv=>whnf
     refine And.intro ⟨rfl,rfl⟩ (And.intro (show (xs.length+1)*16≤140737488355328 by omega) ?_)
     conv=>whnf
     refine ⟨⟨-1,k⟩,rfl,?_⟩
     conv=>whnf
     refine iO ?_;conv=>whnf
     refine ⟨(i,k+1,xs++[⟨-1,k⟩]),⟨⟨hi,hlk⟩,by simp;omega,?_⟩,by show a.length+b.length-i-(k+1)<a.length+b.length-i-k;omega,(wk_of [(0,.id 2)] rfl ⟨wa0,wa0,wa0,ae0,wa0,wa0,trivial⟩ ⟨⟨_,rfl,ag0⟩,trivial⟩)⟩
     exact stepA hxs hstep (by rw [hA];rfl)
  ·rw [hb]
   simp only [Bool.and_eq_false_iff,decide_eq_false_iff_not] at hb
   conv=>whnf
   refine .quiet (by kernel_rfl) ?_;conv=>whnf
   refine And.intro (fun _=>⟨by omega,by omega⟩) ?_;conv=>whnf
   repeat (first | (refine And.intro gff ?_;conv=>whnf) | (refine And.intro rfl ?_;conv=>whnf) | (refine Exists.intro _ (And.intro rfl ?_);conv=>whnf))
   by_cases hkb:k=b.length
   ·have hiA:i<a.length:=by omega
    have hA:a.drop i=a.getD i []::a.drop (i+1):=drop_at [] hiA
    have hB:b.drop k=[]:=List.drop_eq_nil_of_le (by omega)
    have hstep:=cmp_left (a.getD i []) (a.drop (i+1)) i k
    rw [← hA,← hB] at hstep
    have hkd:decide ((k:Int)=(b.length:Int))=true:=decide_eq_true (by omega)
    rw [hkd]
    refine gT ?_
    conv=>whnf
    refine And.intro rfl ?_;conv=>whnf
    refine And.intro ⟨rfl,rfl⟩ (And.intro (show (xs.length+1)*16≤140737488355328 by omega) ?_)
    conv=>whnf
    refine ⟨⟨i,-1⟩,rfl,?_⟩
    conv=>whnf
    refine iO ?_;conv=>whnf
    refine ⟨(i+1,k,xs++[⟨i,-1⟩]),⟨⟨hiA,hk⟩,by simp;omega,?_⟩,by show a.length+b.length-(i+1)-k<a.length+b.length-i-k;omega,(wk_of [(0,.id 2)] rfl ⟨wa0,wa0,wa0,ae0,wa0,wa0,trivial⟩ ⟨⟨_,rfl,ag0⟩,trivial⟩)⟩
    exact stepA hxs hstep rfl
   ·have hia:a.length≤i:=by omega
    have hkB:k<b.length:=by omega
    have hA:a.drop i=[]:=List.drop_eq_nil_of_le hia
    have hB:b.drop k=b.getD k []::b.drop (k+1):=drop_at [] hkB
    have hstep:=cmp_right (b.getD k []) (b.drop (k+1)) i k
    rw [← hA,← hB] at hstep
    have hkd:decide ((k:Int)=(b.length:Int))=false:=decide_eq_false (by omega)
    rw [hkd]
    refine gF ?_
    conv=>whnf
    refine And.intro rfl ?_;conv=>whnf
    refine And.intro ⟨rfl,rfl⟩ (And.intro (show (xs.length+1)*16≤140737488355328 by omega) ?_)
    conv=>whnf
    refine ⟨⟨-1,k⟩,rfl,?_⟩
    conv=>whnf
    refine iO ?_;conv=>whnf
    refine ⟨(i,k+1,xs++[⟨-1,k⟩]),⟨⟨hi,hkB⟩,by simp;omega,?_⟩,by show a.length+b.length-i-(k+1)<a.length+b.length-i-k;omega,(wk_of [(0,.id 2)] rfl ⟨wa0,wa0,wa0,ae0,wa0,wa0,trivial⟩ ⟨⟨_,rfl,ag0⟩,trivial⟩)⟩
    exact stepA hxs hstep rfl
 ·simp only [Bool.or_eq_false_iff,decide_eq_false_iff_not] at hc
  rw [List.drop_eq_nil_of_le (show a.length≤i by omega),List.drop_eq_nil_of_le (show b.length≤k by omega),cmp_nil,List.append_nil] at hxs
  conv=>whnf
  rw [hxs]
  rfl
theorem apply2_ok (a b:List Str) (l:List Chg) (ha:a.length≤1000) (hb:b.length≤1000) (hl:l.length≤9223372036854775807):APure Tryz.prog 9 [encSs a,encSs b,encGs l] (fun rs=>rs=applyRs a b l):=by
 refine aO (cxOk 104 [0,1,2,6,7,8,9,10,11,12,13,14,18,66,70,79,80,90,102]) Tryz.func9 ?_
 conv=>whnf
 refine loop_inv (cxOk _ _) (σ:=Nat×Nat×Nat) (fun s=>s.1≤a.length∧s.2.1≤b.length∧s.2.2≤l.length∧okL a b 0 0 l=okL a b s.1 s.2.1 (l.drop s.2.2)) (fun s=>l.length-s.2.2) (fun s=>⟨[(0,encSs a),(1,encSs b),(2,encGs l),(8,.own 0),(9,.int .i64 ((s.1):Nat)),(10,.int .i64 ((s.2.1):Nat)),(11,.int .i64 ((s.2.2):Nat))],[(0,.row 9 1 encS [] (b.take (s.2.1)))],1⟩) (0,0,0) ⟨Nat.zero_le _,Nat.zero_le _,Nat.zero_le _,by simp⟩ ((wk_of [(0,.nil)] rfl ⟨wa0,wa0,wa0,ae0,wa0,wa0,wa0,trivial⟩ ⟨⟨_,rfl,ag0⟩,trivial⟩)) ?_
 rintro ⟨i,k,j⟩ ⟨hi,hk,hj,hP⟩
 simp only at hi hk hj hP
 show evCode _ _ (⟨[(0,encSs a),(1,encSs b),(2,encGs l),(8,.own 0),(9,.int .i64 (i:Nat)),(10,.int .i64 (k:Nat)),(11,.int .i64 (j:Nat))],[(0,.row 9 1 encS [] (b.take k))],1⟩) _
 conv=>whnf
 refine ⟨fun hc=>?_,fun hc=>?_⟩
 ·simp only [decide_eq_true_eq] at hc
  have hlt:j<l.length:=by omega
  have eJ:(j:Int).toNat=j:=Int.toNat_natCast j
  have eI:(i:Int).toNat=i:=Int.toNat_natCast i
  have eK:(k:Int).toNat=k:=Int.toNat_natCast k
  rw [drop_at g0 hlt,okL] at hP
  conv=>whnf
  refine iO ?_;conv=>whnf
  refine And.intro rfl ?_;conv=>whnf
  rw [eJ]
  generalize l.getD j g0=c at *
  conv=>whnf
  have e1:decide ((a.length:Int)≤i)=decide ((i:Int)=a.length):=decide_eq_decide.2 (by omega)
  have e2:decide ((b.length:Int)≤k)=decide ((k:Int)=b.length):=decide_eq_decide.2 (by omega)
  have hbd:(!!decide (c.o=-1)&&!!decide (c.n=-1)||!decide (c.o=-1)&&(!decide (c.o=(i:Int))||decide ((a.length:Int)≤i))||!decide (c.n=-1)&&(!decide (c.n=(k:Int))||decide ((b.length:Int)≤k)))=bad1 c i k a.length b.length:=by
   rw [e1,e2,bad1,Bool.not_not,Bool.not_not]
  refine ⟨fun hd=>?_,fun hd=>?_⟩
  ·have hd':bad1 c i k a.length b.length=true:=hbd.symm.trans hd
   rw [hd'] at hP
   conv=>whnf
   rw [applyRs,if_neg (by rw [hP];simp)]
   rfl
  have hd':bad1 c i k a.length b.length=false:=hbd.symm.trans hd
  obtain ⟨hb1,hb2⟩:=bad1_false hd'
  rw [hd'] at hP
  clear hbd hd
  have fin:∀ (i' k':Nat),i'=mv c.o i→k'=mv c.n k→bad2 c (a.getD i []) (b.getD k [])=false→okL a b 0 0 l=okL a b i' k' (l.drop (j+1)):=by
   intro i' k' e1 e2 e3
   rw [hP,e1,e2,e3]
   rfl
  have htk:∀ h:k<b.length,b.take k++[b.getD k []]=b.take (k+1):=fun h=>(take_getD h).symm
  have hbl:(b.take k).length=k:=by rw [List.length_take];omega
  cases ho:decide (c.o=-1) with
  | true =>
   have ho':=of_decide_eq_true ho
   cases hn:decide (c.n=-1) with
   | true =>
    exfalso
    have hn':=of_decide_eq_true hn
    rw [bad1,ho,hn] at hd'
    simp at hd'
   | false =>
    have hn':=of_decide_eq_false hn
    have hk':=hb2 hn'
    have hkl:k<b.length:=by omega
    have h2:bad2 c (a.getD i []) (b.getD k [])=false:=by rw [bad2,ho];rfl
    conv=>whnf
    refine gF ?_
    conv=>whnf
    refine nE ?_;conv=>whnf
    refine iO ?_;conv=>whnf
    refine And.intro rfl ?_;conv=>whnf
    refine And.intro rfl ?_;conv=>whnf
    generalize hW:b.take k=W at *
    refine And.intro ⟨rfl,rfl⟩ (And.intro (show (W.length+1)*16≤140737488355328 by omega) ?_)
    conv=>whnf
    refine ⟨_,rfl,?_⟩
    conv=>whnf
    refine iO ?_;conv=>whnf
    refine nD ?_;conv=>whnf
    refine iO ?_;conv=>whnf
    refine ⟨(i,k+1,j+1),⟨hi,hkl,hlt,fin _ _ (mv_stay ho') (mv_move hn') h2⟩,by show l.length-(j+1)<l.length-j;omega,(wk_of [(0,.id 3)] rfl ⟨wa0,wa0,wa0,ae0,wa0,wa0,wa0,trivial⟩ ⟨⟨_,rfl,(by first | exact .row _ _ _ _ _ _ _ rfl (by rw [eK];exact htk hkl) | exact .lstrow _ _ _ _ _ _ _ rfl (by rw [eK];exact htk hkl) | exact .nilrow _ _ _ _ _ (by rw [eK];exact htk hkl) | exact .truncrow _ _ _ _ _ _ _ _ rfl (by omega) (by rw [eK];exact htk hkl))⟩,trivial⟩)⟩
  | false =>
   have ho':=of_decide_eq_false ho
   have hi':=hb1 ho'
   have hil:i<a.length:=by omega
   cases hn:decide (c.n=-1) with
   | true =>
    have hn':=of_decide_eq_true hn
    have h2:bad2 c (a.getD i []) (b.getD k [])=false:=by rw [bad2,ho,hn];rfl
    conv=>whnf
    refine gF ?_
    conv=>whnf
    refine nD ?_;conv=>whnf
    refine nE ?_;conv=>whnf
    refine iO ?_;conv=>whnf
    refine iO ?_;conv=>whnf
    refine ⟨(i+1,k,j+1),⟨hil,hk,hlt,fin _ _ (mv_move ho') (mv_stay hn') h2⟩,by show l.length-(j+1)<l.length-j;omega,(wk_of [(0,.id 0)] rfl ⟨wa0,wa0,wa0,ae0,wa0,wa0,wa0,trivial⟩ ⟨⟨_,rfl,ag0⟩,trivial⟩)⟩
   | false =>
    have hn':=of_decide_eq_false hn
    have hk':=hb2 hn'
    have hkl:k<b.length:=by omega
    have h2:bad2 c (a.getD i []) (b.getD k [])=!decide (a.getD i []=b.getD k []):=by rw [bad2,ho,hn];rfl
    conv=>whnf
    refine gT ?_
    conv=>whnf
    refine .quiet (by kernel_rfl) ?_;conv=>whnf
    refine iO ?_;conv=>whnf
    refine And.intro rfl ?_;conv=>whnf
    refine iO ?_;conv=>whnf
    refine And.intro rfl ?_;conv=>whnf
    refine ⟨fun he=>?_,fun he=>?_⟩
    ·rw [eI,eK] at he
     rw [h2,he] at hP
     conv=>whnf
     rw [applyRs,if_neg (by rw [hP];simp)]
     rfl
    ·rw [eI,eK] at he
     rw [he] at h2
     conv=>whnf
     refine gT ?_
     conv=>whnf
     refine iO ?_;conv=>whnf
     refine And.intro rfl ?_;conv=>whnf
     refine And.intro rfl ?_;conv=>whnf
     generalize hW:b.take k=W at *
     refine And.intro ⟨rfl,rfl⟩ (And.intro (show (W.length+1)*16≤140737488355328 by omega) ?_)
     conv=>whnf
     refine ⟨_,rfl,?_⟩
     conv=>whnf
     refine iO ?_;conv=>whnf
     refine nE ?_;conv=>whnf
     refine iO ?_;conv=>whnf
     refine iO ?_;conv=>whnf
     refine ⟨(i+1,k+1,j+1),⟨hil,hkl,hlt,fin _ _ (mv_move ho') (mv_move hn') h2⟩,by show l.length-(j+1)<l.length-j;omega,(wk_of [(0,.id 3)] rfl ⟨wa0,wa0,wa0,ae0,wa0,wa0,wa0,trivial⟩ ⟨⟨_,rfl,(by first | exact .row _ _ _ _ _ _ _ rfl (by rw [eK];exact htk hkl) | exact .lstrow _ _ _ _ _ _ _ rfl (by rw [eK];exact htk hkl) | exact .nilrow _ _ _ _ _ (by rw [eK];exact htk hkl) | exact .truncrow _ _ _ _ _ _ _ _ rfl (by omega) (by rw [eK];exact htk hkl))⟩,trivial⟩)⟩
 ·simp only [decide_eq_false_iff_not] at hc
  rw [List.drop_eq_nil_of_le (by omega),okL] at hP
  conv=>whnf
  refine ⟨fun hd=>?_,fun hd=>?_⟩
  ·simp only [Bool.or_eq_true,Bool.not_eq_true',decide_eq_false_iff_not] at hd
   conv=>whnf
   rw [applyRs,if_neg (by rw [hP];simp;omega)]
   rfl
  ·simp only [Bool.or_eq_false_iff,Bool.not_eq_false',decide_eq_true_eq] at hd
   conv=>whnf
   rw [applyRs,if_pos (by rw [hP];simp;omega),List.take_of_length_le (show b.length≤k by omega)]
   rfl
def resW:List (List UInt8):=[[97,99,116,117,97,108],[97,100,106,117,115,116],[97,110,100],[97,116],[98,101,102,111,114,101],[99,97,108,108],[99,97,112],[99,111,105,110,115],[99,111,117,110,116],[99,111,117,112,111,110],[99,111,118,101,110,97,110,116],[99,114,111,115,115],[100,97,121,115],[101,108,115,101],[101,118,101,114],[101,118,101,114,121],[102,97,99,101],[102,97,99,116],[102,97,108,115,101],[102,97,115,116],[102,97,118,111,117,114],[102,105,120,101,100],[102,114,111,109],[103,114,97,99,101],[105,102],[105,115,115,117,101],[108,101,116],[108,111,110,103],[109,97,106,111,114,105,116,121],[109,97,120],[109,105,108,108,101],[109,105,110],[109,111,100,105,102,105,101,100],[109,111,110,116,104,115],[109,117,115,116],[110,101,120,116],[110,111,110,101],[110,111,116],[110,111,116,105,99,101],[111,102],[111,114],[114,97,110,107],[114,97,116,101],[114,101,99,111,114,100],[115,105,110,107],[115,111,111,110],[116,104,101,110],[116,104,105,114,116,121],[116,111],[116,114,117,101]]
def cntW:List (List UInt8):=[[116,104,105,114,116,121],[102,105,120,101,100],[97,99,116,117,97,108]]
def adjW:List (List UInt8):=[[110,111,110,101],[110,101,120,116],[109,111,100,105,102,105,101,100],[98,101,102,111,114,101]]
def oprL:List Opr:=[⟨[111,114],14,1⟩,⟨[97,110,100],13,2⟩,⟨[61,61],11,4⟩,⟨[60],10,4⟩,⟨[43],4,5⟩,⟨[45],5,5⟩,⟨[42],6,6⟩,⟨[47],7,6⟩]
theorem res_raw:APure Tryz.prog 123 [] (fun rs=>rs=[.new (.lst 9 1 (resW.map fun s=>AV.str s))]):=by
 refine aO (cxOk 2 [0]) Tryz.func123 ?_
 conv=>whnf
 rfl
theorem res_ok:APureV Tryz.prog 123 [] (encSs resW):=res_raw.freeze1.le1 (.lsl _ _ _ _ _ rfl)
theorem cnt_raw:APure Tryz.prog 42 [] (fun rs=>rs=[.new (.lst 9 1 (cntW.map fun s=>AV.str s))]):=by
 refine aO (cxOk 2 [0]) Tryz.func42 ?_
 conv=>whnf
 rfl
theorem cnt_ok:APureV Tryz.prog 42 [] (encSs cntW):=cnt_raw.freeze1.le1 (.lsl _ _ _ _ _ rfl)
theorem adj_raw:APure Tryz.prog 43 [] (fun rs=>rs=[.new (.lst 9 1 (adjW.map fun s=>AV.str s))]):=by
 refine aO (cxOk 2 [0]) Tryz.func43 ?_
 conv=>whnf
 rfl
theorem adj_ok:APureV Tryz.prog 43 [] (encSs adjW):=adj_raw.freeze1.le1 (.lsl _ _ _ _ _ rfl)
theorem res2_raw:APure Tryz.prog 149 [] (fun rs=>rs=[.new (.lst 9 1 (resW.map fun s=>AV.str s))]):=by
 refine aO (cxOk 2 [0]) Tryz.func149 ?_
 conv=>whnf
 rfl
theorem res2_ok:APureV Tryz.prog 149 [] (encSs resW):=res2_raw.freeze1.le1 (.lsl _ _ _ _ _ rfl)
theorem cnt2_raw:APure Tryz.prog 62 [] (fun rs=>rs=[.new (.lst 9 1 (cntW.map fun s=>AV.str s))]):=by
 refine aO (cxOk 2 [0]) Tryz.func62 ?_
 conv=>whnf
 rfl
theorem cnt2_ok:APureV Tryz.prog 62 [] (encSs cntW):=cnt2_raw.freeze1.le1 (.lsl _ _ _ _ _ rfl)
theorem adj2_raw:APure Tryz.prog 63 [] (fun rs=>rs=[.new (.lst 9 1 (adjW.map fun s=>AV.str s))]):=by
 refine aO (cxOk 2 [0]) Tryz.func63 ?_
 conv=>whnf
 rfl
theorem adj2_ok:APureV Tryz.prog 63 [] (encSs adjW):=adj2_raw.freeze1.le1 (.lsl _ _ _ _ _ rfl)
theorem opr_raw:APure Tryz.prog 89 [] (fun rs=>rs=[.new (.lst 122 3 (oprL.map encO))]):=by
 refine aO (cxOk 10 [0]) Tryz.func89 ?_
 conv=>whnf
 rfl
def encOs (l:List Opr):AV:=.sl 3 encO o0 l
theorem opr_ok:APureV Tryz.prog 89 [] (encOs oprL):=opr_raw.freeze1.le1 (.lsl _ _ _ _ _ rfl)
def nameB (s:List UInt8):Bool:=wordB s&&!decide (s∈resW)
theorem name_ok (s:List UInt8) (hs:s.length≤9223372036854775807):APureV Tryz.prog 71 [.str s] (.bool (nameB s)):=by
 have hw:=word_ok s hs
 have hr:=res_ok
 have hc:=contains_ok resW s (by decide)
 unfold nameB
 cases hb:wordB s
 ·rw [hb] at hw
  refine aO (cxOk 11 [0,2]) Tryz.func71 ?_
  conv=>whnf
  refine cO (fun _=>hw) ?_
  conv=>whnf
  refine ⟨fun h=>(by cases h),fun _=>?_⟩
  conv=>whnf
  refine cF [.undef,.str s] [.val (.bool false)] ?_
  conv=>whnf
  rfl
 ·rw [hb] at hw
  refine aO (cxOk 11 [0,2]) Tryz.func71 ?_
  conv=>whnf
  refine cO (fun _=>hw) ?_
  conv=>whnf
  refine ⟨fun _=>?_,fun h=>(by cases h)⟩
  conv=>whnf
  refine cO (fun _=>hr) ?_
  conv=>whnf
  refine cO (fun _=>hc) ?_
  conv=>whnf
  rfl
theorem letter2_ok (c:Int):APureV Tryz.prog 179 [.int .u8 c] (.bool (letB c)):=by
 refine aO (cxOk 9 [0,2]) Tryz.func179 ?_
 conv=>whnf
 rfl
theorem digit2_ok (c:Int):APureV Tryz.prog 180 [.int .u8 c] (.bool (digB c)):=by
 refine aO (cxOk 9 [0,2]) Tryz.func180 ?_
 conv=>whnf
 rfl
theorem spanN_all {p:Int→Bool} {s:List UInt8}:spanN p s=s.length↔∀ j,j<s.length→p ((s.getD j 0).toNat:Int)=true:=by
 constructor
 ·intro h j hj
  exact spanN_lt om0
 ·intro h
  apply Classical.byContradiction
  intro hne
  have h1:=spanN_le p s
  have h2:=spanN_at (p:=p) (s:=s) (by omega)
  rw [h _ (by omega)] at h2
  cases h2
theorem word2_ok (s:List UInt8) (hs:s.length≤9223372036854775807):APureV Tryz.prog 150 [.str s] (.bool (wordB s)):=by
 have hl:=letter2_ok ((s.getD 0 0).toNat:Int)
 refine aO (cxOk 36 [0,2,3,17,21,35]) Tryz.func150 ?_
 conv=>whnf
 refine And.intro (fun h=>(by simp only [andG,polB] at h;by_cases h1:(s.length:Int)<1<;>simp [h1] at h;omega)) ?_
 conv=>whnf
 refine cO (fun _=>hl) ?_
 conv=>whnf
 unfold wordB
 have e2:decide (s≠[])=!decide ((s.length:Int)<1):=by
  cases s<;>simp
  omega
 have e1:decide (20<(s.length:Int))=!decide (s.length≤20):=by
  by_cases h:s.length≤20
  ·simp [h];omega
  ·simp [h];omega
 rw [e2,e1]
 generalize hb1:decide ((s.length:Int)<1)=b1
 generalize hb2:letB ((s.getD 0 0).toNat:Int)=b2
 generalize decide (s.length≤20)=b3
 refine ⟨fun hc=>?_,fun hc=>?_⟩
 ·conv=>whnf
  have hb:(!b1&&b2&&b3)=false:=by cases b1<;>cases b2<;>cases b3<;>simp_all
  rw [hb]
  rfl
 ·conv=>whnf
  have hb:(!b1&&b2&&b3)=true:=by cases b1<;>cases b2<;>cases b3<;>simp_all
  have hb1':b1=false:=by cases b1<;>simp_all
  have hb2':b2=true:=by cases b2<;>simp_all
  rw [hb,Bool.true_and]
  subst hb1'
  subst hb2'
  have hpos:1≤s.length:=by have:=of_decide_eq_false hb1;omega
  refine loop_inv (cxOk _ _) (σ:=Nat) (fun k=>1≤k∧k≤s.length∧∀ j,j<k→(letB ((s.getD j 0).toNat:Int)||digB ((s.getD j 0).toNat:Int))=true) (fun k=>s.length-k) (fun k=>⟨[(0,.str s),(3,.int .i64 (k:Nat))],[],0⟩) 1 ⟨Nat.le_refl _,hpos,fun j hj=>(by
   obtain rfl:j=0:=by omega
   rw [hb2];rfl)⟩ ((wk_of [] rfl ⟨wa0,.base (.tree _ _ (show AV.int .i64 _=AV.int .i64 _ by congr 1) rfl),trivial⟩ trivial)) ?_
  rintro k ⟨hk1,hk,hP⟩
  show evCode _ _ (⟨[(0,.str s),(3,.int .i64 (k:Nat))],[],0⟩) _
  have hek:(k:Int).toNat=k:=Int.toNat_natCast k
  conv=>whnf
  refine ⟨fun hd=>?_,fun hd=>?_⟩
  ·have hlt:k<s.length:=by have:=of_decide_eq_true hd;omega
   conv=>whnf
   refine iO ?_;conv=>whnf
   rw [hek]
   conv=>whnf
   refine cO (fun _=>letter2_ok ((s.getD k 0).toNat:Int)) ?_
   conv=>whnf
   refine And.intro (fun _=>⟨by omega,by omega⟩) ?_
   rw [hek]
   conv=>whnf
   refine cO (fun _=>digit2_ok ((s.getD k 0).toNat:Int)) ?_
   conv=>whnf
   refine ⟨fun he=>?_,fun he=>?_⟩
   ·have hw:(letB ((s.getD k 0).toNat:Int)||digB ((s.getD k 0).toNat:Int))=false:=by revert he;cases letB ((s.getD k 0).toNat:Int)<;>cases digB ((s.getD k 0).toNat:Int)<;>simp
    conv=>whnf
    rw [decide_eq_false fun h=>by rw [(spanN_all.1 h) k hlt] at hw;cases hw]
    rfl
   ·have hw:(letB ((s.getD k 0).toNat:Int)||digB ((s.getD k 0).toNat:Int))=true:=by revert he;cases letB ((s.getD k 0).toNat:Int)<;>cases digB ((s.getD k 0).toNat:Int)<;>simp
    conv=>whnf
    refine iO ?_;conv=>whnf
    refine ⟨k+1,⟨by omega,hlt,fun j hj=>?_⟩,(by show s.length-(k+1)<s.length-k;omega),(wk_of [] rfl ⟨wa0,wa0,trivial⟩ trivial)⟩
    by_cases e:j=k
    ·subst e;exact hw
    ·exact hP j om0
  ·have hke:k=s.length:=by have:=of_decide_eq_false hd;omega
   conv=>whnf
   rw [decide_eq_true (spanN_all.2 (hke ▸ hP))]
   rfl
theorem name2_ok (s:List UInt8) (hs:s.length≤9223372036854775807):APureV Tryz.prog 111 [.str s] (.bool (nameB s)):=by
 have hw:=word2_ok s hs
 unfold nameB
 refine aO (cxOk 20 [0,2,3,4,9,17]) Tryz.func111 ?_
 conv=>whnf
 refine cO (fun _=>res2_ok) ?_
 conv=>whnf
 refine loop_up (cxOk _ _) 50 (fun k=>∀ j,j<k→resW.getD j []≠s) (fun k=>⟨[(0,.str s),(3,encSs resW),(4,.int .i64 (k:Nat))],[],0⟩) (by intro j hj;omega) ((wk_of [] rfl ⟨wa0,wa0,wa0,trivial⟩ trivial)) ?_
 intro k hk hP
 have hlen:resW.length=50:=rfl
 conv=>whnf
 refine ⟨fun hd=>?_,fun hd=>?_⟩
 ·have hlt:k<resW.length:=by have:=of_decide_eq_true hd;omega
  have hek:(k:Int).toNat=k:=Int.toNat_natCast k
  conv=>whnf
  refine iO ?_;conv=>whnf
  refine And.intro rfl ?_;conv=>whnf
  rw [hek]
  conv=>whnf
  refine ⟨fun he=>?_,fun he=>?_⟩
  ·have he:=of_decide_eq_true he
   conv=>whnf
   rw [decide_eq_true (show s∈resW by rw [← he];exact getD_mem hlt),Bool.not_true,Bool.and_false]
   rfl
  ·have he:=of_decide_eq_false he
   conv=>whnf
   refine iO ?_;conv=>whnf
   refine up om0 (fun j hj=>?_) ((wk_of [] rfl ⟨wa0,wa0,wa0,trivial⟩ trivial))
   by_cases e:j=k
   ·subst e;exact he
   ·exact hP j om0
 ·have hke:k=resW.length:=by have:=of_decide_eq_false hd;omega
  conv=>whnf
  refine cO (fun _=>hw) ?_
  conv=>whnf
  rw [decide_eq_false (fun h:s∈resW=>by
   obtain ⟨j,hj,e⟩:=mem_getD (d:=[]) h
   exact hP j om0 e),Bool.not_false,Bool.and_true]
  rfl
def idxP {X:Type} (p:X→Bool):List X→Int
 | []=>-1
 | x::l=>if p x then 0 else (if idxP p l<0 then -1 else idxP p l+1)
theorem idxP_ge {X:Type} (p:X→Bool):∀ l:List X,-1≤idxP p l
 | []=>by simp [idxP]
 | x::l=>by
  have:=idxP_ge p l
  unfold idxP
  split
  ·omega
  ·split<;>omega
theorem idxP_found {X:Type} {p:X→Bool} {d:X}:∀ {l:List X} {k:Nat},k<l.length→(∀ j,j<k→p (l.getD j d)=false)→p (l.getD k d)=true→idxP p l=k
 | [],k,h,_,_=>by simp at h
 | x::l,0,h,_,hk=>by
  have hx:p x=true:=by simpa using hk
  simp [idxP,hx]
 | x::l,k+1,h,hj,hk=>by
  have hx:p x=false:=by have:=hj 0 (by omega);simpa using this
  have ih:=idxP_found (p:=p) (d:=d) (l:=l) (k:=k) (by simpa using h) (fun j hj'=>by have:=hj (j+1) (by omega);simpa using this) (by simpa using hk)
  unfold idxP
  rw [ih]
  simp [hx]
  omega
theorem idxP_none {X:Type} {p:X→Bool} {d:X}:∀ {l:List X},(∀ j,j<l.length→p (l.getD j d)=false)→idxP p l=-1
 | [],_=>rfl
 | x::l,h=>by
  have hx:p x=false:=by have:=h 0 (by simp);simpa using this
  have ih:=idxP_none (p:=p) (d:=d) (l:=l) (fun j hj=>by have:=h (j+1) (by simpa using hj);simpa using this)
  unfold idxP
  rw [ih]
  simp [hx]
theorem idxP_any {X:Type} (p:X→Bool):∀ l:List X,decide (0≤idxP p l)=l.any p
 | []=>by simp [idxP]
 | x::l=>by
  have ih:=idxP_any p l
  have hge:=idxP_ge p l
  unfold idxP
  rw [List.any_cons,← ih]
  cases p x
  ·simp only [Bool.false_eq_true,if_false,Bool.false_or]
   split
   ·simp;omega
   ·simp;omega
  ·simp
theorem idxI_ok (l:List Int) (fid:FuncId) (x y:Int) (p:Int→Bool) (hf:∀ e∈l,APureV Tryz.prog fid (encI e::[.rop [.int .i64 x],.rop [.int .i64 y]]) (.bool (p e))) (hl:l.length≤9223372036854775807) :
  APureV Tryz.prog 155 [.sl 1 encI 0 l,.fn (.func fid) [] [.rop [.int .i64 x],.rop [.int .i64 y]]] (.int .i64 (idxP p l)):=by
 refine aO (cxOk 19 [0,1,4,5,7,8,9,16]) Tryz.func155 ?_
 conv=>whnf
 refine loop_up (cxOk _ _) l.length (fun k=>∀ j,j<k→p (l.getD j 0)=false) (fun k=>⟨[(0,.sl 1 encI 0 l),(1,.fn (.func fid) [] [.rop [.int .i64 x],.rop [.int .i64 y]]),(7,.int .i64 (l.length:Nat)),(8,.int .i64 (k:Nat))],[],0⟩) (by intro j hj;omega) ((wk_of [] rfl ⟨wa0,.fn _ _ _ _ _ ac0 ac0,wa0,wa0,trivial⟩ trivial)) ?_
 intro k hk hP
 conv=>whnf
 refine ⟨fun hd=>?_,fun hd=>?_⟩
 ·have hd:=of_decide_eq_true hd
  have hlt:k<l.length:=by omega
  have hek:(k:Int).toNat=k:=Int.toNat_natCast k
  have hc:=hf _ (getD_mem (d:=0) hlt)
  conv=>whnf
  refine iO ?_;conv=>whnf
  refine And.intro rfl ?_;conv=>whnf
  rw [hek]
  conv=>whnf
  refine cO (fun _=>hc) ?_
  conv=>whnf
  refine ⟨fun he=>?_,fun he=>?_⟩
  ·conv=>whnf
   rw [idxP_found hlt hP he]
   rfl
  ·conv=>whnf
   refine iO ?_;conv=>whnf
   refine up hlt (fun j hj=>?_) ((wk_of [] rfl ⟨wa0,.fn _ _ _ _ _ ac0 ac0,wa0,wa0,trivial⟩ trivial))
   by_cases e:j=k
   ·subst e;exact he
   ·exact hP j om0
 ·have hd:=of_decide_eq_false hd
  obtain rfl:k=l.length:=by omega
  conv=>whnf
  rw [idxP_none hP]
  rfl
theorem anyI_ok (l:List Int) (fid:FuncId) (x y:Int) (p:Int→Bool) (hf:∀ e∈l,APureV Tryz.prog fid (encI e::[.rop [.int .i64 x],.rop [.int .i64 y]]) (.bool (p e))) (hl:l.length≤9223372036854775807) :
  APureV Tryz.prog 119 [.sl 1 encI 0 l,.fn (.func fid) [] [.rop [.int .i64 x],.rop [.int .i64 y]]] (.bool (l.any p)):=by
 have h:=idxI_ok l fid x y p hf hl
 refine aO (cxOk 9 [0,1,4]) Tryz.func119 ?_
 conv=>whnf
 refine .one _ _ _ (fun _=>h) (.cons (lS rfl) (.cons (.fn _ _ _ _ _ _ _ .nil (.cons (.base (.base (.same _ rfl))) (.cons (.base (.base (.same _ rfl))) (.nil)))) .nil)) (.inl rfl) (.inl rfl) ?_
 conv=>whnf
 show [AR.val (AV.bool (decide (idxP p l ≥ 0)))]=_
 rw [← idxP_any p l]
theorem idxL_ok (l:List LetE) (fid:FuncId)  (p:LetE→Bool) (hf:∀ e∈l,APureV Tryz.prog fid (encL e::[]) (.bool (p e))) (hl:l.length≤9223372036854775807) :
  APureV Tryz.prog 125 [.sl 6 encL l0 l,.fn (.func fid) [] []] (.int .i64 (idxP p l)):=by
 refine aO (cxOk 19 [0,1,4,5,7,8,9,16]) Tryz.func125 ?_
 conv=>whnf
 refine loop_up (cxOk _ _) l.length (fun k=>∀ j,j<k→p (l.getD j l0)=false) (fun k=>⟨[(0,.sl 6 encL l0 l),(1,.fn (.func fid) [] []),(7,.int .i64 (l.length:Nat)),(8,.int .i64 (k:Nat))],[],0⟩) (by intro j hj;omega) ((wk_of [] rfl ⟨wa0,.fn _ _ _ _ _ ac0 ac0,wa0,wa0,trivial⟩ trivial)) ?_
 intro k hk hP
 conv=>whnf
 refine ⟨fun hd=>?_,fun hd=>?_⟩
 ·have hd:=of_decide_eq_true hd
  have hlt:k<l.length:=by omega
  have hek:(k:Int).toNat=k:=Int.toNat_natCast k
  have hc:=hf _ (getD_mem (d:=l0) hlt)
  conv=>whnf
  refine iO ?_;conv=>whnf
  refine And.intro rfl ?_;conv=>whnf
  rw [hek]
  conv=>whnf
  refine cO (fun _=>hc) ?_
  conv=>whnf
  refine ⟨fun he=>?_,fun he=>?_⟩
  ·conv=>whnf
   rw [idxP_found hlt hP he]
   rfl
  ·conv=>whnf
   refine iO ?_;conv=>whnf
   refine up hlt (fun j hj=>?_) ((wk_of [] rfl ⟨wa0,.fn _ _ _ _ _ ac0 ac0,wa0,wa0,trivial⟩ trivial))
   by_cases e:j=k
   ·subst e;exact he
   ·exact hP j om0
 ·have hd:=of_decide_eq_false hd
  obtain rfl:k=l.length:=by omega
  conv=>whnf
  rw [idxP_none hP]
  rfl
theorem anyL_ok (l:List LetE) (fid:FuncId)  (p:LetE→Bool) (hf:∀ e∈l,APureV Tryz.prog fid (encL e::[]) (.bool (p e))) (hl:l.length≤9223372036854775807) :
  APureV Tryz.prog 74 [.sl 6 encL l0 l,.fn (.func fid) [] []] (.bool (l.any p)):=by
 have h:=idxL_ok l fid  p hf hl
 refine aO (cxOk 9 [0,1,4]) Tryz.func74 ?_
 conv=>whnf
 refine .one _ _ _ (fun _=>h) (.cons (lS rfl) (.cons (.fn _ _ _ _ _ _ _ .nil (.nil)) .nil)) (.inl rfl) (.inl rfl) ?_
 conv=>whnf
 show [AR.val (AV.bool (decide (idxP p l ≥ 0)))]=_
 rw [← idxP_any p l]
theorem idxC_ok (l:List Cov) (fid:FuncId)  (p:Cov→Bool) (hf:∀ e∈l,APureV Tryz.prog fid (encC e::[]) (.bool (p e))) (hl:l.length≤9223372036854775807) :
  APureV Tryz.prog 126 [.sl 7 encC c0 l,.fn (.func fid) [] []] (.int .i64 (idxP p l)):=by
 refine aO (cxOk 19 [0,1,4,5,7,8,9,16]) Tryz.func126 ?_
 conv=>whnf
 refine loop_up (cxOk _ _) l.length (fun k=>∀ j,j<k→p (l.getD j c0)=false) (fun k=>⟨[(0,.sl 7 encC c0 l),(1,.fn (.func fid) [] []),(7,.int .i64 (l.length:Nat)),(8,.int .i64 (k:Nat))],[],0⟩) (by intro j hj;omega) ((wk_of [] rfl ⟨wa0,.fn _ _ _ _ _ ac0 ac0,wa0,wa0,trivial⟩ trivial)) ?_
 intro k hk hP
 conv=>whnf
 refine ⟨fun hd=>?_,fun hd=>?_⟩
 ·have hd:=of_decide_eq_true hd
  have hlt:k<l.length:=by omega
  have hek:(k:Int).toNat=k:=Int.toNat_natCast k
  have hc:=hf _ (getD_mem (d:=c0) hlt)
  conv=>whnf
  refine iO ?_;conv=>whnf
  refine And.intro rfl ?_;conv=>whnf
  rw [hek]
  conv=>whnf
  refine cO (fun _=>hc) ?_
  conv=>whnf
  refine ⟨fun he=>?_,fun he=>?_⟩
  ·conv=>whnf
   rw [idxP_found hlt hP he]
   rfl
  ·conv=>whnf
   refine iO ?_;conv=>whnf
   refine up hlt (fun j hj=>?_) ((wk_of [] rfl ⟨wa0,.fn _ _ _ _ _ ac0 ac0,wa0,wa0,trivial⟩ trivial))
   by_cases e:j=k
   ·subst e;exact he
   ·exact hP j om0
 ·have hd:=of_decide_eq_false hd
  obtain rfl:k=l.length:=by omega
  conv=>whnf
  rw [idxP_none hP]
  rfl
theorem anyC_ok (l:List Cov) (fid:FuncId)  (p:Cov→Bool) (hf:∀ e∈l,APureV Tryz.prog fid (encC e::[]) (.bool (p e))) (hl:l.length≤9223372036854775807) :
  APureV Tryz.prog 76 [.sl 7 encC c0 l,.fn (.func fid) [] []] (.bool (l.any p)):=by
 have h:=idxC_ok l fid  p hf hl
 refine aO (cxOk 9 [0,1,4]) Tryz.func76 ?_
 conv=>whnf
 refine .one _ _ _ (fun _=>h) (.cons (lS rfl) (.cons (.fn _ _ _ _ _ _ _ .nil (.nil)) .nil)) (.inl rfl) (.inl rfl) ?_
 conv=>whnf
 show [AR.val (AV.bool (decide (idxP p l ≥ 0)))]=_
 rw [← idxP_any p l]
theorem idxK_ok (l:List CallE) (fid:FuncId)  (p:CallE→Bool) (hf:∀ e∈l,APureV Tryz.prog fid (encK e::[]) (.bool (p e))) (hl:l.length≤9223372036854775807) :
  APureV Tryz.prog 127 [.sl 2 encK k0 l,.fn (.func fid) [] []] (.int .i64 (idxP p l)):=by
 refine aO (cxOk 19 [0,1,4,5,7,8,9,16]) Tryz.func127 ?_
 conv=>whnf
 refine loop_up (cxOk _ _) l.length (fun k=>∀ j,j<k→p (l.getD j k0)=false) (fun k=>⟨[(0,.sl 2 encK k0 l),(1,.fn (.func fid) [] []),(7,.int .i64 (l.length:Nat)),(8,.int .i64 (k:Nat))],[],0⟩) (by intro j hj;omega) ((wk_of [] rfl ⟨wa0,.fn _ _ _ _ _ ac0 ac0,wa0,wa0,trivial⟩ trivial)) ?_
 intro k hk hP
 conv=>whnf
 refine ⟨fun hd=>?_,fun hd=>?_⟩
 ·have hd:=of_decide_eq_true hd
  have hlt:k<l.length:=by omega
  have hek:(k:Int).toNat=k:=Int.toNat_natCast k
  have hc:=hf _ (getD_mem (d:=k0) hlt)
  conv=>whnf
  refine iO ?_;conv=>whnf
  refine And.intro rfl ?_;conv=>whnf
  rw [hek]
  conv=>whnf
  refine cO (fun _=>hc) ?_
  conv=>whnf
  refine ⟨fun he=>?_,fun he=>?_⟩
  ·conv=>whnf
   rw [idxP_found hlt hP he]
   rfl
  ·conv=>whnf
   refine iO ?_;conv=>whnf
   refine up hlt (fun j hj=>?_) ((wk_of [] rfl ⟨wa0,.fn _ _ _ _ _ ac0 ac0,wa0,wa0,trivial⟩ trivial))
   by_cases e:j=k
   ·subst e;exact he
   ·exact hP j om0
 ·have hd:=of_decide_eq_false hd
  obtain rfl:k=l.length:=by omega
  conv=>whnf
  rw [idxP_none hP]
  rfl
theorem anyK_ok (l:List CallE) (fid:FuncId)  (p:CallE→Bool) (hf:∀ e∈l,APureV Tryz.prog fid (encK e::[]) (.bool (p e))) (hl:l.length≤9223372036854775807) :
  APureV Tryz.prog 78 [.sl 2 encK k0 l,.fn (.func fid) [] []] (.bool (l.any p)):=by
 have h:=idxK_ok l fid  p hf hl
 refine aO (cxOk 9 [0,1,4]) Tryz.func78 ?_
 conv=>whnf
 refine .one _ _ _ (fun _=>h) (.cons (lS rfl) (.cons (.fn _ _ _ _ _ _ _ .nil (.nil)) .nil)) (.inl rfl) (.inl rfl) ?_
 conv=>whnf
 show [AR.val (AV.bool (decide (idxP p l ≥ 0)))]=_
 rw [← idxP_any p l]
theorem idxE_ok (l:List Exp) (fid:FuncId) (x:Int) (p:Exp→Bool) (hf:∀ e∈l,APureV Tryz.prog fid (encE e::[.rop [.int .i64 x]]) (.bool (p e))) (hl:l.length≤9223372036854775807) :
  APureV Tryz.prog 182 [.sl 5 encE ex0 l,.fn (.func fid) [] [.rop [.int .i64 x]]] (.int .i64 (idxP p l)):=by
 refine aO (cxOk 19 [0,1,4,5,7,8,9,16]) Tryz.func182 ?_
 conv=>whnf
 refine loop_up (cxOk _ _) l.length (fun k=>∀ j,j<k→p (l.getD j ex0)=false) (fun k=>⟨[(0,.sl 5 encE ex0 l),(1,.fn (.func fid) [] [.rop [.int .i64 x]]),(7,.int .i64 (l.length:Nat)),(8,.int .i64 (k:Nat))],[],0⟩) (by intro j hj;omega) ((wk_of [] rfl ⟨wa0,.fn _ _ _ _ _ ac0 ac0,wa0,wa0,trivial⟩ trivial)) ?_
 intro k hk hP
 conv=>whnf
 refine ⟨fun hd=>?_,fun hd=>?_⟩
 ·have hd:=of_decide_eq_true hd
  have hlt:k<l.length:=by omega
  have hek:(k:Int).toNat=k:=Int.toNat_natCast k
  have hc:=hf _ (getD_mem (d:=ex0) hlt)
  conv=>whnf
  refine iO ?_;conv=>whnf
  refine And.intro rfl ?_;conv=>whnf
  rw [hek]
  conv=>whnf
  refine cO (fun _=>hc) ?_
  conv=>whnf
  refine ⟨fun he=>?_,fun he=>?_⟩
  ·conv=>whnf
   rw [idxP_found hlt hP he]
   rfl
  ·conv=>whnf
   refine iO ?_;conv=>whnf
   refine up hlt (fun j hj=>?_) ((wk_of [] rfl ⟨wa0,.fn _ _ _ _ _ ac0 ac0,wa0,wa0,trivial⟩ trivial))
   by_cases e:j=k
   ·subst e;exact he
   ·exact hP j om0
 ·have hd:=of_decide_eq_false hd
  obtain rfl:k=l.length:=by omega
  conv=>whnf
  rw [idxP_none hP]
  rfl
theorem anyE_ok (l:List Exp) (fid:FuncId) (x:Int) (p:Exp→Bool) (hf:∀ e∈l,APureV Tryz.prog fid (encE e::[.rop [.int .i64 x]]) (.bool (p e))) (hl:l.length≤9223372036854775807) :
  APureV Tryz.prog 161 [.sl 5 encE ex0 l,.fn (.func fid) [] [.rop [.int .i64 x]]] (.bool (l.any p)):=by
 have h:=idxE_ok l fid x p hf hl
 refine aO (cxOk 9 [0,1,4]) Tryz.func161 ?_
 conv=>whnf
 refine .one _ _ _ (fun _=>h) (.cons (lS rfl) (.cons (.fn _ _ _ _ _ _ _ .nil (.cons (.base (.base (.same _ rfl))) (.nil))) .nil)) (.inl rfl) (.inl rfl) ?_
 conv=>whnf
 show [AR.val (AV.bool (decide (idxP p l ≥ 0)))]=_
 rw [← idxP_any p l]
def inB (a b:Int) (l:List Int):Bool:=l.all fun n=>decide (a≤n)&&decide (n≤b)
theorem inc_ok (n a b:Int):APureV Tryz.prog 120 [.int .i64 n,.rop [.int .i64 a],.rop [.int .i64 b]] (.bool (decide (n<a)||decide (b<n))):=by
 refine aO (cxOk 13 [0,1,2,4]) Tryz.func120 ?_
 conv=>whnf
 rfl
theorem in_ok (a b:Int) (l:List Int) (hl:l.length≤9223372036854775807):APureV Tryz.prog 70 [.int .i64 a,.int .i64 b,.sl 1 encI 0 l] (.bool (inB a b l)):=by
 have h:=anyI_ok l 120 a b (fun n=>decide (n<a)||decide (b<n)) (fun e _=>inc_ok e a b) hl
 have he:inB a b l=!(l.any fun n=>decide (n<a)||decide (b<n)):=by
  unfold inB
  induction l with
  | nil=>rfl
  | cons x l ih =>
   simp only [List.all_cons,List.any_cons]
   rw [ih (by simp at hl;omega) (by exact anyI_ok l 120 a b _ (fun e _=>inc_ok e a b) (by simp at hl;omega))]
   have e1:decide (x<a)=!decide (a≤x):=by by_cases h:a≤x<;>simp [h]<;>omega
   have e2:decide (b<x)=!decide (x≤b):=by by_cases h:x≤b<;>simp [h]<;>omega
   rw [e1,e2]
   cases decide (a≤x)<;>cases decide (x≤b)<;>simp
 refine aO (cxOk 11 [0,1,2,3,4,6]) Tryz.func70 ?_
 conv=>whnf
 refine .one _ _ _ (fun _=>h) (.cons (lS rfl) (.cons (.fn _ _ _ _ _ _ _ .nil (.cons (.box _ _ _ _ _ _ rfl (.cons (.base (.same _ rfl)) .nil) (fun q hq=>(by rcases List.mem_singleton.1 hq with rfl;rfl))) (.cons (.box _ _ _ _ _ _ rfl (.cons (.base (.same _ rfl)) .nil) (fun q hq=>(by rcases List.mem_singleton.1 hq with rfl;rfl))) .nil))) .nil)) (.inr fun r hr=>(by rcases List.mem_singleton.1 hr with rfl;rfl)) (.inl rfl) ?_
 conv=>whnf
 rw [he]
 rfl
def opsN (op:Int):Int:=if op=0∨op=1∨op=2∨op=3 then 0 else if op=12∨op=16∨op=17∨op=18 then 1 else if op=15 then 3 else if op<0∨19≤op then -1 else 2
theorem operands_ok (op:Int):APureV Tryz.prog 160 [.int .i64 op] (.int .i64 (opsN op)):=by
 have key:op=0∨op=1∨op=2∨op=3∨op=12∨op=16∨op=17∨op=18∨op=15∨(op<0∨19≤op)∨(0≤op∧op≤18∧op≠0∧op≠1∧op≠2∧op≠3∧op≠12∧op≠16∧op≠17∧op≠18∧op≠15):=by omega
 have hv:opsN op=if op=0∨op=1∨op=2∨op=3 then 0 else if op=12∨op=16∨op=17∨op=18 then 1 else if op=15 then 3 else if op<0∨19≤op then -1 else 2:=rfl
 rcases key with h | h | h | h | h | h | h | h | h | h | h
 all_goals
  refine aO (cxOk 22 [0,2,3,4,9,14,21]) Tryz.func160 ?_
  conv=>whnf
  repeat (first | (refine ⟨fun _=>?_,fun hx=>(by simp at hx;omega)⟩;conv=>whnf) | (refine ⟨fun hx=>(by simp at hx;omega),fun _=>?_⟩;conv=>whnf))
 all_goals
  refine congrArg (fun z:Int=>[AR.val (AV.int .i64 z)]) ?_
  rw [hv]
  clear hv
  repeat' split
  all_goals omega
def in64 (n:Int):Prop:=-9223372036854775808≤n∧n≤9223372036854775807
def numT (n unit:Int):List UInt8 :=
 if unit=4 then (if n=1 then [116,114,117,101] else [102,97,108,115,101])
 else if unit=1 then Lib.itoa n++[32,99,111,105,110,115]
 else if unit=3 then Lib.itoa n++[32,100,97,121,115]
 else if unit=2 then Lib.itoa n++[32,109,105,108,108,101]
 else Lib.itoa n
theorem number_ok (e:Exp) (hn:in64 e.n):APureV Tryz.prog 88 [encE e] (.str (numT e.n e.unit)):=by
 have hi:=itoa_c e.n hn.1 hn.2
 have hl:=Lib.itoa_length_le e.n hn.1 hn.2
 have hv:numT e.n e.unit=if e.unit=4 then (if e.n=1 then [116,114,117,101] else [102,97,108,115,101]) else if e.unit=1 then Lib.itoa e.n++[32,99,111,105,110,115]
   else if e.unit=3 then Lib.itoa e.n++[32,100,97,121,115] else if e.unit=2 then Lib.itoa e.n++[32,109,105,108,108,101] else Lib.itoa e.n:=rfl
 have key:(e.unit=4∧e.n=1)∨(e.unit=4∧e.n≠1)∨e.unit=1∨e.unit=2∨e.unit=3∨(e.unit≠4∧e.unit≠1∧e.unit≠2∧e.unit≠3):=by omega
 rcases key with h | h | h | h | h | h
 all_goals
  refine aO (cxOk 27 [0,1,2,3,8,9,13,14,18,22]) Tryz.func88 ?_
  conv=>whnf
  refine cO (fun _=>hi) ?_
  conv=>whnf
  repeat (first | (refine ⟨fun _=>?_,fun hx=>(by simp at hx;omega)⟩;conv=>whnf) | (refine ⟨fun hx=>(by simp at hx;omega),fun _=>?_⟩;conv=>whnf) | (refine And.intro (by simp only [List.length_cons,List.length_nil];omega) ?_;conv=>whnf))
  rw [hv];simp [h]
def oprI (op:Int):Int:=idxP (fun o:Opr=>decide (o.op=op)) oprL
def formO (op:Int):Int:=if op=15 then 0 else if op=12 then 3 else if oprI op<0 then 7 else (oprL.getD (oprI op).toNat o0).form
theorem form_ok (e:Exp):APureV Tryz.prog 84 [encE e] (.int .i64 (formO e.op)):=by
 have hal:=argsE_len e
 have hv:formO e.op=if e.op=15 then 0 else if e.op=12 then 3 else if oprI e.op<0 then 7 else (oprL.getD (oprI e.op).toNat o0).form:=rfl
 rw [hv]
 refine aO (cxOk 25 [0,1,2,4,6,7,9,11,12,13,14,21]) Tryz.func84 ?_
 conv=>whnf
 refine ⟨fun h15=>?_,fun h15=>?_⟩
 ·rw [if_pos (of_decide_eq_true h15)]
  conv=>whnf
  rfl
 rw [if_neg (of_decide_eq_false h15)]
 conv=>whnf
 refine ⟨fun h12=>?_,fun h12=>?_⟩
 ·rw [if_pos (of_decide_eq_true h12)]
  conv=>whnf
  rfl
 rw [if_neg (of_decide_eq_false h12)]
 conv=>whnf
 refine cO (fun _=>opr_ok) ?_
 conv=>whnf
 refine loop_up (cxOk _ _) 8 (fun k=>∀ j,j<k→decide ((oprL.getD j o0).op=e.op)=false) (fun k=>⟨[(1,.ptr 0 0),(11,encOs oprL),(12,.int .i64 8),(13,.int .i64 (k:Nat))],[(0,.cells 27 [.int .i64 e.op,.int .i64 e.n,.int .i64 e.unit,.str e.s,.lsl 5 (argsE e)])],1⟩) (by intro j hj;omega) ((wk_of [(0,.id 0)] rfl ⟨wb0,wa0,wa0,wa0,trivial⟩ ⟨wc0,trivial⟩)) ?_
 intro k hk hP
 have hlen:oprL.length=8:=rfl
 conv=>whnf
 refine ⟨fun hd=>?_,fun hd=>?_⟩
 ·have hlt:k<oprL.length:=by have:=of_decide_eq_true hd;omega
  have hek:(k:Int).toNat=k:=Int.toNat_natCast k
  conv=>whnf
  refine iO ?_;conv=>whnf
  refine And.intro rfl ?_;conv=>whnf
  rw [hek]
  conv=>whnf
  refine ⟨fun he=>?_,fun he=>?_⟩
  ·have hf:oprI e.op=k:=idxP_found (d:=o0) hlt hP he
   conv=>whnf
   rw [hf,if_neg (by omega),hek]
   rfl
  ·conv=>whnf
   refine iO ?_;conv=>whnf
   refine up om0 (fun j hj=>?_) ((wk_of [(0,.id 0)] rfl ⟨wb0,wa0,wa0,wa0,trivial⟩ ⟨wc0,trivial⟩))
   by_cases h:j=k
   ·subst h;exact he
   ·exact hP j om0
 ·have hke:k=oprL.length:=by have:=of_decide_eq_false hd;omega
  subst hke
  have hf:oprI e.op=-1:=idxP_none (d:=o0) hP
  conv=>whnf
  rw [hf,if_pos (by omega)]
  rfl
def argOf (e:Exp) (i:Nat):Exp:=e.args.getD i ex0
mutual
def bodyT:Nat→Exp→List UInt8
 | 0,_=>[]
 | d+1,e =>
  let a:=fun (i:Nat) (least:Int)=>showT d (argOf e i) least
  if e.op=0 then numT e.n e.unit
  else if e.op=1 then e.s
  else if e.op=2 then [102,97,99,116,32]++e.s
  else if e.op=3 then [114,97,116,101,32]++e.s
  else if e.op=15 then [105,102,32]++a 0 0++[32,116,104,101,110,32]++a 1 0++[32,101,108,115,101,32]++a 2 0
  else if e.op=12 then [110,111,116,32]++a 0 3
  else if e.op=8 then [109,105,110]++[32,40,32]++a 0 0++[32,44,32]++a 1 0++[32,41]
  else if e.op=9 then [109,97,120]++[32,40,32]++a 0 0++[32,44,32]++a 1 0++[32,41]
  else if e.op=16 then [101,118,101,114]++[32]++Lib.itoa e.n++[32,40,32]++a 0 0++[32,41]
  else if e.op=17 then [108,111,110,103]++[32]++Lib.itoa e.n++[32,40,32]++a 0 0++[32,41]
  else if e.op=18 then [115,111,111,110]++[32]++Lib.itoa e.n++[32,40,32]++a 0 0++[32,41]
  else
   let o:=oprL.getD (oprI e.op).toNat o0
   a 0 (if o.form=4 then 5 else o.form)++[32]++o.text++[32]++a 1 (o.form+1)
def showT:Nat→Exp→Int→List UInt8
 | d,e,least=>if formO e.op<least then [40,32]++bodyT d e++[32,41] else bodyT d e
end
def rightB:Nat→Exp→Bool
 | 0,_=>false
 | d+1,e =>
  if (e.args.length:Int)≠opsN e.op then false
  else if e.op=0 then decide (e.s=[])&&inB 0 4 [e.unit]&&inB 0 (if e.unit=4 then 1 else 1000000000000000) [e.n]
  else if e.op=1∨e.op=2∨e.op=3 then decide (e.n=0)&&decide (e.unit=0)&&nameB e.s
  else if e.op=16∨e.op=17∨e.op=18 then decide (e.unit=0)&&decide (e.s=[])&&inB 1 1000 [e.n]&&rightB d (argOf e 0)
  else decide (e.n=0)&&decide (e.unit=0)&&decide (e.s=[])&&!(e.args.any fun x=>!rightB d x)
inductive OkE:Exp→Prop
 | mk {e:Exp} (op:in64 e.op) (n:in64 e.n) (unit:in64 e.unit) (s:e.s.length≤9223372036854775807) (len:e.args.length≤9223372036854775807) (args:∀ a∈e.args,OkE a):OkE e
theorem OkE.slen {e:Exp} (h:OkE e):e.s.length≤9223372036854775807:=by cases h;assumption
theorem OkE.alen {e:Exp} (h:OkE e):e.args.length≤9223372036854775807:=by cases h;assumption
theorem OkE.arg {e:Exp} (h:OkE e):∀ a∈e.args,OkE a:=by cases h;assumption
theorem OkE.n64 {e:Exp} (h:OkE e):in64 e.n:=by cases h;assumption
theorem rightc_ok (d:Nat) (x:Exp) (hd:d≤1000) (h:APureV Tryz.prog 124 [encE x,.int .i64 (d:Nat)] (.bool (rightB d x))):APureV Tryz.prog 162 [encE x,.rop [.int .i64 ((d:Nat)+1)]] (.bool (!rightB d x)):=by
 have he:((d:Int)+1-1)=(d:Int):=by omega
 refine aO (cxOk 9 [0,1,2,3]) Tryz.func162 ?_
 conv=>whnf
 refine iO ?_;conv=>whnf
 rw [he]
 refine cO (fun _=>h) ?_
 conv=>whnf
 rfl
theorem in1_ok (a b n:Int):APureV Tryz.prog 70 [.int .i64 a,.int .i64 b,.sl 1 encI 0 [n]] (.bool (inB a b [n])):=in_ok a b [n] (by simp)
theorem right_ok:∀ (d:Nat) (e:Exp),d≤1000→OkE e→APureV Tryz.prog 124 [encE e,.int .i64 (d:Nat)] (.bool (rightB d e)):=by
 intro d
 induction d with
 | zero =>
  intro e _ hok
  refine aO (cxOk 104 [0,1,2,3,4,5,16,18,19,23,40,57]) Tryz.func124 ?_
  conv=>whnf
  refine .quiet (by kernel_rfl) ?_
  conv=>whnf
  refine .mk _ _ _ _ (fun _=>operands_ok e.op) ah0 rfl ?_
  conv=>whnf
  refine ⟨fun hc=>?_,fun hc=>?_⟩
  ·conv=>whnf
   rfl
  ·exact absurd hc (by simp)
 | succ d ih =>
  intro e hd hok
  have hal:=argsE_len e
  have hal2:=hok.alen
  have hz:decide (((d+1:Nat):Int)=0)=false:=by simp;omega
  refine aO (cxOk 104 [0,1,2,3,4,5,16,18,19,23,40,57]) Tryz.func124 ?_
  conv=>whnf
  refine .quiet (by kernel_rfl) ?_
  conv=>whnf
  refine .mk _ _ _ _ (fun _=>operands_ok e.op) ah0 rfl ?_
  conv=>whnf
  rw [hz]
  unfold rightB
  refine ⟨fun hc=>?_,fun hc=>?_⟩
  ·have h1:(e.args.length:Int)≠opsN e.op:=by rw [← hal];simpa using hc
   rw [if_pos h1]
   conv=>whnf
   rfl
  have h1:¬ (e.args.length:Int)≠opsN e.op:=by rw [← hal];simpa using hc
  rw [if_neg h1]
  conv=>whnf
  refine ⟨fun h0=>?_,fun h0=>?_⟩
  ·have h0:=of_decide_eq_true h0
   rw [if_pos h0]
   conv=>whnf
   refine ⟨fun hu=>?_,fun hu=>?_⟩
   ·have hu:=of_decide_eq_true hu
    rw [if_pos hu]
    conv=>whnf
    cases hs:decide (e.s=[]) with
    | false =>
     refine gF ?_
     conv=>whnf
     refine cF [.int .i64 0,.int .i64 4,.undef] [.val (.bool false)] ?_
     conv=>whnf
     refine gF ?_
     conv=>whnf
     refine cF [.int .i64 0,.int .i64 1,.undef] [.val (.bool false)] ?_
     conv=>whnf
     rfl
    | true =>
     refine gT ?_
     conv=>whnf
     refine cO (fun _=>in1_ok 0 4 e.unit) ?_
     conv=>whnf
     cases hi:inB 0 4 [e.unit] with
     | false =>
      refine gF ?_
      conv=>whnf
      refine cF [.int .i64 0,.int .i64 1,.undef] [.val (.bool false)] ?_
      conv=>whnf
      rfl
     | true =>
      refine gT ?_
      conv=>whnf
      refine cO (fun _=>in1_ok 0 1 e.n) ?_
      conv=>whnf
      rfl
   ·have hu:=of_decide_eq_false hu
    rw [if_neg hu]
    conv=>whnf
    cases hs:decide (e.s=[]) with
    | false =>
     refine gF ?_
     conv=>whnf
     refine cF [.int .i64 0,.int .i64 4,.undef] [.val (.bool false)] ?_
     conv=>whnf
     refine gF ?_
     conv=>whnf
     refine cF [.int .i64 0,.int .i64 1000000000000000,.undef] [.val (.bool false)] ?_
     conv=>whnf
     rfl
    | true =>
     refine gT ?_
     conv=>whnf
     refine cO (fun _=>in1_ok 0 4 e.unit) ?_
     conv=>whnf
     cases hi:inB 0 4 [e.unit] with
     | false =>
      refine gF ?_
      conv=>whnf
      refine cF [.int .i64 0,.int .i64 1000000000000000,.undef] [.val (.bool false)] ?_
      conv=>whnf
      rfl
     | true =>
      refine gT ?_
      conv=>whnf
      refine cO (fun _=>in1_ok 0 1000000000000000 e.n) ?_
      conv=>whnf
      rfl
  have h0:=of_decide_eq_false h0
  rw [if_neg h0]
  conv=>whnf
  by_cases h123:e.op=1∨e.op=2∨e.op=3
  ·rw [if_pos h123]
   have fin:∀ (k:Nat),True:=fun _=>trivial
   rcases h123 with h | h | h
   ·refine ⟨fun _=>?_,fun hx=>absurd h (of_decide_eq_false hx)⟩
    conv=>whnf
    refine ⟨fun _=>?_,fun hx=>absurd h (of_decide_eq_false hx)⟩
    conv=>whnf
    refine cO (fun _=>name_ok e.s hok.slen) ?_
    conv=>whnf
    rfl
   ·refine ⟨fun hx=>absurd (of_decide_eq_true hx) om0,fun _=>?_⟩
    conv=>whnf
    refine ⟨fun _=>?_,fun hx=>absurd h (of_decide_eq_false hx)⟩
    conv=>whnf
    refine ⟨fun _=>?_,fun hx=>absurd h (of_decide_eq_false hx)⟩
    conv=>whnf
    refine cO (fun _=>name_ok e.s hok.slen) ?_
    conv=>whnf
    rfl
   ·refine ⟨fun hx=>absurd (of_decide_eq_true hx) om0,fun _=>?_⟩
    conv=>whnf
    refine ⟨fun hx=>absurd (of_decide_eq_true hx) om0,fun _=>?_⟩
    conv=>whnf
    refine ⟨fun _=>?_,fun hx=>absurd h (of_decide_eq_false hx)⟩
    conv=>whnf
    refine cO (fun _=>name_ok e.s hok.slen) ?_
    conv=>whnf
    rfl
  rw [if_neg h123]
  by_cases h678:e.op=16∨e.op=17∨e.op=18
  ·rw [if_pos h678]
   have hl1:e.args.length=1:=by
    have h2:opsN e.op=1:=by unfold opsN;rw [if_neg (by omega),if_pos (by omega)]
    have h3:(e.args.length:Int)=1:=by rw [← h2];omega
    omega
   have ha0:argOf e 0∈e.args:=getD_mem (by omega)
   have hrec:=ih (argOf e 0) (by omega) (hok.arg _ ha0)
   rcases h678 with h | h | h
   ·refine ⟨fun hx=>absurd (of_decide_eq_true hx) om0,fun _=>?_⟩
    conv=>whnf
    refine ⟨fun hx=>absurd (of_decide_eq_true hx) om0,fun _=>?_⟩
    conv=>whnf
    refine ⟨fun hx=>absurd (of_decide_eq_true hx) om0,fun _=>?_⟩
    conv=>whnf
    refine ⟨fun _=>?_,fun hx=>absurd h (of_decide_eq_false hx)⟩
    conv=>whnf
    refine ⟨fun _=>?_,fun hx=>absurd h (of_decide_eq_false hx)⟩
    conv=>whnf
    refine .eff af0 ?_
    conv=>whnf
    cases hu:decide (e.unit=0) with
    | false =>
     refine nD ?_;conv=>whnf
     refine nD ?_;conv=>whnf
     refine nD ?_;conv=>whnf
     refine nD ?_;conv=>whnf
     refine nD ?_;conv=>whnf
     refine nD ?_;conv=>whnf
     refine nD ?_;conv=>whnf
     refine nD ?_;conv=>whnf
     refine nD ?_;conv=>whnf
     refine nD ?_;conv=>whnf
     refine nD ?_;conv=>whnf
     refine nD ?_;conv=>whnf
     refine nD ?_;conv=>whnf
     refine nD ?_;conv=>whnf
     refine nD ?_;conv=>whnf
     refine nD ?_;conv=>whnf
     refine nD ?_;conv=>whnf
     refine And.intro rfl ?_;conv=>whnf
     rfl
    | true =>
     refine nE ?_;conv=>whnf
     refine nE ?_;conv=>whnf
     refine nE ?_;conv=>whnf
     refine nE ?_;conv=>whnf
     cases hs:decide (e.s=[]) with
     | false =>
      refine nD ?_;conv=>whnf
      refine nD ?_;conv=>whnf
      refine nD ?_;conv=>whnf
      refine nD ?_;conv=>whnf
      refine nD ?_;conv=>whnf
      refine nD ?_;conv=>whnf
      refine nD ?_;conv=>whnf
      refine nD ?_;conv=>whnf
      refine nD ?_;conv=>whnf
      refine nD ?_;conv=>whnf
      refine nD ?_;conv=>whnf
      refine nD ?_;conv=>whnf
      refine nD ?_;conv=>whnf
      refine And.intro rfl ?_;conv=>whnf
      rfl
     | true =>
      refine nE ?_;conv=>whnf
      refine nE ?_;conv=>whnf
      refine nE ?_;conv=>whnf
      refine nE ?_;conv=>whnf
      refine cO (fun _=>in1_ok 1 1000 e.n) ?_
      conv=>whnf
      cases hi:inB 1 1000 [e.n] with
      | false =>
       refine nE ?_;conv=>whnf
       refine nD ?_;conv=>whnf
       refine nD ?_;conv=>whnf
       refine nD ?_;conv=>whnf
       refine nD ?_;conv=>whnf
       refine nD ?_;conv=>whnf
       refine nD ?_;conv=>whnf
       refine nD ?_;conv=>whnf
       refine nD ?_;conv=>whnf
       refine And.intro rfl ?_;conv=>whnf
       rfl
      | true =>
       refine nE ?_;conv=>whnf
       refine nE ?_;conv=>whnf
       refine nE ?_;conv=>whnf
       refine nE ?_;conv=>whnf
       refine iO ?_;conv=>whnf
       refine And.intro rfl ?_;conv=>whnf
       refine nE ?_;conv=>whnf
       rw [show (argsE e).getD (Int.toNat 0) .undef=encE (argOf e 0) from argsE_get e (by omega)]
       conv=>whnf
       refine nE ?_;conv=>whnf
       refine nE ?_;conv=>whnf
       refine iO ?_;conv=>whnf
       refine nE ?_;conv=>whnf
       rw [show (((d+1:Nat):Int)-1)=(d:Int) by omega]
       refine cO (fun _=>hrec) ?_
       conv=>whnf
       refine nE ?_;conv=>whnf
       refine And.intro rfl ?_;conv=>whnf
       rfl
   ·refine ⟨fun hx=>absurd (of_decide_eq_true hx) om0,fun _=>?_⟩
    conv=>whnf
    refine ⟨fun hx=>absurd (of_decide_eq_true hx) om0,fun _=>?_⟩
    conv=>whnf
    refine ⟨fun hx=>absurd (of_decide_eq_true hx) om0,fun _=>?_⟩
    conv=>whnf
    refine ⟨fun hx=>absurd (of_decide_eq_true hx) om0,fun _=>?_⟩
    conv=>whnf
    refine ⟨fun _=>?_,fun hx=>absurd h (of_decide_eq_false hx)⟩
    conv=>whnf
    refine ⟨fun _=>?_,fun hx=>absurd h (of_decide_eq_false hx)⟩
    conv=>whnf
    refine .eff af0 ?_
    conv=>whnf
    cases hu:decide (e.unit=0) with
    | false =>
     refine nD ?_;conv=>whnf
     refine nD ?_;conv=>whnf
     refine nD ?_;conv=>whnf
     refine nD ?_;conv=>whnf
     refine nD ?_;conv=>whnf
     refine nD ?_;conv=>whnf
     refine nD ?_;conv=>whnf
     refine nD ?_;conv=>whnf
     refine nD ?_;conv=>whnf
     refine nD ?_;conv=>whnf
     refine nD ?_;conv=>whnf
     refine nD ?_;conv=>whnf
     refine nD ?_;conv=>whnf
     refine nD ?_;conv=>whnf
     refine nD ?_;conv=>whnf
     refine nD ?_;conv=>whnf
     refine nD ?_;conv=>whnf
     refine And.intro rfl ?_;conv=>whnf
     rfl
    | true =>
     refine nE ?_;conv=>whnf
     refine nE ?_;conv=>whnf
     refine nE ?_;conv=>whnf
     refine nE ?_;conv=>whnf
     cases hs:decide (e.s=[]) with
     | false =>
      refine nD ?_;conv=>whnf
      refine nD ?_;conv=>whnf
      refine nD ?_;conv=>whnf
      refine nD ?_;conv=>whnf
      refine nD ?_;conv=>whnf
      refine nD ?_;conv=>whnf
      refine nD ?_;conv=>whnf
      refine nD ?_;conv=>whnf
      refine nD ?_;conv=>whnf
      refine nD ?_;conv=>whnf
      refine nD ?_;conv=>whnf
      refine nD ?_;conv=>whnf
      refine nD ?_;conv=>whnf
      refine And.intro rfl ?_;conv=>whnf
      rfl
     | true =>
      refine nE ?_;conv=>whnf
      refine nE ?_;conv=>whnf
      refine nE ?_;conv=>whnf
      refine nE ?_;conv=>whnf
      refine cO (fun _=>in1_ok 1 1000 e.n) ?_
      conv=>whnf
      cases hi:inB 1 1000 [e.n] with
      | false =>
       refine nE ?_;conv=>whnf
       refine nD ?_;conv=>whnf
       refine nD ?_;conv=>whnf
       refine nD ?_;conv=>whnf
       refine nD ?_;conv=>whnf
       refine nD ?_;conv=>whnf
       refine nD ?_;conv=>whnf
       refine nD ?_;conv=>whnf
       refine nD ?_;conv=>whnf
       refine And.intro rfl ?_;conv=>whnf
       rfl
      | true =>
       refine nE ?_;conv=>whnf
       refine nE ?_;conv=>whnf
       refine nE ?_;conv=>whnf
       refine nE ?_;conv=>whnf
       refine iO ?_;conv=>whnf
       refine And.intro rfl ?_;conv=>whnf
       refine nE ?_;conv=>whnf
       rw [show (argsE e).getD (Int.toNat 0) .undef=encE (argOf e 0) from argsE_get e (by omega)]
       conv=>whnf
       refine nE ?_;conv=>whnf
       refine nE ?_;conv=>whnf
       refine iO ?_;conv=>whnf
       refine nE ?_;conv=>whnf
       rw [show (((d+1:Nat):Int)-1)=(d:Int) by omega]
       refine cO (fun _=>hrec) ?_
       conv=>whnf
       refine nE ?_;conv=>whnf
       refine And.intro rfl ?_;conv=>whnf
       rfl
   ·refine ⟨fun hx=>absurd (of_decide_eq_true hx) om0,fun _=>?_⟩
    conv=>whnf
    refine ⟨fun hx=>absurd (of_decide_eq_true hx) om0,fun _=>?_⟩
    conv=>whnf
    refine ⟨fun hx=>absurd (of_decide_eq_true hx) om0,fun _=>?_⟩
    conv=>whnf
    refine ⟨fun hx=>absurd (of_decide_eq_true hx) om0,fun _=>?_⟩
    conv=>whnf
    refine ⟨fun hx=>absurd (of_decide_eq_true hx) om0,fun _=>?_⟩
    conv=>whnf
    refine ⟨fun _=>?_,fun hx=>absurd h (of_decide_eq_false hx)⟩
    conv=>whnf
    refine .eff af0 ?_
    conv=>whnf
    cases hu:decide (e.unit=0) with
    | false =>
     refine nD ?_;conv=>whnf
     refine nD ?_;conv=>whnf
     refine nD ?_;conv=>whnf
     refine nD ?_;conv=>whnf
     refine nD ?_;conv=>whnf
     refine nD ?_;conv=>whnf
     refine nD ?_;conv=>whnf
     refine nD ?_;conv=>whnf
     refine nD ?_;conv=>whnf
     refine nD ?_;conv=>whnf
     refine nD ?_;conv=>whnf
     refine nD ?_;conv=>whnf
     refine nD ?_;conv=>whnf
     refine nD ?_;conv=>whnf
     refine nD ?_;conv=>whnf
     refine nD ?_;conv=>whnf
     refine nD ?_;conv=>whnf
     refine And.intro rfl ?_;conv=>whnf
     rfl
    | true =>
     refine nE ?_;conv=>whnf
     refine nE ?_;conv=>whnf
     refine nE ?_;conv=>whnf
     refine nE ?_;conv=>whnf
     cases hs:decide (e.s=[]) with
     | false =>
      refine nD ?_;conv=>whnf
      refine nD ?_;conv=>whnf
      refine nD ?_;conv=>whnf
      refine nD ?_;conv=>whnf
      refine nD ?_;conv=>whnf
      refine nD ?_;conv=>whnf
      refine nD ?_;conv=>whnf
      refine nD ?_;conv=>whnf
      refine nD ?_;conv=>whnf
      refine nD ?_;conv=>whnf
      refine nD ?_;conv=>whnf
      refine nD ?_;conv=>whnf
      refine nD ?_;conv=>whnf
      refine And.intro rfl ?_;conv=>whnf
      rfl
     | true =>
      refine nE ?_;conv=>whnf
      refine nE ?_;conv=>whnf
      refine nE ?_;conv=>whnf
      refine nE ?_;conv=>whnf
      refine cO (fun _=>in1_ok 1 1000 e.n) ?_
      conv=>whnf
      cases hi:inB 1 1000 [e.n] with
      | false =>
       refine nE ?_;conv=>whnf
       refine nD ?_;conv=>whnf
       refine nD ?_;conv=>whnf
       refine nD ?_;conv=>whnf
       refine nD ?_;conv=>whnf
       refine nD ?_;conv=>whnf
       refine nD ?_;conv=>whnf
       refine nD ?_;conv=>whnf
       refine nD ?_;conv=>whnf
       refine And.intro rfl ?_;conv=>whnf
       rfl
      | true =>
       refine nE ?_;conv=>whnf
       refine nE ?_;conv=>whnf
       refine nE ?_;conv=>whnf
       refine nE ?_;conv=>whnf
       refine iO ?_;conv=>whnf
       refine And.intro rfl ?_;conv=>whnf
       refine nE ?_;conv=>whnf
       rw [show (argsE e).getD (Int.toNat 0) .undef=encE (argOf e 0) from argsE_get e (by omega)]
       conv=>whnf
       refine nE ?_;conv=>whnf
       refine nE ?_;conv=>whnf
       refine iO ?_;conv=>whnf
       refine nE ?_;conv=>whnf
       rw [show (((d+1:Nat):Int)-1)=(d:Int) by omega]
       refine cO (fun _=>hrec) ?_
       conv=>whnf
       refine nE ?_;conv=>whnf
       refine And.intro rfl ?_;conv=>whnf
       rfl
  rw [if_neg h678]
  refine ⟨fun hx=>absurd (of_decide_eq_true hx) om0,fun _=>?_⟩
  conv=>whnf
  refine ⟨fun hx=>absurd (of_decide_eq_true hx) om0,fun _=>?_⟩
  conv=>whnf
  refine ⟨fun hx=>absurd (of_decide_eq_true hx) om0,fun _=>?_⟩
  conv=>whnf
  refine ⟨fun hx=>absurd (of_decide_eq_true hx) om0,fun _=>?_⟩
  conv=>whnf
  refine ⟨fun hx=>absurd (of_decide_eq_true hx) om0,fun _=>?_⟩
  conv=>whnf
  refine ⟨fun hx=>absurd (of_decide_eq_true hx) om0,fun _=>?_⟩
  conv=>whnf
  have hany:=anyE_ok e.args 162 ((d:Nat)+1) (fun x=>!rightB d x) (fun x hx=>rightc_ok d x (by omega) (ih x (by omega) (hok.arg _ hx))) hal2
  refine .one _ _ _ (fun _=>hany) (.cons (lX (argsE_eq e)) (.cons (.fn _ _ _ _ _ _ _ .nil (.cons (.box _ _ _ _ _ _ rfl (.cons (.base (.same _ rfl)) .nil) (fun q hq=>(by rcases List.mem_singleton.1 hq with rfl;rfl))) .nil)) .nil)) (.inr fun r hr=>(by rcases List.mem_singleton.1 hr with rfl;rfl)) (.inr rfl) ?_
  conv=>whnf
  rfl
theorem name_len {s:List UInt8} (h:nameB s=true):s.length≤20:=by
 unfold nameB wordB at h
 simp only [Bool.and_eq_true,decide_eq_true_eq] at h
 exact h.1.1.2
theorem getD_argOf {e:Exp} {i:Nat} (h:i<e.args.length):argOf e i∈e.args:=getD_mem h
theorem right_len {d:Nat} {e:Exp} (h:rightB d e=true):(e.args.length:Int)=opsN e.op:=by
 cases d with
 | zero=>simp [rightB] at h
 | succ d =>
  unfold rightB at h
  split at h
  ·cases h
  ·rename_i h1
   omega
theorem right_op {d:Nat} {e:Exp} (h:rightB d e=true):0≤e.op∧e.op<19:=by
 have h1:=right_len h
 unfold opsN at h1
 repeat' split at h1
 all_goals omega
theorem right_name {d:Nat} {e:Exp} (h:rightB d e=true) (ho:e.op=1∨e.op=2∨e.op=3):nameB e.s=true:=by
 cases d with
 | zero=>simp [rightB] at h
 | succ d =>
  unfold rightB at h
  split at h
  ·cases h
  rw [if_neg (by omega)] at h
  simp only [Bool.and_eq_true] at h
  exact h.2
theorem right_arg {d:Nat} {e:Exp} (h:rightB (d+1) e=true) {x:Exp} (hx:x∈e.args):rightB d x=true:=by
 have hl:=right_len h
 unfold rightB at h
 split at h
 ·cases h
 have hpos:0<e.args.length:=List.length_pos_of_mem hx
 have h0:¬ e.op=0:=by
  intro h0
  have:opsN e.op=0:=by rw [h0];rfl
  omega
 have h1:¬ (e.op=1∨e.op=2∨e.op=3):=by
  intro h1
  have:opsN e.op=0:=by unfold opsN;rw [if_pos (by omega)]
  omega
 rw [if_neg h0,if_neg h1] at h
 split at h
 ·rename_i h2
  have:opsN e.op=1:=by unfold opsN;rw [if_neg (by omega),if_pos (by omega)]
  simp only [Bool.and_eq_true] at h
  have hl1:e.args.length=1:=by omega
  match hm:e.args,hl1 with
  | [y],_ =>
   rw [hm] at hx
   have hxy:x=y:=by simpa using hx
   have:argOf e 0=y:=by unfold argOf;rw [hm];rfl
   rw [hxy,← this]
   exact h.2
 ·simp only [Bool.and_eq_true,Bool.not_eq_true',List.any_eq_false] at h
  have:=h.2 x hx
  simpa using this
theorem opr_text (i:Nat):(oprL.getD i o0).text.length≤3:=by
 match i with
 | 0 | 1 | 2 | 3 | 4 | 5 | 6 | 7=>decide
 | n+8=>simp [oprL,o0]
theorem num_len (n u:Int) (hn:in64 n):(numT n u).length≤30:=by
 have hl:=Lib.itoa_length_le n hn.1 hn.2
 unfold numT
 repeat' split
 all_goals simp
 all_goals omega
def opE (op:Int):Opr:=oprL.getD (oprI op).toNat o0
theorem body_succ (d:Nat) (e:Exp):bodyT (d+1) e =
  if e.op=0 then numT e.n e.unit
  else if e.op=1 then e.s
  else if e.op=2 then [102,97,99,116,32]++e.s
  else if e.op=3 then [114,97,116,101,32]++e.s
  else if e.op=15 then [105,102,32]++showT d (argOf e 0) 0++[32,116,104,101,110,32]++showT d (argOf e 1) 0++[32,101,108,115,101,32]++showT d (argOf e 2) 0
  else if e.op=12 then [110,111,116,32]++showT d (argOf e 0) 3
  else if e.op=8 then [109,105,110]++[32,40,32]++showT d (argOf e 0) 0++[32,44,32]++showT d (argOf e 1) 0++[32,41]
  else if e.op=9 then [109,97,120]++[32,40,32]++showT d (argOf e 0) 0++[32,44,32]++showT d (argOf e 1) 0++[32,41]
  else if e.op=16 then [101,118,101,114]++[32]++Lib.itoa e.n++[32,40,32]++showT d (argOf e 0) 0++[32,41]
  else if e.op=17 then [108,111,110,103]++[32]++Lib.itoa e.n++[32,40,32]++showT d (argOf e 0) 0++[32,41]
  else if e.op=18 then [115,111,111,110]++[32]++Lib.itoa e.n++[32,40,32]++showT d (argOf e 0) 0++[32,41]
  else
   showT d (argOf e 0) (if (opE e.op).form=4 then 5 else (opE e.op).form)++[32]++(opE e.op).text++[32]++showT d (argOf e 1) ((opE e.op).form+1):=by
 rw [bodyT]
 rfl
def lenB (d:Nat):Nat:=64*4 ^ d
theorem lenB_pos (d:Nat):64≤lenB d:=by
 have:0<4 ^ d:=Nat.pow_pos (by decide)
 unfold lenB;omega
theorem lenB_succ (d:Nat):lenB (d+1)=4*lenB d:=by unfold lenB;rw [Nat.pow_succ];omega
theorem body_len:∀ (d:Nat) (e:Exp),rightB d e=true→OkE e→(bodyT d e).length≤lenB d:=by
 intro d
 induction d with
 | zero=>intro e h;simp [rightB] at h
 | succ d ih =>
  intro e h hok
  have hop:=right_op h
  have hargs:=right_len h
  have hs:∀ i (l:Int),i<e.args.length→(showT d (argOf e i) l).length≤lenB d+4:=by
   intro i l hi
   have h1:=ih (argOf e i) (right_arg h (getD_argOf hi)) (hok.arg _ (getD_argOf hi))
   unfold showT
   split
   ·simp only [List.length_append,List.length_cons,List.length_nil];omega
   ·omega
  have hn:=Lib.itoa_length_le e.n hok.n64.1 hok.n64.2
  have hp:=lenB_pos d
  rw [lenB_succ]
  rw [body_succ]
  by_cases h0:e.op=0
  ·rw [if_pos h0]
   have:=num_len e.n e.unit hok.n64;omega
  rw [if_neg h0]
  by_cases h1:e.op=1
  ·rw [if_pos h1]
   have:=name_len (right_name h (by omega));omega
  rw [if_neg h1]
  by_cases h2:e.op=2
  ·rw [if_pos h2]
   have:=name_len (right_name h (by omega))
   simp only [List.length_append,List.length_cons,List.length_nil];omega
  rw [if_neg h2]
  by_cases h3:e.op=3
  ·rw [if_pos h3]
   have:=name_len (right_name h (by omega))
   simp only [List.length_append,List.length_cons,List.length_nil];omega
  rw [if_neg h3]
  by_cases h15:e.op=15
  ·rw [if_pos h15]
   have hl:e.args.length=3:=by rw [h15] at hargs;exact Int.ofNat.inj hargs
   have a0:=hs 0 0 (by omega)
   have a1:=hs 1 0 (by omega)
   have a2:=hs 2 0 (by omega)
   simp only [List.length_append,List.length_cons,List.length_nil];omega
  rw [if_neg h15]
  by_cases h12:e.op=12
  ·rw [if_pos h12]
   have hl:e.args.length=1:=by rw [h12] at hargs;exact Int.ofNat.inj hargs
   have a0:=hs 0 3 (by omega)
   simp only [List.length_append,List.length_cons,List.length_nil];omega
  rw [if_neg h12]
  by_cases h8:e.op=8
  ·rw [if_pos h8]
   have hl:e.args.length=2:=by rw [h8] at hargs;exact Int.ofNat.inj hargs
   have a0:=hs 0 0 (by omega)
   have a1:=hs 1 0 (by omega)
   simp only [List.length_append,List.length_cons,List.length_nil];omega
  rw [if_neg h8]
  by_cases h9:e.op=9
  ·rw [if_pos h9]
   have hl:e.args.length=2:=by rw [h9] at hargs;exact Int.ofNat.inj hargs
   have a0:=hs 0 0 (by omega)
   have a1:=hs 1 0 (by omega)
   simp only [List.length_append,List.length_cons,List.length_nil];omega
  rw [if_neg h9]
  by_cases h16:e.op=16
  ·rw [if_pos h16]
   have hl:e.args.length=1:=by rw [h16] at hargs;exact Int.ofNat.inj hargs
   have a0:=hs 0 0 (by omega)
   simp only [List.length_append,List.length_cons,List.length_nil];omega
  rw [if_neg h16]
  by_cases h17:e.op=17
  ·rw [if_pos h17]
   have hl:e.args.length=1:=by rw [h17] at hargs;exact Int.ofNat.inj hargs
   have a0:=hs 0 0 (by omega)
   simp only [List.length_append,List.length_cons,List.length_nil];omega
  rw [if_neg h17]
  by_cases h18:e.op=18
  ·rw [if_pos h18]
   have hl:e.args.length=1:=by rw [h18] at hargs;exact Int.ofNat.inj hargs
   have a0:=hs 0 0 (by omega)
   simp only [List.length_append,List.length_cons,List.length_nil];omega
  rw [if_neg h18]
  have hl:e.args.length=2:=by
   have:opsN e.op=2:=by unfold opsN;rw [if_neg (by omega),if_neg (by omega),if_neg (by omega),if_neg (by omega)]
   omega
  have ht:(opE e.op).text.length≤3:=opr_text (oprI e.op).toNat
  have a0:=hs 0 (if (opE e.op).form=4 then 5 else (opE e.op).form) (by omega)
  have a1:=hs 1 ((opE e.op).form+1) (by omega)
  simp only [List.length_append,List.length_cons,List.length_nil]
  omega
theorem show_len (d:Nat) (e:Exp) (l:Int) (h:rightB d e=true) (hok:OkE e):(showT d e l).length≤lenB d+4:=by
 have:=body_len d e h hok
 unfold showT
 split
 ·simp only [List.length_append,List.length_cons,List.length_nil];omega
 ·omega
theorem idxO_ok (l:List Opr) (fid:FuncId) (cs:List AV) (p:Opr→Bool) (hf:∀ e∈l,APureV Tryz.prog fid (encO e::[.rop cs]) (.bool (p e))) (hl:l.length≤9223372036854775807) (h1:treesB cs=true) :
  APureV Tryz.prog 90 [.sl 3 encO o0 l,.fn (.func fid) [] [.rop cs]] (.int .i64 (idxP p l)):=by
 refine aO (cxOk 19 [0,1,4,5,7,8,9,16]) Tryz.func90 ?_
 conv=>whnf
 refine loop_up (cxOk _ _) l.length (fun k=>∀ j,j<k→p (l.getD j o0)=false) (fun k=>⟨[(0,.sl 3 encO o0 l),(1,.fn (.func fid) [] [.rop cs]),(7,.int .i64 (l.length:Nat)),(8,.int .i64 (k:Nat))],[],0⟩) (by intro j hj;omega) ((wk_of [] rfl ⟨wa0,.fn _ _ _ _ _ ac0 ac0,wa0,wa0,trivial⟩ trivial)) ?_
 intro k hk hP
 conv=>whnf
 refine ⟨fun hd=>?_,fun hd=>?_⟩
 ·have hd:=of_decide_eq_true hd
  have hlt:k<l.length:=by omega
  have hek:(k:Int).toNat=k:=Int.toNat_natCast k
  have hc:=hf _ (getD_mem (d:=o0) hlt)
  conv=>whnf
  refine iO ?_;conv=>whnf
  refine And.intro rfl ?_;conv=>whnf
  rw [hek]
  conv=>whnf
  refine cO (fun _=>hc) ?_
  conv=>whnf
  refine ⟨fun he=>?_,fun he=>?_⟩
  ·conv=>whnf
   rw [idxP_found hlt hP he]
   rfl
  ·conv=>whnf
   refine iO ?_;conv=>whnf
   refine up hlt (fun j hj=>?_) ((wk_of [] rfl ⟨wa0,.fn _ _ _ _ _ ac0 ac0,wa0,wa0,trivial⟩ trivial))
   by_cases e:j=k
   ·subst e;exact he
   ·exact hP j om0
 ·have hd:=of_decide_eq_false hd
  obtain rfl:k=l.length:=by omega
  conv=>whnf
  rw [idxP_none hP]
  rfl
abbrev cellsE (e:Exp):List AV:=[.int .i64 e.op,.int .i64 e.n,.int .i64 e.unit,.str e.s,.lsl 5 (argsE e)]
theorem oprc_ok (o:Opr) (e:Exp):APureV Tryz.prog 91 [encO o,.rop (cellsE e)] (.bool (decide (o.op=e.op))):=by
 refine aO (cxOk 9 [0,1,2,3]) Tryz.func91 ?_
 conv=>whnf
 rfl
theorem arg_ok (e:Exp) (i:Nat) (z:Int) (hz:z=(i:Int)) (l:Int) (s:List UInt8) (hi:i<e.args.length) (h:APureV Tryz.prog 44 [encE (argOf e i),.int .i64 l] (.str s)):APureV Tryz.prog 85 [.int .i64 z,.int .i64 l,.rop (cellsE e)] (.str s):=by
 have hal:=argsE_len e
 have hzn:z.toNat=i:=by omega
 refine aO (cxOk 13 [0,1,2,5]) Tryz.func85 ?_
 conv=>whnf
 refine iO ?_;conv=>whnf
 refine And.intro rfl ?_;conv=>whnf
 rw [hzn,argsE_get e hi]
 conv=>whnf
 refine cO (fun _=>h) ?_
 conv=>whnf
 rfl
theorem pair_ok (e:Exp) (w a b:List UInt8) (hl:2≤e.args.length) (h0:APureV Tryz.prog 44 [encE (argOf e 0),.int .i64 0] (.str a)) (h1:APureV Tryz.prog 44 [encE (argOf e 1),.int .i64 0] (.str b))
  (hlen:w.length+a.length+b.length≤1000000000000):APureV Tryz.prog 86 [.str w,.rop [.fn (.func 85) [] [.rop (cellsE e)]]] (.str (w++[32,40,32]++a++[32,44,32]++b++[32,41])):=by
 have c0:=arg_ok e 0 0 rfl 0 a (by omega) h0
 have c1:=arg_ok e 1 1 rfl 0 b (by omega) h1
 refine aO (cxOk 14 [0,1,3]) Tryz.func86 ?_
 conv=>whnf
 refine .quiet (by kernel_rfl) ?_
 conv=>whnf
 refine And.intro aa0 ?_
 conv=>whnf
 refine .mk _ _ _ _ (fun _=>c0) ah0 rfl ?_
 conv=>whnf
 refine And.intro aa0 ?_
 conv=>whnf
 refine And.intro aa0 ?_
 conv=>whnf
 refine .mk _ _ _ _ (fun _=>c1) ah0 rfl ?_
 conv=>whnf
 refine And.intro aa0 ?_
 conv=>whnf
 refine And.intro aa0 ?_
 conv=>whnf
 rfl
theorem days_ok (e:Exp) (w a:List UInt8) (hn:in64 e.n) (hl:1≤e.args.length) (h0:APureV Tryz.prog 44 [encE (argOf e 0),.int .i64 0] (.str a))
  (hlen:w.length+a.length≤1000000000000):APureV Tryz.prog 87 [.str w,.rop (cellsE e),.rop [.fn (.func 85) [] [.rop (cellsE e)]]] (.str (w++[32]++Lib.itoa e.n++[32,40,32]++a++[32,41])):=by
 have c0:=arg_ok e 0 0 rfl 0 a (by omega) h0
 have hi:=itoa_c e.n hn.1 hn.2
 have hil:=Lib.itoa_length_le e.n hn.1 hn.2
 refine aO (cxOk 16 [0,1,2,4]) Tryz.func87 ?_
 conv=>whnf
 refine .quiet (by kernel_rfl) ?_
 conv=>whnf
 refine And.intro aa0 ?_
 conv=>whnf
 refine .mk _ _ _ _ (fun _=>hi) ah0 rfl ?_
 conv=>whnf
 refine And.intro aa0 ?_
 conv=>whnf
 refine And.intro aa0 ?_
 conv=>whnf
 refine .mk _ _ _ _ (fun _=>c0) ah0 rfl ?_
 conv=>whnf
 refine And.intro aa0 ?_
 conv=>whnf
 refine And.intro aa0 ?_
 conv=>whnf
 rfl
theorem lendA {H:Heap} {k j:Nat} (e:Exp) (hk:lkH H k=AB.cells 118 [AV.fn (Fn.func 85) [] [AV.ptr j 0]]) (hj:lkH H j=.cells 27 (cellsE e)) :
  Lend H (.ptr k 0) (.rop [.fn (.func 85) [] [.rop (cellsE e)]]) [k,j] :=
 .box k 0 118 [AV.fn (Fn.func 85) [] [AV.ptr j 0]] [AV.fn (Fn.func 85) [] [AV.rop (cellsE e)]] [j] hk (.cons (t:=[j]) (t':=[]) (Bor1.fn (Fn.func 85) [] [AV.ptr j 0] [] [AV.rop (cellsE e)] [] [j] .nil (.cons (t:=[j]) (t':=[]) (Bor1.box j 0 27 (cellsE e) (cellsE e) [] hj (.cons (t:=[]) (t':=[]) (Bor.same _ rfl) (.cons (t:=[]) (t':=[]) (Bor.same _ rfl) (.cons (t:=[]) (t':=[]) (Bor.same _ rfl) (.cons (t:=[]) (t':=[]) (Bor.same _ rfl) (.cons (t:=[]) (t':=[]) (Bor.same _ rfl) .nil))))) (allOne_spec rfl)) .nil)) .nil) (allOne_spec rfl)
theorem lendE {H:Heap} {j:Nat} (e:Exp) (hj:lkH H j=.cells 27 (cellsE e)):Lend H (.ptr j 0) (.rop (cellsE e)) [j]:=lB hj rfl rfl
theorem opr_find {op:Int} (h:op=4∨op=5∨op=6∨op=7∨op=10∨op=11∨op=13∨op=14):0≤oprI op∧oprI op<(oprL.length:Nat)∧1≤(opE op).form∧(opE op).form≤6∧(opE op).op=op:=by
 rcases h with h | h | h | h | h | h | h | h
 all_goals
  subst h
  decide
theorem show_body (d:Nat) (e:Exp) (least:Int) (hle:¬ formO e.op<least) (hr:rightB (d+1) e=true) (hok:OkE e) (hd:d≤12)
  (ih:∀ (i:Nat) (l:Int),i<e.args.length→APureV Tryz.prog 44 [encE (argOf e i),.int .i64 l] (.str (showT d (argOf e i) l))) :
  APureV Tryz.prog 44 [encE e,.int .i64 least] (.str (bodyT (d+1) e)):=by
 have hs:∀ (i:Nat) (l:Int),i<e.args.length→(showT d (argOf e i) l).length≤1100000000:=by
  intro i l hi
  have h1:=show_len d (argOf e i) l (right_arg hr (getD_argOf hi)) (hok.arg _ (getD_argOf hi))
  have h2:lenB d≤lenB 12:=by unfold lenB;exact Nat.mul_le_mul_left _ (Nat.pow_le_pow_right (by decide) hd)
  have h3:lenB 12=1073741824:=by decide
  omega
 have hsl:=hok.slen
 have hargs:=right_len hr
 have hf:=form_ok e
 have hnum:=number_ok e hok.n64
 rw [body_succ]
 refine aO (cxOk 105 [0,1,2,4,5,6,7,8,9,13,22,23,27,31,36,41,54,59,63,67,71,75,88]) Tryz.func44 ?_
 conv=>whnf
 refine cO (fun _=>hf) ?_
 conv=>whnf
 refine ⟨fun hx=>absurd (of_decide_eq_true hx) hle,fun _=>?_⟩
 conv=>whnf
 refine ⟨fun h0=>?_,fun h0=>?_⟩
 ·rw [if_pos (of_decide_eq_true h0)]
  conv=>whnf
  refine cO (fun _=>hnum) ?_
  conv=>whnf
  rfl
 rw [if_neg (of_decide_eq_false h0)]
 conv=>whnf
 refine ⟨fun h1=>?_,fun h1=>?_⟩
 ·rw [if_pos (of_decide_eq_true h1)]
  conv=>whnf
  rfl
 rw [if_neg (of_decide_eq_false h1)]
 conv=>whnf
 refine ⟨fun h2=>?_,fun h2=>?_⟩
 ·rw [if_pos (of_decide_eq_true h2)]
  have hsn:=name_len (right_name hr (by have:=of_decide_eq_true h2;omega))
  conv=>whnf
  refine And.intro aa0 ?_
  conv=>whnf
  rfl
 rw [if_neg (of_decide_eq_false h2)]
 conv=>whnf
 refine ⟨fun h3=>?_,fun h3=>?_⟩
 ·rw [if_pos (of_decide_eq_true h3)]
  have hsn:=name_len (right_name hr (by have:=of_decide_eq_true h3;omega))
  conv=>whnf
  refine And.intro aa0 ?_
  conv=>whnf
  rfl
 rw [if_neg (of_decide_eq_false h3)]
 conv=>whnf
 refine ⟨fun h15=>?_,fun h15=>?_⟩
 ·rw [if_pos (of_decide_eq_true h15)]
  have h15:=of_decide_eq_true h15
  have hl:e.args.length=3:=by rw [h15] at hargs;exact Int.ofNat.inj hargs
  have a0:=arg_ok e 0 0 rfl 0 _ (by omega) (ih 0 0 (by omega))
  have a1:=arg_ok e 1 1 rfl 0 _ (by omega) (ih 1 0 (by omega))
  have a2:=arg_ok e 2 2 rfl 0 _ (by omega) (ih 2 0 (by omega))
  have b0:=hs 0 0 (by omega)
  have b1:=hs 1 0 (by omega)
  have b2:=hs 2 0 (by omega)
  generalize showT d (argOf e 0) 0=s0 at *
  generalize showT d (argOf e 1) 0=s1 at *
  generalize showT d (argOf e 2) 0=s2 at *
  conv=>whnf
  refine .quiet (by kernel_rfl) ?_
  conv=>whnf
  refine .mk _ _ _ _ (fun _=>a0) ah0 rfl ?_
  conv=>whnf
  refine And.intro aa0 ?_
  conv=>whnf
  refine And.intro aa0 ?_
  conv=>whnf
  refine .mk _ _ _ _ (fun _=>a1) ah0 rfl ?_
  conv=>whnf
  refine And.intro aa0 ?_
  conv=>whnf
  refine And.intro aa0 ?_
  conv=>whnf
  refine .mk _ _ _ _ (fun _=>a2) ah0 rfl ?_
  conv=>whnf
  refine And.intro aa0 ?_
  conv=>whnf
  rfl
 rw [if_neg (of_decide_eq_false h15)]
 conv=>whnf
 refine ⟨fun h12=>?_,fun h12=>?_⟩
 ·rw [if_pos (of_decide_eq_true h12)]
  have h12:=of_decide_eq_true h12
  have hl:e.args.length=1:=by rw [h12] at hargs;exact Int.ofNat.inj hargs
  have a0:=arg_ok e 0 0 rfl 3 _ (by omega) (ih 0 3 (by omega))
  have b0:=hs 0 3 (by omega)
  generalize showT d (argOf e 0) 3=s0 at *
  conv=>whnf
  refine cO (fun _=>a0) ?_
  conv=>whnf
  refine And.intro aa0 ?_
  conv=>whnf
  rfl
 rw [if_neg (of_decide_eq_false h12)]
 conv=>whnf
 refine ⟨fun h8=>?_,fun h8=>?_⟩
 ·rw [if_pos (of_decide_eq_true h8)]
  have h8:=of_decide_eq_true h8
  have hl:e.args.length=2:=by rw [h8] at hargs;exact Int.ofNat.inj hargs
  have b0:=hs 0 0 (by omega)
  have b1:=hs 1 0 (by omega)
  have a0:=pair_ok e [109,105,110] _ _ (by omega) (ih 0 0 (by omega)) (ih 1 0 (by omega)) (by simp only [List.length_cons,List.length_nil];omega)
  generalize showT d (argOf e 0) 0=s0 at *
  generalize showT d (argOf e 1) 0=s1 at *
  conv=>whnf
  refine .one _ _ _ (fun _=>a0) (.cons (lS rfl) (.cons (lendA e rfl rfl) .nil)) (.inr fun r hr=>(by rcases List.mem_singleton.1 hr with rfl;rfl)) (.inl rfl) ?_
  conv=>whnf
  rfl
 rw [if_neg (of_decide_eq_false h8)]
 conv=>whnf
 refine ⟨fun h9=>?_,fun h9=>?_⟩
 ·rw [if_pos (of_decide_eq_true h9)]
  have h9:=of_decide_eq_true h9
  have hl:e.args.length=2:=by rw [h9] at hargs;exact Int.ofNat.inj hargs
  have b0:=hs 0 0 (by omega)
  have b1:=hs 1 0 (by omega)
  have a0:=pair_ok e [109,97,120] _ _ (by omega) (ih 0 0 (by omega)) (ih 1 0 (by omega)) (by simp only [List.length_cons,List.length_nil];omega)
  generalize showT d (argOf e 0) 0=s0 at *
  generalize showT d (argOf e 1) 0=s1 at *
  conv=>whnf
  refine .one _ _ _ (fun _=>a0) (.cons (lS rfl) (.cons (lendA e rfl rfl) .nil)) (.inr fun r hr=>(by rcases List.mem_singleton.1 hr with rfl;rfl)) (.inl rfl) ?_
  conv=>whnf
  rfl
 rw [if_neg (of_decide_eq_false h9)]
 conv=>whnf
 refine ⟨fun h16=>?_,fun h16=>?_⟩
 ·rw [if_pos (of_decide_eq_true h16)]
  have h16:=of_decide_eq_true h16
  have hl:e.args.length=1:=by rw [h16] at hargs;exact Int.ofNat.inj hargs
  have b0:=hs 0 0 (by omega)
  have a0:=days_ok e [101,118,101,114] _ hok.n64 (by omega) (ih 0 0 (by omega)) (by simp only [List.length_cons,List.length_nil];omega)
  generalize showT d (argOf e 0) 0=s0 at *
  conv=>whnf
  refine .one _ _ _ (fun _=>a0) (.cons (lS rfl) (.cons (lendE e rfl) (.cons (lendA e rfl rfl) .nil))) (.inr fun r hr=>(by rcases List.mem_singleton.1 hr with rfl;rfl)) (.inl rfl) ?_
  conv=>whnf
  rfl
 rw [if_neg (of_decide_eq_false h16)]
 conv=>whnf
 refine ⟨fun h17=>?_,fun h17=>?_⟩
 ·rw [if_pos (of_decide_eq_true h17)]
  have h17:=of_decide_eq_true h17
  have hl:e.args.length=1:=by rw [h17] at hargs;exact Int.ofNat.inj hargs
  have b0:=hs 0 0 (by omega)
  have a0:=days_ok e [108,111,110,103] _ hok.n64 (by omega) (ih 0 0 (by omega)) (by simp only [List.length_cons,List.length_nil];omega)
  generalize showT d (argOf e 0) 0=s0 at *
  conv=>whnf
  refine .one _ _ _ (fun _=>a0) (.cons (lS rfl) (.cons (lendE e rfl) (.cons (lendA e rfl rfl) .nil))) (.inr fun r hr=>(by rcases List.mem_singleton.1 hr with rfl;rfl)) (.inl rfl) ?_
  conv=>whnf
  rfl
 rw [if_neg (of_decide_eq_false h17)]
 conv=>whnf
 refine ⟨fun h18=>?_,fun h18=>?_⟩
 ·rw [if_pos (of_decide_eq_true h18)]
  have h18:=of_decide_eq_true h18
  have hl:e.args.length=1:=by rw [h18] at hargs;exact Int.ofNat.inj hargs
  have b0:=hs 0 0 (by omega)
  have a0:=days_ok e [115,111,111,110] _ hok.n64 (by omega) (ih 0 0 (by omega)) (by simp only [List.length_cons,List.length_nil];omega)
  generalize showT d (argOf e 0) 0=s0 at *
  conv=>whnf
  refine .one _ _ _ (fun _=>a0) (.cons (lS rfl) (.cons (lendE e rfl) (.cons (lendA e rfl rfl) .nil))) (.inr fun r hr=>(by rcases List.mem_singleton.1 hr with rfl;rfl)) (.inl rfl) ?_
  conv=>whnf
  rfl
 rw [if_neg (of_decide_eq_false h18)]
 conv=>whnf
 have hop:=right_op hr
 have hl:e.args.length=2:=by
  have:opsN e.op=2:=by
   have:=of_decide_eq_false h0
   have:=of_decide_eq_false h1
   have:=of_decide_eq_false h2
   have:=of_decide_eq_false h3
   have:=of_decide_eq_false h15
   have:=of_decide_eq_false h12
   have:=of_decide_eq_false h16
   have:=of_decide_eq_false h17
   have:=of_decide_eq_false h18
   unfold opsN;rw [if_neg (by omega),if_neg (by omega),if_neg (by omega),if_neg (by omega)]
  omega
 have hio:=idxO_ok oprL 91 (cellsE e) (fun o=>decide (o.op=e.op)) (fun o _=>oprc_ok o e) (by decide) rfl
 refine cO (fun _=>opr_ok) ?_
 conv=>whnf
 refine cO (fun _=>opr_ok) ?_
 conv=>whnf
 refine .one _ _ _ (fun _=>hio) (.cons (lS rfl) (.cons (.fn _ _ _ _ _ _ _ .nil (.cons (.box _ _ _ _ _ _ rfl (borL_same rfl) (allOne_spec rfl)) .nil)) .nil)) (.inr fun r hr=>(by rcases List.mem_singleton.1 hr with rfl;rfl)) (.inl rfl) ?_
 conv=>whnf
 have key:e.op=4∨e.op=5∨e.op=6∨e.op=7∨e.op=10∨e.op=11∨e.op=13∨e.op=14:=by
  have:=of_decide_eq_false h0
  have:=of_decide_eq_false h1
  have:=of_decide_eq_false h2
  have:=of_decide_eq_false h3
  have:=of_decide_eq_false h15
  have:=of_decide_eq_false h12
  have:=of_decide_eq_false h8
  have:=of_decide_eq_false h9
  have:=of_decide_eq_false h16
  have:=of_decide_eq_false h17
  have:=of_decide_eq_false h18
  omega
 have hb:=opr_find key
 rw [show idxP (fun o:Opr=>decide (o.op=e.op)) oprL=oprI e.op from rfl]
 refine ⟨⟨hb.1,hb.2.1⟩,rfl,?_⟩
 conv=>whnf
 rw [show oprL.getD (oprI e.op).toNat o0=opE e.op from rfl]
 have htx:(opE e.op).text.length≤3:=opr_text (oprI e.op).toNat
 have c1:=arg_ok e 1 1 rfl ((opE e.op).form+1) _ (by omega) (ih 1 ((opE e.op).form+1) (by omega))
 have b1:=hs 1 ((opE e.op).form+1) (by omega)
 have hf1:=hb.2.2.1
 have hf2:=hb.2.2.2.1
 refine ⟨fun hf4=>?_,fun hf4=>?_⟩
 ·rw [if_pos (of_decide_eq_true hf4)]
  have hf4:=of_decide_eq_true hf4
  have c0:=arg_ok e 0 0 rfl 5 _ (by omega) (ih 0 5 (by omega))
  have b0:=hs 0 5 (by omega)
  have e5:(opE e.op).form+1=5:=by omega
  generalize showT d (argOf e 0) 5=s0 at *
  generalize showT d (argOf e 1) ((opE e.op).form+1)=s1 at *
  conv=>whnf
  refine iO ?_;conv=>whnf
  refine .quiet (by kernel_rfl) ?_;conv=>whnf
  rw [e5] at c1 ⊢
  refine .mk _ _ _ _ (fun _=>c0) ah0 rfl ?_
  conv=>whnf
  refine And.intro aa0 ?_
  conv=>whnf
  refine And.intro aa0 ?_
  conv=>whnf
  refine And.intro aa0 ?_
  conv=>whnf
  refine iO ?_
  conv=>whnf
  rw [e5]
  refine .mk _ _ _ _ (fun _=>c1) ah0 rfl ?_
  conv=>whnf
  refine And.intro aa0 ?_
  conv=>whnf
  rfl
 ·rw [if_neg (of_decide_eq_false hf4)]
  have c0:=arg_ok e 0 0 rfl (opE e.op).form _ (by omega) (ih 0 (opE e.op).form (by omega))
  have b0:=hs 0 (opE e.op).form (by omega)
  generalize showT d (argOf e 0) (opE e.op).form=s0 at *
  generalize showT d (argOf e 1) ((opE e.op).form+1)=s1 at *
  conv=>whnf
  refine .quiet (by kernel_rfl) ?_
  conv=>whnf
  refine .mk _ _ _ _ (fun _=>c0) ah0 rfl ?_
  conv=>whnf
  refine And.intro aa0 ?_
  conv=>whnf
  refine And.intro aa0 ?_
  conv=>whnf
  refine And.intro aa0 ?_
  conv=>whnf
  refine iO ?_
  conv=>whnf
  refine .mk _ _ _ _ (fun _=>c1) ah0 rfl ?_
  conv=>whnf
  refine And.intro aa0 ?_
  conv=>whnf
  rfl
theorem formO_nn (op:Int):0≤formO op:=by
 unfold formO
 split
 ·omega
 split
 ·omega
 split
 ·omega
 have h:∀ i:Nat,0≤(oprL.getD i o0).form:=by
  intro i
  match i with
  | 0 | 1 | 2 | 3 | 4 | 5 | 6 | 7=>decide
  | n+8=>simp [oprL,o0]
 exact h _
theorem show_ok:∀ (d:Nat) (e:Exp) (least:Int),d≤13→rightB d e=true→OkE e→APureV Tryz.prog 44 [encE e,.int .i64 least] (.str (showT d e least)):=by
 intro d
 induction d with
 | zero=>intro e least _ h;simp [rightB] at h
 | succ d ih =>
  intro e least hd hr hok
  have hargs:∀ (i:Nat) (l:Int),i<e.args.length→APureV Tryz.prog 44 [encE (argOf e i),.int .i64 l] (.str (showT d (argOf e i) l)) :=
   fun i l hi=>ih _ l (by omega) (right_arg hr (getD_argOf hi)) (hok.arg _ (getD_argOf hi))
  unfold showT
  by_cases hlt:formO e.op<least
  ·rw [if_pos hlt]
   have h0:=show_body d e 0 (by have:=formO_nn e.op;omega) hr hok (by omega) hargs
   have hf:=form_ok e
   have hlen:=body_len (d+1) e hr hok
   have h2:lenB (d+1)≤lenB 13:=by unfold lenB;exact Nat.mul_le_mul_left _ (Nat.pow_le_pow_right (by decide) hd)
   have h3:lenB 13=4294967296:=by decide
   generalize bodyT (d+1) e=s at *
   refine aO (cxOk 105 [0,1,2,4,5,6,7,8,9,13,22,23,27,31,36,41,54,59,63,67,71,75,88]) Tryz.func44 ?_
   conv=>whnf
   refine cO (fun _=>hf) ?_
   conv=>whnf
   refine ⟨fun _=>?_,fun hx=>absurd hlt (of_decide_eq_false hx)⟩
   conv=>whnf
   refine cO (fun _=>h0) ?_
   conv=>whnf
   refine And.intro aa0 ?_
   conv=>whnf
   refine And.intro aa0 ?_
   conv=>whnf
   rfl
  ·rw [if_neg hlt]
   exact show_body d e least hlt hr hok om0 hargs
def rightE (e:Exp):Bool:=rightB 12 e
theorem rightexp_ok (e:Exp) (hok:OkE e):APureV Tryz.prog 73 [encE e] (.bool (rightE e)):=by
 have h:=right_ok 12 e (by decide) hok
 refine aO (cxOk 5 [0,1,2]) Tryz.func73 ?_
 conv=>whnf
 refine cO (fun _=>h) ?_
 conv=>whnf
 rfl
def fitsT (s:List UInt8):List UInt8×Int:=if s.length>4000 then ([],6) else (s,0)
theorem fits_ok (s:List UInt8) (hs:s.length≤9223372036854775807):APure Tryz.prog 45 [.str s] (fun rs=>rs=[.val (.str (fitsT s).1),.val (.int .i64 (fitsT s).2)]):=by
 unfold fitsT
 refine aO (cxOk 8 [0,2,3,6]) Tryz.func45 ?_
 conv=>whnf
 refine ⟨fun h=>?_,fun h=>?_⟩
 ·have h:=of_decide_eq_true h
  rw [if_pos (by omega)]
  conv=>whnf
  rfl
 ·have h:=of_decide_eq_false h
  rw [if_neg (by omega)]
  conv=>whnf
  rfl
def printE (e:Exp):List UInt8×Int:=if rightE e=true then fitsT (showT 12 e 0) else ([],1)
def leapB (y:Int):Bool:=decide (y % 4=0)&&(decide (y % 100≠0)||decide (y % 400=0))
theorem leap_iff (y:Int):leapB y=true↔y % 4=0∧(y % 100≠0∨y % 400=0):=by
 unfold leapB
 simp only [Bool.and_eq_true,Bool.or_eq_true,decide_eq_true_eq]
def lastD (y m:Int):Int :=
 if m=1∨m=3∨m=5∨m=7∨m=8∨m=10∨m=12 then 31
 else if m=4∨m=6∨m=9∨m=11 then 30
 else if m=2 then (if leapB y=true then 29 else 28) else 0
def befD (y:Int):Int:=365*(y-1-1899)+(y-1) / 4-(y-1) / 100+(y-1) / 400-460
def yrD (y:Int):Int:=if leapB y=true then 366 else 365
theorem bef_succ (y:Int):befD (y+1)=befD y+yrD y:=by
 have h:=leap_iff y
 unfold befD yrD
 by_cases hl:leapB y=true
 ·rw [if_pos hl]
  have:=h.1 hl
  omega
 ·rw [if_neg hl]
  have:¬ (y % 4=0∧(y % 100≠0∨y % 400=0)):=fun k=>hl (h.2 k)
  omega
theorem bef_1900:befD 1900=0:=by decide
theorem yr_bounds (y:Int):365≤yrD y∧yrD y≤366:=by unfold yrD;split<;>omega
theorem bef_mono {y z:Int} (h:y<z):befD (y+1)≤befD z:=by unfold befD;omega
theorem bef_lt {y z:Int} (h:befD y<befD z):y<z:=by
 apply Classical.byContradiction
 intro hn
 by_cases e:y=z
 ·subst e;omega
 ·have:=bef_mono (show z<y by omega)
  have:=bef_succ z
  have:=yr_bounds z
  omega
theorem bef_low (k:Int) (h:0≤k):befD (1900+k)≤366*k:=by unfold befD;omega
theorem bef_high (y:Int) (h:befD y≤200000):y≤3000:=by unfold befD at h;omega
theorem bef_nn (y:Int) (h:1900≤y):0≤befD y:=by unfold befD;omega
def yFind:Nat→Int→Int→Int
 | 0,y,_=>y
 | f+1,y,day=>if befD (y+1)≤day then yFind f (y+1) day else y
def yearD (day:Int):Int:=yFind 1200 1900 day
theorem yFind_spec:∀ (f:Nat) (y day:Int),befD y≤day→day≤200000→1900≤y→3100≤y+f→befD (yFind f y day)≤day∧day<befD (yFind f y day+1)∧1900≤yFind f y day
 | 0,y,day,h,h1,h2,h3=>by have:=bef_high y (by omega);omega
 | f+1,y,day,h,h1,h2,h3=>by
  unfold yFind
  by_cases hc:befD (y+1)≤day
  ·rw [if_pos hc]
   exact yFind_spec f (y+1) day hc h1 om0 om0
  ·rw [if_neg hc]
   exact ⟨h,by omega,h2⟩
theorem year_spec {day:Int} (h0:0≤day) (h1:day≤200000):befD (yearD day)≤day∧day<befD (yearD day+1)∧1900≤yearD day :=
 yFind_spec 1200 1900 day (by rw [bef_1900];exact h0) h1 (by omega) (by omega)
theorem year_uniq {day y:Int} (h0:0≤day) (h1:day≤200000) (h2:befD y≤day) (h3:day<befD (y+1)):yearD day=y:=by
 obtain ⟨a,b,_⟩:=year_spec h0 h1
 have c:=bef_lt (show befD (yearD day)<befD (y+1) by omega)
 have d:=bef_lt (show befD y<befD (yearD day+1) by omega)
 omega
def sumM (y:Int):Nat→Int
 | 0=>0
 | k+1=>sumM y k+lastD y ((k:Int)+1)
theorem last_bounds (y m:Int):0≤lastD y m∧lastD y m≤31:=by unfold lastD;repeat' split;all_goals omega
theorem last_out {y m:Int} (h:¬ (1≤m∧m≤12)):lastD y m=0:=by
 unfold lastD
 rw [if_neg (by omega),if_neg (by omega),if_neg (by omega)]
theorem sum_12 (y:Int):sumM y 12=yrD y:=by
 simp only [sumM,lastD,yrD]
 by_cases hl:leapB y=true<;>simp [hl]
theorem sum_le (y:Int):∀ k:Nat,0≤sumM y k∧sumM y k≤31*k
 | 0=>by simp [sumM]
 | k+1=>by
  have:=sum_le y k
  have:=last_bounds y ((k:Int)+1)
  simp only [sumM]
  omega
def mFind (y r:Int):Nat→Nat→Nat
 | 0,k=>k
 | f+1,k=>if r<sumM y (k+1) then k else mFind y r f (k+1)
def monK (y r:Int):Nat:=mFind y r 12 0
theorem mFind_spec (y r:Int) (hr:r<yrD y):∀ (f k:Nat),k+f=12→sumM y k≤r→sumM y (mFind y r f k)≤r∧r<sumM y (mFind y r f k+1)∧mFind y r f k<12
 | 0,k,h,h2=>by
  have:k=12:=by omega
  subst this
  rw [sum_12] at h2
  omega
 | f+1,k,h,h2=>by
  unfold mFind
  by_cases hc:r<sumM y (k+1)
  ·rw [if_pos hc]
   exact ⟨h2,hc,by omega⟩
  ·rw [if_neg hc]
   exact mFind_spec y r hr f (k+1) om0 om0
theorem mon_spec {y r:Int} (h0:0≤r) (hr:r<yrD y):sumM y (monK y r)≤r∧r<sumM y (monK y r+1)∧monK y r<12:=mFind_spec y r hr 12 0 rfl h0
theorem sum_mono (y:Int):∀ (j k:Nat),j≤k→sumM y j≤sumM y k
 | j,0,h=>by
  have:j=0:=by omega
  subst this
  exact Int.le_refl _
 | j,k+1,h=>by
  by_cases e:j=k+1
  ·subst e;exact Int.le_refl _
  ·have:=sum_mono y j k (by omega)
   have:=last_bounds y ((k:Int)+1)
   simp only [sumM]
   omega
theorem mon_uniq {y r:Int} (h0:0≤r) (hr:r<yrD y) {k:Nat} (h1:sumM y k≤r) (h2:r<sumM y (k+1)):monK y r=k:=by
 obtain ⟨a,b,_⟩:=mon_spec h0 hr
 apply Classical.byContradiction
 intro hne
 by_cases hlt:monK y r<k
 ·have:=sum_mono y (monK y r+1) k (by omega)
  omega
 ·have:=sum_mono y (k+1) (monK y r) (by omega)
  omega
def restD (day:Int):Int:=day-befD (yearD day)
def partY (day:Int):Int:=yearD day
def partM (day:Int):Int:=(monK (yearD day) (restD day):Nat)+1
def partD (day:Int):Int:=restD day-sumM (yearD day) (monK (yearD day) (restD day))+1
theorem rest_spec {day:Int} (h0:0≤day) (h1:day≤200000):0≤restD day∧restD day<yrD (yearD day):=by
 obtain ⟨a,b,_⟩:=year_spec h0 h1
 have:=bef_succ (yearD day)
 unfold restD
 omega
def dayOf (y m d:Int):Int×Int :=
 if d<1∨lastD y m<d then (0,23)
 else if y<1900∨3000<y then (0,3)
 else if 0≤befD y+d-1+sumM y (m-1).toNat∧befD y+d-1+sumM y (m-1).toNat≤200000 then (befD y+d-1+sumM y (m-1).toNat,0)
 else (0,3)
theorem parts_bounds {day:Int} (h0:0≤day) (h1:day≤200000):1900≤partY day∧partY day≤3000∧1≤partM day∧partM day≤12∧1≤partD day∧partD day≤31:=by
 obtain ⟨a,b,c⟩:=year_spec h0 h1
 obtain ⟨d,e⟩:=rest_spec h0 h1
 obtain ⟨f,g,i⟩:=mon_spec d e
 have hy:=bef_high (yearD day) (by omega)
 have:=last_bounds (yearD day) ((monK (yearD day) (restD day):Int)+1)
 simp only [sumM] at g
 unfold partY partM partD
 omega
theorem leap_ok (y:Int) (hy:0≤y):APureV Tryz.prog 168 [.int .i64 y] (.bool (leapB y)):=by
 have e1:Int.tmod y 4=y % 4:=Int.tmod_eq_emod_of_nonneg hy
 have e2:Int.tmod y 100=y % 100:=Int.tmod_eq_emod_of_nonneg hy
 have e3:Int.tmod y 400=y % 400:=Int.tmod_eq_emod_of_nonneg hy
 refine aO (cxOk 16 [0,2]) Tryz.func168 ?_
 conv=>whnf
 refine And.intro aj0 ?_
 conv=>whnf
 refine And.intro aj0 ?_
 conv=>whnf
 refine And.intro aj0 ?_
 conv=>whnf
 rw [e1,e2,e3]
 unfold leapB
 simp
theorem before_ok (y:Int) (hy:1≤y) (h2:y≤1000000000001):APureV Tryz.prog 132 [.int .i64 y] (.int .i64 (befD y)):=by
 have e1:Int.tdiv (y-1) 4=(y-1) / 4:=Int.tdiv_eq_ediv_of_nonneg (by omega)
 have e2:Int.tdiv (y-1) 100=(y-1) / 100:=Int.tdiv_eq_ediv_of_nonneg (by omega)
 have e3:Int.tdiv (y-1) 400=(y-1) / 400:=Int.tdiv_eq_ediv_of_nonneg (by omega)
 refine aO (cxOk 18 [0,2]) Tryz.func132 ?_
 conv=>whnf
 repeat (first | (refine iO ?_;conv=>whnf) | (refine And.intro (by omega) (And.intro rfl ?_);conv=>whnf) | (refine And.intro rfl ?_;conv=>whnf) | (refine And.intro (fun _=>⟨by omega,by omega⟩) ?_;conv=>whnf) | (refine And.intro (fun _=>by omega) (And.intro rfl ?_);conv=>whnf) | (refine And.intro ⟨ab0,ab0⟩ ?_;conv=>whnf) | (refine Exists.intro _ (And.intro rfl (And.intro ab0 (And.intro ⟨rfl,rfl,rfl,rfl,rfl⟩ ?_)));conv=>whnf) | (refine And.intro ⟨rfl,rfl⟩ (And.intro ab0 ?_);conv=>whnf) | (refine Exists.intro _ (And.intro rfl ?_);conv=>whnf) | (refine nE ?_;conv=>whnf) | (refine nD ?_;conv=>whnf) | (refine .quiet (by kernel_rfl) ?_;conv=>whnf))
 refine And.intro aj0 ?_
 conv=>whnf
 rw [e1]
 repeat (first | (refine iO ?_;conv=>whnf) | (refine And.intro (by omega) (And.intro rfl ?_);conv=>whnf) | (refine And.intro rfl ?_;conv=>whnf) | (refine And.intro (fun _=>⟨by omega,by omega⟩) ?_;conv=>whnf) | (refine And.intro (fun _=>by omega) (And.intro rfl ?_);conv=>whnf) | (refine And.intro ⟨ab0,ab0⟩ ?_;conv=>whnf) | (refine Exists.intro _ (And.intro rfl (And.intro ab0 (And.intro ⟨rfl,rfl,rfl,rfl,rfl⟩ ?_)));conv=>whnf) | (refine And.intro ⟨rfl,rfl⟩ (And.intro ab0 ?_);conv=>whnf) | (refine Exists.intro _ (And.intro rfl ?_);conv=>whnf) | (refine nE ?_;conv=>whnf) | (refine nD ?_;conv=>whnf) | (refine .quiet (by kernel_rfl) ?_;conv=>whnf))
 refine And.intro aj0 ?_
 conv=>whnf
 rw [e2]
 repeat (first | (refine iO ?_;conv=>whnf) | (refine And.intro (by omega) (And.intro rfl ?_);conv=>whnf) | (refine And.intro rfl ?_;conv=>whnf) | (refine And.intro (fun _=>⟨by omega,by omega⟩) ?_;conv=>whnf) | (refine And.intro (fun _=>by omega) (And.intro rfl ?_);conv=>whnf) | (refine And.intro ⟨ab0,ab0⟩ ?_;conv=>whnf) | (refine Exists.intro _ (And.intro rfl (And.intro ab0 (And.intro ⟨rfl,rfl,rfl,rfl,rfl⟩ ?_)));conv=>whnf) | (refine And.intro ⟨rfl,rfl⟩ (And.intro ab0 ?_);conv=>whnf) | (refine Exists.intro _ (And.intro rfl ?_);conv=>whnf) | (refine nE ?_;conv=>whnf) | (refine nD ?_;conv=>whnf) | (refine .quiet (by kernel_rfl) ?_;conv=>whnf))
 refine And.intro aj0 ?_
 conv=>whnf
 rw [e3]
 repeat (first | (refine iO ?_;conv=>whnf) | (refine And.intro (by omega) (And.intro rfl ?_);conv=>whnf) | (refine And.intro rfl ?_;conv=>whnf) | (refine And.intro (fun _=>⟨by omega,by omega⟩) ?_;conv=>whnf) | (refine And.intro (fun _=>by omega) (And.intro rfl ?_);conv=>whnf) | (refine And.intro ⟨ab0,ab0⟩ ?_;conv=>whnf) | (refine Exists.intro _ (And.intro rfl (And.intro ab0 (And.intro ⟨rfl,rfl,rfl,rfl,rfl⟩ ?_)));conv=>whnf) | (refine And.intro ⟨rfl,rfl⟩ (And.intro ab0 ?_);conv=>whnf) | (refine Exists.intro _ (And.intro rfl ?_);conv=>whnf) | (refine nE ?_;conv=>whnf) | (refine nD ?_;conv=>whnf) | (refine .quiet (by kernel_rfl) ?_;conv=>whnf))
 unfold befD
 rfl
theorem isday_ok (n:Int):APureV Tryz.prog 131 [.int .i64 n] (.bool (decide (0≤n)&&decide (n≤200000))):=by
 refine aO (cxOk 9 [0,2]) Tryz.func131 ?_
 conv=>whnf
 rfl
theorem last_ok (y m:Int) (hy:0≤y):APureV Tryz.prog 133 [.int .i64 y,.int .i64 m] (.int .i64 (lastD y m)):=by
 have hl:=leap_ok y hy
 have hv:lastD y m=if m=1∨m=3∨m=5∨m=7∨m=8∨m=10∨m=12 then 31
  else if m=4∨m=6∨m=9∨m=11 then 30 else if m=2 then (if leapB y=true then 29 else 28) else 0:=rfl
 have key:m=1∨m=3∨m=5∨m=7∨m=8∨m=10∨m=12∨m=4∨m=6∨m=9∨m=11∨m=2∨(m≠1∧m≠3∧m≠5∧m≠7∧m≠8∧m≠10∧m≠12∧m≠4∧m≠6∧m≠9∧m≠11∧m≠2):=by omega
 rw [hv]
 rcases key with h | h | h | h | h | h | h | h | h | h | h | h | h
 case inr.inr.inr.inr.inr.inr.inr.inr.inr.inr.inr.inl =>
  rw [if_neg (by omega),if_neg (by omega),if_pos h]
  refine aO (cxOk 23 [0,1,4,5,6,14,19,22]) Tryz.func133 ?_
  conv=>whnf
  repeat (first | (refine ⟨fun _=>?_,fun hx=>(by simp at hx;omega)⟩;conv=>whnf) | (refine ⟨fun hx=>(by simp at hx;omega),fun _=>?_⟩;conv=>whnf))
  refine cO (fun _=>hl) ?_
  conv=>whnf
  refine ⟨fun hq=>?_,fun hq=>?_⟩
  ·rw [if_pos hq]
   conv=>whnf
   rfl
  ·rw [if_neg (by rw [hq];decide)]
   conv=>whnf
   rfl
 all_goals
  refine aO (cxOk 23 [0,1,4,5,6,14,19,22]) Tryz.func133 ?_
  conv=>whnf
  repeat (first | (refine ⟨fun _=>?_,fun hx=>(by simp at hx;omega)⟩;conv=>whnf) | (refine ⟨fun hx=>(by simp at hx;omega),fun _=>?_⟩;conv=>whnf))
 all_goals
  refine congrArg (fun z:Int=>[AR.val (AV.int .i64 z)]) ?_
  clear hv
  repeat' split
  all_goals omega
theorem leap2_ok (y:Int) (hy:0≤y):APureV Tryz.prog 181 [.int .i64 y] (.bool (leapB y)):=by
 have e1:Int.tmod y 4=y % 4:=Int.tmod_eq_emod_of_nonneg hy
 have e2:Int.tmod y 100=y % 100:=Int.tmod_eq_emod_of_nonneg hy
 have e3:Int.tmod y 400=y % 400:=Int.tmod_eq_emod_of_nonneg hy
 refine aO (cxOk 12 [0,2,5]) Tryz.func181 ?_
 conv=>whnf
 refine And.intro aj0 ?_
 conv=>whnf
 rw [e2]
 refine ⟨fun h=>?_,fun h=>?_⟩
 ·have h:=of_decide_eq_true h
  conv=>whnf
  refine And.intro aj0 ?_
  conv=>whnf
  rw [e3]
  have:leapB y=decide (y % 400=0):=by
   unfold leapB
   by_cases h4:y % 400=0
   ·have:y % 4=0:=by omega
    simp [h4,this]
   ·simp [h,h4]
  rw [this]
  rfl
 ·have h:=of_decide_eq_false h
  conv=>whnf
  refine And.intro aj0 ?_
  conv=>whnf
  rw [e1]
  have:leapB y=decide (y % 4=0):=by
   unfold leapB
   simp [h]
  rw [this]
  rfl
theorem year2_ok (y:Int) (hy:0≤y):APureV Tryz.prog 153 [.int .i64 y] (.int .i64 (yrD y)):=by
 have hl:=leap2_ok y hy
 unfold yrD
 refine aO (cxOk 5 [0,2,4]) Tryz.func153 ?_
 conv=>whnf
 refine cO (fun _=>hl) ?_
 conv=>whnf
 refine ⟨fun h=>?_,fun h=>?_⟩
 ·rw [if_pos h]
  conv=>whnf
  rfl
 ·rw [if_neg (by rw [h];decide)]
  conv=>whnf
  rfl
theorem last2_ok (y m:Int) (hy:0≤y) (h1:-9223372036854775807≤m):APureV Tryz.prog 154 [.int .i64 y,.int .i64 m] (.int .i64 (lastD y m)):=by
 have hl:=leap2_ok y hy
 by_cases hout:m<1∨12<m
 ·rw [last_out (show ¬ (1≤m∧m≤12) by omega)]
  refine aO (cxOk 22 [0,1,4,10,16]) Tryz.func154 ?_
  conv=>whnf
  refine ⟨fun _=>?_,fun hx=>(by simp at hx;omega)⟩
  conv=>whnf
  rfl
 have key:m=2∨m=1∨m=3∨m=4∨m=5∨m=6∨m=7∨m=8∨m=9∨m=10∨m=11∨m=12:=by omega
 rcases key with h | h | h | h | h | h | h | h | h | h | h | h
 all_goals
  subst h
  unfold lastD
 ·rw [if_neg (by decide),if_neg (by decide),if_pos rfl]
  refine aO (cxOk 22 [0,1,4,10,16]) Tryz.func154 ?_
  conv=>whnf
  refine ⟨fun hx=>absurd hx dd0,fun _=>?_⟩
  conv=>whnf
  refine cO (fun _=>hl) ?_
  conv=>whnf
  refine ⟨fun hq=>?_,fun hq=>?_⟩
  ·rw [if_pos (by simpa using hq)]
   conv=>whnf
   rfl
  ·rw [if_neg (by simpa using hq)]
   conv=>whnf
   repeat (first | (refine iO ?_;conv=>whnf) | (refine And.intro (by omega) (And.intro rfl ?_);conv=>whnf) | (refine And.intro rfl ?_;conv=>whnf) | (refine And.intro (fun _=>⟨by omega,by omega⟩) ?_;conv=>whnf) | (refine And.intro (fun _=>by omega) (And.intro rfl ?_);conv=>whnf) | (refine And.intro ⟨ab0,ab0⟩ ?_;conv=>whnf) | (refine Exists.intro _ (And.intro rfl (And.intro ab0 (And.intro ⟨rfl,rfl,rfl,rfl,rfl⟩ ?_)));conv=>whnf) | (refine And.intro ⟨rfl,rfl⟩ (And.intro ab0 ?_);conv=>whnf) | (refine Exists.intro _ (And.intro rfl ?_);conv=>whnf) | (refine nE ?_;conv=>whnf) | (refine nD ?_;conv=>whnf) | (refine .quiet (by kernel_rfl) ?_;conv=>whnf))
   refine And.intro (by simp) ?_
   conv=>whnf
   refine And.intro (by simp) ?_
   conv=>whnf
   refine And.intro rfl ?_
   conv=>whnf
   rfl
 all_goals
  refine aO (cxOk 22 [0,1,4,10,16]) Tryz.func154 ?_
  conv=>whnf
  refine ⟨fun hx=>absurd hx dd0,fun _=>?_⟩
  conv=>whnf
  refine cO (fun _=>hl) ?_
  conv=>whnf
  refine ⟨fun hx=>absurd hx (by simp),fun _=>?_⟩
  conv=>whnf
  repeat (first | (refine iO ?_;conv=>whnf) | (refine And.intro (by omega) (And.intro rfl ?_);conv=>whnf) | (refine And.intro rfl ?_;conv=>whnf) | (refine And.intro (fun _=>⟨by omega,by omega⟩) ?_;conv=>whnf) | (refine And.intro (fun _=>by omega) (And.intro rfl ?_);conv=>whnf) | (refine And.intro ⟨ab0,ab0⟩ ?_;conv=>whnf) | (refine Exists.intro _ (And.intro rfl (And.intro ab0 (And.intro ⟨rfl,rfl,rfl,rfl,rfl⟩ ?_)));conv=>whnf) | (refine And.intro ⟨rfl,rfl⟩ (And.intro ab0 ?_);conv=>whnf) | (refine Exists.intro _ (And.intro rfl ?_);conv=>whnf) | (refine nE ?_;conv=>whnf) | (refine nD ?_;conv=>whnf) | (refine .quiet (by kernel_rfl) ?_;conv=>whnf))
  refine And.intro (by simp) ?_
  conv=>whnf
  refine And.intro (by simp) ?_
  conv=>whnf
  refine And.intro rfl ?_
  conv=>whnf
  rfl
def partsR (day:Int):List AR :=
 if 0≤day∧day≤200000 then [.val (.int .i64 (partY day)),.val (.int .i64 (partM day)),.val (.int .i64 (partD day)),.val (.int .i64 0)]
 else [.val (.int .i64 0),.val (.int .i64 0),.val (.int .i64 0),.val (.int .i64 3)]
theorem parts_ok (day:Int):APure Tryz.prog 83 [.int .i64 day] (fun rs=>rs=partsR day):=by
 have hd:=isday_ok day
 unfold partsR
 by_cases hin:0≤day∧day≤200000
 rotate_left
 ·rw [if_neg hin]
  have e:(decide (0≤day)&&decide (day≤200000))=false:=by
   simp only [Bool.and_eq_false_iff,decide_eq_false_iff_not]
   omega
  rw [e] at hd
  refine aO (cxOk 40 [0,2,3,4,5,6,9,17,28]) Tryz.func83 ?_
  conv=>whnf
  refine cO (fun _=>hd) ?_
  conv=>whnf
  refine gT ?_
  conv=>whnf
  rfl
 rw [if_pos hin]
 obtain ⟨h0,h1⟩:=hin
 have e:(decide (0≤day)&&decide (day≤200000))=true:=by
  simp only [Bool.and_eq_true,decide_eq_true_eq]
  omega
 rw [e] at hd
 have e1:Int.tdiv day 366=day / 366:=Int.tdiv_eq_ediv_of_nonneg h0
 have hlow:=bef_low (day / 366) (by omega)
 obtain ⟨s1,s2,s3⟩:=year_spec h0 h1
 obtain ⟨r1,r2⟩:=rest_spec h0 h1
 refine aO (cxOk 40 [0,2,3,4,5,6,9,17,28]) Tryz.func83 ?_
 conv=>whnf
 refine cO (fun _=>hd) ?_
 conv=>whnf
 refine gF ?_
 conv=>whnf
 refine And.intro aj0 ?_
 conv=>whnf
 rw [e1]
 refine iO ?_;conv=>whnf
 refine iO ?_;conv=>whnf
 refine loop_inv (cxOk _ _) (fun y:Int=>1900≤y∧befD y≤day) (fun y=>(4000-y).toNat) (fun y=>⟨[(0,.int .i64 day),(2,.int .i64 y),(3,.int .i64 0),(4,.int .i64 0),(5,.int .i64 0)],[],0⟩) (1900+day / 366) ⟨by omega,by omega⟩ ((wk_of [] rfl ⟨wa0,wa0,wa0,wa0,wa0,trivial⟩ trivial)) ?_
 intro y hy
 have hy3:=bef_high y (by omega)
 have hb:=before_ok (y+1) (by omega) (by omega)
 conv=>whnf
 refine iO ?_;conv=>whnf
 refine cO (fun _=>hb) ?_
 conv=>whnf
 refine ⟨fun hc=>?_,fun hc=>?_⟩
 ·have hc:=of_decide_eq_true hc
  conv=>whnf
  refine iO ?_;conv=>whnf
  exact ⟨y+1,⟨by omega,hc⟩,(by show (4000-(y+1)).toNat<(4000-y).toNat;omega),(wk_of [] rfl ⟨wa0,wa0,wa0,wa0,wa0,trivial⟩ trivial)⟩
 ·have hc:=of_decide_eq_false hc
  have hyd:yearD day=y:=year_uniq h0 h1 hy.2 (by omega)
  have hb2:=before_ok y (by omega) (by omega)
  have hbn:=bef_nn y hy.1
  conv=>whnf
  refine cO (fun _=>hb2) ?_
  conv=>whnf
  refine iO ?_;conv=>whnf
  subst hyd
  have hre:restD day=day-befD (yearD day):=rfl
  have hlt12:∀ k,sumM (yearD day) k≤restD day→k<12:=by
   intro k hk
   apply Classical.byContradiction
   intro hn
   have:=sum_mono (yearD day) 12 k (by omega)
   rw [sum_12] at this
   omega
  refine loop_inv (cxOk _ _) (fun k:Nat=>sumM (yearD day) k≤restD day) (fun k=>12-k) (fun k=>⟨[(0,.int .i64 day),(2,.int .i64 (yearD day)),(3,.int .i64 ((k:Nat)+1)),(4,.int .i64 0),(5,.int .i64 0),(6,.int .i64 (restD day-sumM (yearD day) k))],[],0⟩) 0 (by show (0:Int)≤_;omega) ((wk_of [] rfl ⟨wa0,wa0,wa0,wa0,wa0,.base (.tree _ _ (show AV.int .i64 _=AV.int .i64 _ by congr 1;show _=restD day-0;omega) rfl),trivial⟩ trivial)) ?_
  intro k hk
  have hk12:=hlt12 k hk
  have hl:=last_ok (yearD day) ((k:Int)+1) (by omega)
  have hlb:=last_bounds (yearD day) ((k:Int)+1)
  have hsl:=sum_le (yearD day) k
  conv=>whnf
  refine cO (fun _=>hl) ?_
  conv=>whnf
  refine ⟨fun hm=>?_,fun hm=>?_⟩
  ·have hm:=of_decide_eq_true hm
   conv=>whnf
   refine cO (fun _=>hl) ?_
   conv=>whnf
   refine iO ?_
   conv=>whnf
   refine iO ?_
   conv=>whnf
   exact ⟨k+1,(by simp only [sumM];omega),(by show 12-(k+1)<12-k;omega),(wk_of [] rfl ⟨wa0,wa0,wa0,wa0,wa0,.base (.tree _ _ (show AV.int .i64 _=AV.int .i64 _ by congr 1;simp only [sumM];omega) rfl),trivial⟩ trivial)⟩
  ·have hm:=of_decide_eq_false hm
   have hmk:monK (yearD day) (restD day)=k:=mon_uniq r1 r2 hk (by simp only [sumM];omega)
   conv=>whnf
   refine iO ?_;conv=>whnf
   unfold partY partM partD
   rw [hmk]
   rfl
theorem parts2_ok (day:Int):APure Tryz.prog 116 [.int .i64 day] (fun rs=>rs=partsR day):=by
 unfold partsR
 by_cases hin:0≤day∧day≤200000
 rotate_left
 ·rw [if_neg hin]
  refine aO (cxOk 40 [0,2,3,4,5,6,7,13,17,28]) Tryz.func116 ?_
  conv=>whnf
  refine ⟨fun _=>?_,fun hx=>(by simp at hx;omega)⟩
  conv=>whnf
  rfl
 rw [if_pos hin]
 obtain ⟨h0,h1⟩:=hin
 obtain ⟨s1,s2,s3⟩:=year_spec h0 h1
 obtain ⟨r1,r2⟩:=rest_spec h0 h1
 refine aO (cxOk 40 [0,2,3,4,5,6,7,13,17,28]) Tryz.func116 ?_
 conv=>whnf
 refine ⟨fun hx=>(by simp at hx;omega),fun _=>?_⟩
 conv=>whnf
 refine loop_inv (cxOk _ _) (fun y:Int=>1900≤y∧befD y≤day) (fun y=>(4000-y).toNat) (fun y=>⟨[(0,.int .i64 (day-befD y)),(2,.int .i64 0),(3,.int .i64 0),(4,.int .i64 0),(5,.int .i64 0),(6,.int .i64 y)],[],0⟩) 1900 ⟨by omega,by rw [bef_1900];exact h0⟩ ((wk_of [] rfl ⟨.base (.tree _ _ (show AV.int .i64 _=AV.int .i64 _ by congr 1;rw [bef_1900];omega) rfl),wa0,wa0,wa0,wa0,wa0,trivial⟩ trivial)) ?_
 intro y hy
 have hy3:=bef_high y (by omega)
 have hb:=bef_succ y
 have hbn:=bef_nn y hy.1
 have hyr:=year2_ok y (by omega)
 have hyb:=yr_bounds y
 conv=>whnf
 refine cO (fun _=>hyr) ?_
 conv=>whnf
 refine ⟨fun hc=>?_,fun hc=>?_⟩
 ·have hc:=of_decide_eq_true hc
  conv=>whnf
  refine cO (fun _=>hyr) ?_
  conv=>whnf
  refine iO ?_
  conv=>whnf
  refine iO ?_
  conv=>whnf
  exact ⟨y+1,⟨by omega,by omega⟩,(by show (4000-(y+1)).toNat<(4000-y).toNat;omega),(wk_of [] rfl ⟨.base (.tree _ _ (show AV.int .i64 _=AV.int .i64 _ by congr 1;omega) rfl),wa0,wa0,wa0,wa0,wa0,trivial⟩ trivial)⟩
 ·have hc:=of_decide_eq_false hc
  have hyd:yearD day=y:=year_uniq h0 h1 hy.2 (by omega)
  conv=>whnf
  subst hyd
  have hre:restD day=day-befD (yearD day):=rfl
  have hlt12:∀ k,sumM (yearD day) k≤restD day→k<12:=by
   intro k hk
   apply Classical.byContradiction
   intro hn
   have:=sum_mono (yearD day) 12 k (by omega)
   rw [sum_12] at this
   omega
  refine loop_inv (cxOk _ _) (fun k:Nat=>sumM (yearD day) k≤restD day) (fun k=>12-k) (fun k=>⟨[(0,.int .i64 (restD day-sumM (yearD day) k)),(2,.int .i64 0),(3,.int .i64 0),(4,.int .i64 0),(5,.int .i64 0),(6,.int .i64 (yearD day)),(7,.int .i64 ((k:Nat)+1))],[],0⟩) 0 (by show (0:Int)≤_;omega) ((wk_of [] rfl ⟨.base (.tree _ _ (show AV.int .i64 _=AV.int .i64 _ by congr 1;show _=restD day-0;omega) rfl),wa0,wa0,wa0,wa0,wa0,wa0,trivial⟩ trivial)) ?_
  intro k hk
  have hk12:=hlt12 k hk
  have hl:=last2_ok (yearD day) ((k:Int)+1) (by omega) (by omega)
  have hlb:=last_bounds (yearD day) ((k:Int)+1)
  have hsl:=sum_le (yearD day) k
  conv=>whnf
  refine cO (fun _=>hl) ?_
  conv=>whnf
  refine ⟨fun hm=>?_,fun hm=>?_⟩
  ·have hm:=of_decide_eq_true hm
   conv=>whnf
   refine cO (fun _=>hl) ?_
   conv=>whnf
   refine iO ?_
   conv=>whnf
   refine iO ?_
   conv=>whnf
   exact ⟨k+1,(by simp only [sumM];omega),(by show 12-(k+1)<12-k;omega),(wk_of [] rfl ⟨.base (.tree _ _ (show AV.int .i64 _=AV.int .i64 _ by congr 1;simp only [sumM];omega) rfl),wa0,wa0,wa0,wa0,wa0,wa0,trivial⟩ trivial)⟩
  ·have hm:=of_decide_eq_false hm
   have hmk:monK (yearD day) (restD day)=k:=mon_uniq r1 r2 hk (by simp only [sumM];omega)
   conv=>whnf
   refine iO ?_;conv=>whnf
   unfold partY partM partD
   rw [hmk]
   rfl
def dayR (y m d:Int):List AR:=[.val (.int .i64 (dayOf y m d).1),.val (.int .i64 (dayOf y m d).2)]
def dashT:List UInt8:=[32,45,32]
def dayT (n:Int):List UInt8:=Lib.itoa (partY n)++[32,45,32]++Lib.itoa (partM n)++[32,45,32]++Lib.itoa (partD n)
theorem dayT_len {n:Int} (h:0≤n) (h2:n≤200000):(dayT n).length≤70:=by
 obtain ⟨a,b,c,d,e,f⟩:=parts_bounds h h2
 have h1:=Lib.itoa_length_le (partY n) (by omega) (by omega)
 have h2:=Lib.itoa_length_le (partM n) (by omega) (by omega)
 have h3:=Lib.itoa_length_le (partD n) (by omega) (by omega)
 unfold dayT
 simp only [List.length_append,List.length_cons,List.length_nil]
 omega
theorem day_ok (n:Int) (h:0≤n) (h2:n≤200000):APureV Tryz.prog 41 [.int .i64 n] (.str (dayT n)):=by
 have hp:=parts_ok n
 unfold partsR at hp
 rw [if_pos ⟨h,h2⟩] at hp
 obtain ⟨a,b,c,d,e,f⟩:=parts_bounds h h2
 have i1:=itoa_c (partY n) (by omega) (by omega)
 have i2:=itoa_c (partM n) (by omega) (by omega)
 have i3:=itoa_c (partD n) (by omega) (by omega)
 have l1:=Lib.itoa_length_le (partY n) (by omega) (by omega)
 have l2:=Lib.itoa_length_le (partM n) (by omega) (by omega)
 have l3:=Lib.itoa_length_le (partD n) (by omega) (by omega)
 unfold dayT
 generalize partY n=y at *
 generalize partM n=m at *
 generalize partD n=dd at *
 refine aO (cxOk 24 [0,2,3,4,5]) Tryz.func41 ?_
 conv=>whnf
 refine cO (fun _=>hp) ?_
 conv=>whnf
 refine cO (fun _=>i1) ?_
 conv=>whnf
 refine And.intro aa0 ?_
 conv=>whnf
 refine cO (fun _=>i2) ?_
 conv=>whnf
 refine And.intro aa0 ?_
 conv=>whnf
 refine And.intro aa0 ?_
 conv=>whnf
 refine cO (fun _=>i3) ?_
 conv=>whnf
 refine And.intro aa0 ?_
 conv=>whnf
 rfl
def uqB (l:List (List UInt8)) (k:Nat):Bool:=nameB (l.getD k [])&&!decide (l.getD k []∈l.take k)
def uniqB (l:List (List UInt8)) (most:Int):Bool:=((List.range l.length).all fun k=>uqB l k)&&decide ((l.length:Int)≤most)
theorem uniq_ok (l:List (List UInt8)) (most:Int) (hl:l.length≤9223372036854775807) (hs:∀ s∈l,s.length≤9223372036854775807):APureV Tryz.prog 72 [encSs l,.int .i64 most] (.bool (uniqB l most)):=by
 refine aO (cxOk 29 [0,1,4,5,6,7,8,9,10,23]) Tryz.func72 ?_
 conv=>whnf
 refine loop_up (cxOk _ _) l.length (fun k=>∀ j,j<k→uqB l j=true) (fun k=>⟨[(0,encSs l),(1,.int .i64 most),(4,.bool false),(7,encSs l),(8,.int .i64 (l.length:Nat)),(9,.int .i64 (k:Nat))],[],0⟩) (by intro j hj;omega) ((wk_of [] rfl ⟨wa0,wa0,wa0,wa0,wa0,wa0,trivial⟩ trivial)) ?_
 intro k hk hP
 conv=>whnf
 refine ⟨fun hd=>?_,fun hd=>?_⟩
 ·have hd:=of_decide_eq_true hd
  have hlt:k<l.length:=by omega
  have hek:(k:Int).toNat=k:=Int.toNat_natCast k
  have hm:l.getD k []∈l:=getD_mem hlt
  have hn:=name_ok (l.getD k []) (hs _ hm)
  have hc:=contains_ok (l.take k) (l.getD k []) (by simp;omega)
  conv=>whnf
  refine iO ?_;conv=>whnf
  refine And.intro rfl ?_;conv=>whnf
  rw [hek]
  conv=>whnf
  refine cO (fun _=>hn) ?_
  conv=>whnf
  refine And.intro (fun _=>⟨by omega,by omega,by omega⟩) ?_
  conv=>whnf
  refine And.intro rfl ?_
  conv=>whnf
  refine .one _ _ _ (fun _=>hc) (.cons (show Lend _ _ (encSs (l.take k)) [] from lS rfl) (.cons (lS rfl) .nil)) (.inl rfl) (.inr rfl) ?_
  conv=>whnf
  refine ⟨fun hb=>?_,fun hb=>?_⟩
  ·have hq:uniqB l most=false:=by
    have h1:uqB l k=false:=by
     unfold uqB
     simp only [Bool.or_eq_true,Bool.not_eq_true'] at hb
     rcases hb with hb | hb<;>rw [hb]<;>simp
    unfold uniqB
    rw [show ((List.range l.length).all fun k=>uqB l k)=false by
     rw [List.all_eq_false]
     exact ⟨k,List.mem_range.2 hlt,by rw [h1];decide⟩]
    rfl
   conv=>whnf
   rw [hq]
   rfl
  ·have h1:uqB l k=true:=by
    unfold uqB
    simp only [Bool.or_eq_false_iff,Bool.not_eq_false'] at hb
    rw [hb.1,hb.2]
    rfl
   conv=>whnf
   refine iO ?_;conv=>whnf
   refine up hlt (fun j hj=>?_) ((wk_of [] rfl ⟨wa0,wa0,wa0,wa0,wa0,wa0,trivial⟩ trivial))
   by_cases e:j=k
   ·subst e;exact h1
   ·exact hP j om0
 ·have hd:=of_decide_eq_false hd
  obtain rfl:k=l.length:=by omega
  conv=>whnf
  have he:uniqB l most=decide ((l.length:Int)≤most):=by
   unfold uniqB
   rw [show ((List.range l.length).all fun k=>uqB l k)=true by rw [List.all_eq_true];intro j hj;exact hP j (List.mem_range.1 hj)]
   rfl
  rw [he]
  rfl
set_option maxHeartbeats 40000000
def letR (l:LetE):Bool:=rightE l.body
def covR (c:Cov):Bool:=rightE c.must&&inB 0 1000 [c.grace]
def callR (c:CallE):Bool:=inB 0 200000 [c.a]&&inB 0 10000 [c.b]
theorem letr_ok (l:LetE) (h:OkE l.body):APureV Tryz.prog 75 [encL l] (.bool (!letR l)):=by
 have hr:=rightexp_ok l.body h
 unfold letR
 refine aO (cxOk 7 [0,1,2]) Tryz.func75 ?_
 conv=>whnf
 refine cO (fun _=>hr) ?_
 conv=>whnf
 rfl
theorem covr_ok (c:Cov) (h:OkE c.must):APureV Tryz.prog 77 [encC c] (.bool (!covR c)):=by
 have hr:=rightexp_ok c.must h
 unfold covR
 cases hb:rightE c.must with
 | false =>
  rw [hb] at hr
  refine aO (cxOk 14 [0,1,2]) Tryz.func77 ?_
  conv=>whnf
  refine cO (fun _=>hr) ?_
  conv=>whnf
  refine gF ?_
  conv=>whnf
  refine cF [.int .i64 0,.int .i64 1000,.undef] [.val (.bool false)] ?_
  conv=>whnf
  rfl
 | true =>
  rw [hb] at hr
  refine aO (cxOk 14 [0,1,2]) Tryz.func77 ?_
  conv=>whnf
  refine cO (fun _=>hr) ?_
  conv=>whnf
  refine gT ?_
  conv=>whnf
  refine cO (fun _=>in1_ok 0 1000 c.grace) ?_
  conv=>whnf
  rfl
theorem callr_ok (c:CallE):APureV Tryz.prog 79 [encK c] (.bool (!callR c)):=by
 unfold callR
 refine aO (cxOk 15 [0,1,2]) Tryz.func79 ?_
 conv=>whnf
 refine cO (fun _=>in1_ok 0 200000 c.a) ?_
 conv=>whnf
 cases hb:inB 0 200000 [c.a] with
 | false =>
  refine gF ?_
  conv=>whnf
  refine cF [.int .i64 0,.int .i64 10000,.undef] [.val (.bool false)] ?_
  conv=>whnf
  rfl
 | true =>
  refine gT ?_
  conv=>whnf
  refine cO (fun _=>in1_ok 0 10000 c.b) ?_
  conv=>whnf
  rfl
theorem in2_ok (a b n m:Int):APureV Tryz.prog 70 [.int .i64 a,.int .i64 b,.sl 1 encI 0 [n,m]] (.bool (inB a b [n,m])):=in_ok a b [n,m] (by simp)
structure OkX (x:Ind):Prop where
 name:x.name.length≤9223372036854775807
 issuer:x.issuer.length≤9223372036854775807
 coupon:OkE x.coupon
 lets:x.lets.length≤1000000000
 let1:∀ l∈x.lets,l.name.length≤9223372036854775807∧OkE l.body
 cov:x.cov.length≤1000000000
 cov1:∀ c∈x.cov,c.name.length≤9223372036854775807∧OkE c.must∧in64 c.grace
 favour:x.favour.length≤9223372036854775807
 fav1:∀ s∈x.favour,s.length≤9223372036854775807
 calls:x.calls.length≤9223372036854775807
 call1:∀ c∈x.calls,in64 c.a∧in64 c.b
 nums:in64 x.face∧in64 x.frm∧in64 x.to∧in64 x.every∧in64 x.count∧in64 x.adjust∧in64 x.record∧in64 x.rank∧in64 x.cap∧in64 x.cross∧in64 x.notice∧in64 x.sink∧in64 x.majority∧in64 x.fast
def datesB (x:Ind):Bool:=inB 0 200000 [x.frm,x.to]&&decide (x.frm<x.to)
def oneB (x:Ind):Bool:=inB 1 1000000000000000 [x.face]&&inB 1 120 [x.every]&&inB 0 2 [x.count]&&inB 0 3 [x.adjust]&&inB 0 100 [x.record]&&inB 0 9 [x.rank]
def twoB (x:Ind):Bool:=inB 0 10000 [x.cap]&&inB (-1) 1000000000000000 [x.cross]&&inB 0 1000 [x.notice,x.sink]&&inB 1 1000 [x.majority,x.fast]
def headB (x:Ind):Bool:=datesB x&&oneB x&&twoB x&&nameB x.name&&nameB x.issuer&&decide ((x.calls.length:Int)≤20)&&uniqB x.favour 20
def restB (x:Ind):Bool:=uniqB (x.lets.map LetE.name) 20&&uniqB (x.cov.map Cov.name) 20&&rightE x.coupon&&x.lets.all letR&&x.cov.all covR&&x.calls.all callR
def rightI (x:Ind):Bool:=headB x&&restB x
theorem rightfn_ok (x:Ind) (hx:OkX x):APureV Tryz.prog 36 [encX x] (.bool (rightI x)):=by
 have hn1:=name_ok x.name hx.name
 have hn2:=name_ok x.issuer hx.issuer
 have hu:=uniq_ok x.favour 20 hx.favour hx.fav1
 refine aO (cxOk 177 [0,1,2,3,4,5,6,7,9,11,12,119,121,122,123,124,134,135,136,137,159]) Tryz.func36 ?_
 conv=>whnf
 refine cO (fun _=>in2_ok 0 200000 x.frm x.to) ?_
 conv=>whnf
 refine cO (fun _=>in1_ok 1 1000000000000000 x.face) ?_
 conv=>whnf
 cases ha0:inB 1 1000000000000000 [x.face] with
 | false =>
  refine gF ?_
  conv=>whnf
  refine cF [.int .i64 1,.int .i64 120,.undef] [.val (.bool false)] ?_
  conv=>whnf
  refine gF ?_
  conv=>whnf
  refine cF [.int .i64 0,.int .i64 2,.undef] [.val (.bool false)] ?_
  conv=>whnf
  refine gF ?_
  conv=>whnf
  refine cF [.int .i64 0,.int .i64 3,.undef] [.val (.bool false)] ?_
  conv=>whnf
  refine gF ?_
  conv=>whnf
  refine cF [.int .i64 0,.int .i64 100,.undef] [.val (.bool false)] ?_
  conv=>whnf
  refine gF ?_
  conv=>whnf
  refine cF [.int .i64 0,.int .i64 9,.undef] [.val (.bool false)] ?_
  conv=>whnf
  refine cO (fun _=>in1_ok 0 10000 x.cap) ?_
  conv=>whnf
  cases hb0:inB 0 10000 [x.cap] with
  | false =>
   refine gF ?_
   conv=>whnf
   refine cF [.int .i64 (-1),.int .i64 1000000000000000,.undef] [.val (.bool false)] ?_
   conv=>whnf
   refine gF ?_
   conv=>whnf
   refine cF [.int .i64 0,.int .i64 1000,.undef] [.val (.bool false)] ?_
   conv=>whnf
   refine gF ?_
   conv=>whnf
   refine cF [.int .i64 1,.int .i64 1000,.undef] [.val (.bool false)] ?_
   conv=>whnf
   refine cO (fun _=>hn1) ?_
   conv=>whnf
   refine cO (fun _=>hn2) ?_
   conv=>whnf
   refine cO (fun _=>hu) ?_
   conv=>whnf
   refine ⟨fun _=>?_,fun hx=>absurd hx (by simp)⟩
   conv=>whnf
   rw [show rightI x=false by simp only [rightI,headB,oneB,twoB,hb0,Bool.and_false,Bool.false_and]]
   rfl
  | true =>
   refine gT ?_
   conv=>whnf
   refine cO (fun _=>in1_ok (-1) 1000000000000000 x.cross) ?_
   conv=>whnf
   cases hb1:inB (-1) 1000000000000000 [x.cross] with
   | false =>
    refine gF ?_
    conv=>whnf
    refine cF [.int .i64 0,.int .i64 1000,.undef] [.val (.bool false)] ?_
    conv=>whnf
    refine gF ?_
    conv=>whnf
    refine cF [.int .i64 1,.int .i64 1000,.undef] [.val (.bool false)] ?_
    conv=>whnf
    refine cO (fun _=>hn1) ?_
    conv=>whnf
    refine cO (fun _=>hn2) ?_
    conv=>whnf
    refine cO (fun _=>hu) ?_
    conv=>whnf
    refine ⟨fun _=>?_,fun hx=>absurd hx (by simp)⟩
    conv=>whnf
    rw [show rightI x=false by simp only [rightI,headB,oneB,twoB,hb1,Bool.and_false,Bool.false_and]]
    rfl
   | true =>
    refine gT ?_
    conv=>whnf
    refine cO (fun _=>in2_ok 0 1000 x.notice x.sink) ?_
    conv=>whnf
    cases hb2:inB 0 1000 [x.notice,x.sink] with
    | false =>
     refine gF ?_
     conv=>whnf
     refine cF [.int .i64 1,.int .i64 1000,.undef] [.val (.bool false)] ?_
     conv=>whnf
     refine cO (fun _=>hn1) ?_
     conv=>whnf
     refine cO (fun _=>hn2) ?_
     conv=>whnf
     refine cO (fun _=>hu) ?_
     conv=>whnf
     refine ⟨fun _=>?_,fun hx=>absurd hx (by simp)⟩
     conv=>whnf
     rw [show rightI x=false by simp only [rightI,headB,oneB,twoB,hb2,Bool.and_false,Bool.false_and]]
     rfl
    | true =>
     refine gT ?_
     conv=>whnf
     refine cO (fun _=>in2_ok 1 1000 x.majority x.fast) ?_
     conv=>whnf
     refine cO (fun _=>hn1) ?_
     conv=>whnf
     refine cO (fun _=>hn2) ?_
     conv=>whnf
     refine cO (fun _=>hu) ?_
     conv=>whnf
     refine ⟨fun _=>?_,fun hx=>absurd hx (by simp)⟩
     conv=>whnf
     rw [show rightI x=false by simp only [rightI,headB,oneB,twoB,ha0,Bool.and_false,Bool.false_and]]
     rfl
 | true =>
  refine gT ?_
  conv=>whnf
  refine cO (fun _=>in1_ok 1 120 x.every) ?_
  conv=>whnf
  cases ha1:inB 1 120 [x.every] with
  | false =>
   refine gF ?_
   conv=>whnf
   refine cF [.int .i64 0,.int .i64 2,.undef] [.val (.bool false)] ?_
   conv=>whnf
   refine gF ?_
   conv=>whnf
   refine cF [.int .i64 0,.int .i64 3,.undef] [.val (.bool false)] ?_
   conv=>whnf
   refine gF ?_
   conv=>whnf
   refine cF [.int .i64 0,.int .i64 100,.undef] [.val (.bool false)] ?_
   conv=>whnf
   refine gF ?_
   conv=>whnf
   refine cF [.int .i64 0,.int .i64 9,.undef] [.val (.bool false)] ?_
   conv=>whnf
   refine cO (fun _=>in1_ok 0 10000 x.cap) ?_
   conv=>whnf
   cases hb0:inB 0 10000 [x.cap] with
   | false =>
    refine gF ?_
    conv=>whnf
    refine cF [.int .i64 (-1),.int .i64 1000000000000000,.undef] [.val (.bool false)] ?_
    conv=>whnf
    refine gF ?_
    conv=>whnf
    refine cF [.int .i64 0,.int .i64 1000,.undef] [.val (.bool false)] ?_
    conv=>whnf
    refine gF ?_
    conv=>whnf
    refine cF [.int .i64 1,.int .i64 1000,.undef] [.val (.bool false)] ?_
    conv=>whnf
    refine cO (fun _=>hn1) ?_
    conv=>whnf
    refine cO (fun _=>hn2) ?_
    conv=>whnf
    refine cO (fun _=>hu) ?_
    conv=>whnf
    refine ⟨fun _=>?_,fun hx=>absurd hx (by simp)⟩
    conv=>whnf
    rw [show rightI x=false by simp only [rightI,headB,oneB,twoB,hb0,Bool.and_false,Bool.false_and]]
    rfl
   | true =>
    refine gT ?_
    conv=>whnf
    refine cO (fun _=>in1_ok (-1) 1000000000000000 x.cross) ?_
    conv=>whnf
    cases hb1:inB (-1) 1000000000000000 [x.cross] with
    | false =>
     refine gF ?_
     conv=>whnf
     refine cF [.int .i64 0,.int .i64 1000,.undef] [.val (.bool false)] ?_
     conv=>whnf
     refine gF ?_
     conv=>whnf
     refine cF [.int .i64 1,.int .i64 1000,.undef] [.val (.bool false)] ?_
     conv=>whnf
     refine cO (fun _=>hn1) ?_
     conv=>whnf
     refine cO (fun _=>hn2) ?_
     conv=>whnf
     refine cO (fun _=>hu) ?_
     conv=>whnf
     refine ⟨fun _=>?_,fun hx=>absurd hx (by simp)⟩
     conv=>whnf
     rw [show rightI x=false by simp only [rightI,headB,oneB,twoB,hb1,Bool.and_false,Bool.false_and]]
     rfl
    | true =>
     refine gT ?_
     conv=>whnf
     refine cO (fun _=>in2_ok 0 1000 x.notice x.sink) ?_
     conv=>whnf
     cases hb2:inB 0 1000 [x.notice,x.sink] with
     | false =>
      refine gF ?_
      conv=>whnf
      refine cF [.int .i64 1,.int .i64 1000,.undef] [.val (.bool false)] ?_
      conv=>whnf
      refine cO (fun _=>hn1) ?_
      conv=>whnf
      refine cO (fun _=>hn2) ?_
      conv=>whnf
      refine cO (fun _=>hu) ?_
      conv=>whnf
      refine ⟨fun _=>?_,fun hx=>absurd hx (by simp)⟩
      conv=>whnf
      rw [show rightI x=false by simp only [rightI,headB,oneB,twoB,hb2,Bool.and_false,Bool.false_and]]
      rfl
     | true =>
      refine gT ?_
      conv=>whnf
      refine cO (fun _=>in2_ok 1 1000 x.majority x.fast) ?_
      conv=>whnf
      refine cO (fun _=>hn1) ?_
      conv=>whnf
      refine cO (fun _=>hn2) ?_
      conv=>whnf
      refine cO (fun _=>hu) ?_
      conv=>whnf
      refine ⟨fun _=>?_,fun hx=>absurd hx (by simp)⟩
      conv=>whnf
      rw [show rightI x=false by simp only [rightI,headB,oneB,twoB,ha1,Bool.and_false,Bool.false_and]]
      rfl
  | true =>
   refine gT ?_
   conv=>whnf
   refine cO (fun _=>in1_ok 0 2 x.count) ?_
   conv=>whnf
   cases ha2:inB 0 2 [x.count] with
   | false =>
    refine gF ?_
    conv=>whnf
    refine cF [.int .i64 0,.int .i64 3,.undef] [.val (.bool false)] ?_
    conv=>whnf
    refine gF ?_
    conv=>whnf
    refine cF [.int .i64 0,.int .i64 100,.undef] [.val (.bool false)] ?_
    conv=>whnf
    refine gF ?_
    conv=>whnf
    refine cF [.int .i64 0,.int .i64 9,.undef] [.val (.bool false)] ?_
    conv=>whnf
    refine cO (fun _=>in1_ok 0 10000 x.cap) ?_
    conv=>whnf
    cases hb0:inB 0 10000 [x.cap] with
    | false =>
     refine gF ?_
     conv=>whnf
     refine cF [.int .i64 (-1),.int .i64 1000000000000000,.undef] [.val (.bool false)] ?_
     conv=>whnf
     refine gF ?_
     conv=>whnf
     refine cF [.int .i64 0,.int .i64 1000,.undef] [.val (.bool false)] ?_
     conv=>whnf
     refine gF ?_
     conv=>whnf
     refine cF [.int .i64 1,.int .i64 1000,.undef] [.val (.bool false)] ?_
     conv=>whnf
     refine cO (fun _=>hn1) ?_
     conv=>whnf
     refine cO (fun _=>hn2) ?_
     conv=>whnf
     refine cO (fun _=>hu) ?_
     conv=>whnf
     refine ⟨fun _=>?_,fun hx=>absurd hx (by simp)⟩
     conv=>whnf
     rw [show rightI x=false by simp only [rightI,headB,oneB,twoB,hb0,Bool.and_false,Bool.false_and]]
     rfl
    | true =>
     refine gT ?_
     conv=>whnf
     refine cO (fun _=>in1_ok (-1) 1000000000000000 x.cross) ?_
     conv=>whnf
     cases hb1:inB (-1) 1000000000000000 [x.cross] with
     | false =>
      refine gF ?_
      conv=>whnf
      refine cF [.int .i64 0,.int .i64 1000,.undef] [.val (.bool false)] ?_
      conv=>whnf
      refine gF ?_
      conv=>whnf
      refine cF [.int .i64 1,.int .i64 1000,.undef] [.val (.bool false)] ?_
      conv=>whnf
      refine cO (fun _=>hn1) ?_
      conv=>whnf
      refine cO (fun _=>hn2) ?_
      conv=>whnf
      refine cO (fun _=>hu) ?_
      conv=>whnf
      refine ⟨fun _=>?_,fun hx=>absurd hx (by simp)⟩
      conv=>whnf
      rw [show rightI x=false by simp only [rightI,headB,oneB,twoB,hb1,Bool.and_false,Bool.false_and]]
      rfl
     | true =>
      refine gT ?_
      conv=>whnf
      refine cO (fun _=>in2_ok 0 1000 x.notice x.sink) ?_
      conv=>whnf
      cases hb2:inB 0 1000 [x.notice,x.sink] with
      | false =>
       refine gF ?_
       conv=>whnf
       refine cF [.int .i64 1,.int .i64 1000,.undef] [.val (.bool false)] ?_
       conv=>whnf
       refine cO (fun _=>hn1) ?_
       conv=>whnf
       refine cO (fun _=>hn2) ?_
       conv=>whnf
       refine cO (fun _=>hu) ?_
       conv=>whnf
       refine ⟨fun _=>?_,fun hx=>absurd hx (by simp)⟩
       conv=>whnf
       rw [show rightI x=false by simp only [rightI,headB,oneB,twoB,hb2,Bool.and_false,Bool.false_and]]
       rfl
      | true =>
       refine gT ?_
       conv=>whnf
       refine cO (fun _=>in2_ok 1 1000 x.majority x.fast) ?_
       conv=>whnf
       refine cO (fun _=>hn1) ?_
       conv=>whnf
       refine cO (fun _=>hn2) ?_
       conv=>whnf
       refine cO (fun _=>hu) ?_
       conv=>whnf
       refine ⟨fun _=>?_,fun hx=>absurd hx (by simp)⟩
       conv=>whnf
       rw [show rightI x=false by simp only [rightI,headB,oneB,twoB,ha2,Bool.and_false,Bool.false_and]]
       rfl
   | true =>
    refine gT ?_
    conv=>whnf
    refine cO (fun _=>in1_ok 0 3 x.adjust) ?_
    conv=>whnf
    cases ha3:inB 0 3 [x.adjust] with
    | false =>
     refine gF ?_
     conv=>whnf
     refine cF [.int .i64 0,.int .i64 100,.undef] [.val (.bool false)] ?_
     conv=>whnf
     refine gF ?_
     conv=>whnf
     refine cF [.int .i64 0,.int .i64 9,.undef] [.val (.bool false)] ?_
     conv=>whnf
     refine cO (fun _=>in1_ok 0 10000 x.cap) ?_
     conv=>whnf
     cases hb0:inB 0 10000 [x.cap] with
     | false =>
      refine gF ?_
      conv=>whnf
      refine cF [.int .i64 (-1),.int .i64 1000000000000000,.undef] [.val (.bool false)] ?_
      conv=>whnf
      refine gF ?_
      conv=>whnf
      refine cF [.int .i64 0,.int .i64 1000,.undef] [.val (.bool false)] ?_
      conv=>whnf
      refine gF ?_
      conv=>whnf
      refine cF [.int .i64 1,.int .i64 1000,.undef] [.val (.bool false)] ?_
      conv=>whnf
      refine cO (fun _=>hn1) ?_
      conv=>whnf
      refine cO (fun _=>hn2) ?_
      conv=>whnf
      refine cO (fun _=>hu) ?_
      conv=>whnf
      refine ⟨fun _=>?_,fun hx=>absurd hx (by simp)⟩
      conv=>whnf
      rw [show rightI x=false by simp only [rightI,headB,oneB,twoB,hb0,Bool.and_false,Bool.false_and]]
      rfl
     | true =>
      refine gT ?_
      conv=>whnf
      refine cO (fun _=>in1_ok (-1) 1000000000000000 x.cross) ?_
      conv=>whnf
      cases hb1:inB (-1) 1000000000000000 [x.cross] with
      | false =>
       refine gF ?_
       conv=>whnf
       refine cF [.int .i64 0,.int .i64 1000,.undef] [.val (.bool false)] ?_
       conv=>whnf
       refine gF ?_
       conv=>whnf
       refine cF [.int .i64 1,.int .i64 1000,.undef] [.val (.bool false)] ?_
       conv=>whnf
       refine cO (fun _=>hn1) ?_
       conv=>whnf
       refine cO (fun _=>hn2) ?_
       conv=>whnf
       refine cO (fun _=>hu) ?_
       conv=>whnf
       refine ⟨fun _=>?_,fun hx=>absurd hx (by simp)⟩
       conv=>whnf
       rw [show rightI x=false by simp only [rightI,headB,oneB,twoB,hb1,Bool.and_false,Bool.false_and]]
       rfl
      | true =>
       refine gT ?_
       conv=>whnf
       refine cO (fun _=>in2_ok 0 1000 x.notice x.sink) ?_
       conv=>whnf
       cases hb2:inB 0 1000 [x.notice,x.sink] with
       | false =>
        refine gF ?_
        conv=>whnf
        refine cF [.int .i64 1,.int .i64 1000,.undef] [.val (.bool false)] ?_
        conv=>whnf
        refine cO (fun _=>hn1) ?_
        conv=>whnf
        refine cO (fun _=>hn2) ?_
        conv=>whnf
        refine cO (fun _=>hu) ?_
        conv=>whnf
        refine ⟨fun _=>?_,fun hx=>absurd hx (by simp)⟩
        conv=>whnf
        rw [show rightI x=false by simp only [rightI,headB,oneB,twoB,hb2,Bool.and_false,Bool.false_and]]
        rfl
       | true =>
        refine gT ?_
        conv=>whnf
        refine cO (fun _=>in2_ok 1 1000 x.majority x.fast) ?_
        conv=>whnf
        refine cO (fun _=>hn1) ?_
        conv=>whnf
        refine cO (fun _=>hn2) ?_
        conv=>whnf
        refine cO (fun _=>hu) ?_
        conv=>whnf
        refine ⟨fun _=>?_,fun hx=>absurd hx (by simp)⟩
        conv=>whnf
        rw [show rightI x=false by simp only [rightI,headB,oneB,twoB,ha3,Bool.and_false,Bool.false_and]]
        rfl
    | true =>
     refine gT ?_
     conv=>whnf
     refine cO (fun _=>in1_ok 0 100 x.record) ?_
     conv=>whnf
     cases ha4:inB 0 100 [x.record] with
     | false =>
      refine gF ?_
      conv=>whnf
      refine cF [.int .i64 0,.int .i64 9,.undef] [.val (.bool false)] ?_
      conv=>whnf
      refine cO (fun _=>in1_ok 0 10000 x.cap) ?_
      conv=>whnf
      cases hb0:inB 0 10000 [x.cap] with
      | false =>
       refine gF ?_
       conv=>whnf
       refine cF [.int .i64 (-1),.int .i64 1000000000000000,.undef] [.val (.bool false)] ?_
       conv=>whnf
       refine gF ?_
       conv=>whnf
       refine cF [.int .i64 0,.int .i64 1000,.undef] [.val (.bool false)] ?_
       conv=>whnf
       refine gF ?_
       conv=>whnf
       refine cF [.int .i64 1,.int .i64 1000,.undef] [.val (.bool false)] ?_
       conv=>whnf
       refine cO (fun _=>hn1) ?_
       conv=>whnf
       refine cO (fun _=>hn2) ?_
       conv=>whnf
       refine cO (fun _=>hu) ?_
       conv=>whnf
       refine ⟨fun _=>?_,fun hx=>absurd hx (by simp)⟩
       conv=>whnf
       rw [show rightI x=false by simp only [rightI,headB,oneB,twoB,hb0,Bool.and_false,Bool.false_and]]
       rfl
      | true =>
       refine gT ?_
       conv=>whnf
       refine cO (fun _=>in1_ok (-1) 1000000000000000 x.cross) ?_
       conv=>whnf
       cases hb1:inB (-1) 1000000000000000 [x.cross] with
       | false =>
        refine gF ?_
        conv=>whnf
        refine cF [.int .i64 0,.int .i64 1000,.undef] [.val (.bool false)] ?_
        conv=>whnf
        refine gF ?_
        conv=>whnf
        refine cF [.int .i64 1,.int .i64 1000,.undef] [.val (.bool false)] ?_
        conv=>whnf
        refine cO (fun _=>hn1) ?_
        conv=>whnf
        refine cO (fun _=>hn2) ?_
        conv=>whnf
        refine cO (fun _=>hu) ?_
        conv=>whnf
        refine ⟨fun _=>?_,fun hx=>absurd hx (by simp)⟩
        conv=>whnf
        rw [show rightI x=false by simp only [rightI,headB,oneB,twoB,hb1,Bool.and_false,Bool.false_and]]
        rfl
       | true =>
        refine gT ?_
        conv=>whnf
        refine cO (fun _=>in2_ok 0 1000 x.notice x.sink) ?_
        conv=>whnf
        cases hb2:inB 0 1000 [x.notice,x.sink] with
        | false =>
         refine gF ?_
         conv=>whnf
         refine cF [.int .i64 1,.int .i64 1000,.undef] [.val (.bool false)] ?_
         conv=>whnf
         refine cO (fun _=>hn1) ?_
         conv=>whnf
         refine cO (fun _=>hn2) ?_
         conv=>whnf
         refine cO (fun _=>hu) ?_
         conv=>whnf
         refine ⟨fun _=>?_,fun hx=>absurd hx (by simp)⟩
         conv=>whnf
         rw [show rightI x=false by simp only [rightI,headB,oneB,twoB,hb2,Bool.and_false,Bool.false_and]]
         rfl
        | true =>
         refine gT ?_
         conv=>whnf
         refine cO (fun _=>in2_ok 1 1000 x.majority x.fast) ?_
         conv=>whnf
         refine cO (fun _=>hn1) ?_
         conv=>whnf
         refine cO (fun _=>hn2) ?_
         conv=>whnf
         refine cO (fun _=>hu) ?_
         conv=>whnf
         refine ⟨fun _=>?_,fun hx=>absurd hx (by simp)⟩
         conv=>whnf
         rw [show rightI x=false by simp only [rightI,headB,oneB,twoB,ha4,Bool.and_false,Bool.false_and]]
         rfl
     | true =>
      refine gT ?_
      conv=>whnf
      refine cO (fun _=>in1_ok 0 9 x.rank) ?_
      conv=>whnf
      refine cO (fun _=>in1_ok 0 10000 x.cap) ?_
      conv=>whnf
      cases hb0:inB 0 10000 [x.cap] with
      | false =>
       refine gF ?_
       conv=>whnf
       refine cF [.int .i64 (-1),.int .i64 1000000000000000,.undef] [.val (.bool false)] ?_
       conv=>whnf
       refine gF ?_
       conv=>whnf
       refine cF [.int .i64 0,.int .i64 1000,.undef] [.val (.bool false)] ?_
       conv=>whnf
       refine gF ?_
       conv=>whnf
       refine cF [.int .i64 1,.int .i64 1000,.undef] [.val (.bool false)] ?_
       conv=>whnf
       refine cO (fun _=>hn1) ?_
       conv=>whnf
       refine cO (fun _=>hn2) ?_
       conv=>whnf
       refine cO (fun _=>hu) ?_
       conv=>whnf
       refine ⟨fun _=>?_,fun hx=>absurd hx (by simp)⟩
       conv=>whnf
       rw [show rightI x=false by simp only [rightI,headB,oneB,twoB,hb0,Bool.and_false,Bool.false_and]]
       rfl
      | true =>
       refine gT ?_
       conv=>whnf
       refine cO (fun _=>in1_ok (-1) 1000000000000000 x.cross) ?_
       conv=>whnf
       cases hb1:inB (-1) 1000000000000000 [x.cross] with
       | false =>
        refine gF ?_
        conv=>whnf
        refine cF [.int .i64 0,.int .i64 1000,.undef] [.val (.bool false)] ?_
        conv=>whnf
        refine gF ?_
        conv=>whnf
        refine cF [.int .i64 1,.int .i64 1000,.undef] [.val (.bool false)] ?_
        conv=>whnf
        refine cO (fun _=>hn1) ?_
        conv=>whnf
        refine cO (fun _=>hn2) ?_
        conv=>whnf
        refine cO (fun _=>hu) ?_
        conv=>whnf
        refine ⟨fun _=>?_,fun hx=>absurd hx (by simp)⟩
        conv=>whnf
        rw [show rightI x=false by simp only [rightI,headB,oneB,twoB,hb1,Bool.and_false,Bool.false_and]]
        rfl
       | true =>
        refine gT ?_
        conv=>whnf
        refine cO (fun _=>in2_ok 0 1000 x.notice x.sink) ?_
        conv=>whnf
        cases hb2:inB 0 1000 [x.notice,x.sink] with
        | false =>
         refine gF ?_
         conv=>whnf
         refine cF [.int .i64 1,.int .i64 1000,.undef] [.val (.bool false)] ?_
         conv=>whnf
         refine cO (fun _=>hn1) ?_
         conv=>whnf
         refine cO (fun _=>hn2) ?_
         conv=>whnf
         refine cO (fun _=>hu) ?_
         conv=>whnf
         refine ⟨fun _=>?_,fun hx=>absurd hx (by simp)⟩
         conv=>whnf
         rw [show rightI x=false by simp only [rightI,headB,oneB,twoB,hb2,Bool.and_false,Bool.false_and]]
         rfl
        | true =>
         refine gT ?_
         conv=>whnf
         refine cO (fun _=>in2_ok 1 1000 x.majority x.fast) ?_
         conv=>whnf
         refine cO (fun _=>hn1) ?_
         conv=>whnf
         refine cO (fun _=>hn2) ?_
         conv=>whnf
         refine cO (fun _=>hu) ?_
         conv=>whnf
         refine ⟨fun hh=>?_,fun hh=>?_⟩
         ·have hB:headB x=false:=by
           cases hB:headB x with
           | false=>rfl
           | true =>
            simp only [headB,datesB,oneB,twoB,Bool.and_eq_true,decide_eq_true_eq] at hB
            obtain ⟨⟨⟨⟨⟨⟨⟨d1,d2⟩,o1⟩,t1⟩,n1⟩,n2⟩,c1⟩,f1⟩:=hB
            rw [d1,o1.2,t1.2,n1,n2,f1] at hh
            simp at hh
            omega
          conv=>whnf
          rw [show rightI x=false by simp only [rightI,hB,Bool.false_and]]
          rfl
         have hB:headB x=true:=by
          simp only [Bool.or_eq_false_iff,Bool.not_eq_false',Bool.and_eq_true,decide_eq_true_eq,decide_eq_false_iff_not] at hh
          obtain ⟨⟨⟨⟨⟨⟨⟨d1,d2⟩,o1⟩,t1⟩,n1⟩,n2⟩,c1⟩,f1⟩:=hh
          simp only [headB,datesB,oneB,twoB,ha0,ha1,ha2,ha3,ha4,hb0,hb1,hb2,d1,o1.2,t1.2,n1,n2,f1,Bool.and_true,decide_eq_true_eq,Bool.and_eq_true]
          exact ⟨⟨trivial,d2⟩,by omega⟩
         conv=>whnf
         have hlets:=hx.lets
         refine loop_up (cxOk _ _) x.lets.length (fun _=>True) (fun k=>⟨[(1,.ptr 0 0),(2,.bool false),(6,.own 1),(7,.nils),(121,.sl 6 encL l0 x.lets),(122,.int .i64 (x.lets.length:Nat)),(123,.int .i64 (k:Nat))],[(0,.cells 31 (celX x)),(1,.row 9 1 encS [] ((x.lets.take k).map LetE.name))],2⟩) trivial ((wk_of [(0,.id 0),(1,.nil)] rfl ⟨wb0,wa0,ae0,wa0,wa0,wa0,wa0,trivial⟩ ⟨wc0,⟨_,rfl,ag0⟩,trivial⟩)) ?_
         intro k hk _
         conv=>whnf
         refine ⟨fun hd=>?_,fun hd=>?_⟩
         ·have hd:=of_decide_eq_true hd
          have hlt:k<x.lets.length:=by omega
          have hek:(k:Int).toNat=k:=Int.toNat_natCast k
          conv=>whnf
          refine iO ?_;conv=>whnf
          refine And.intro rfl ?_;conv=>whnf
          refine And.intro rfl ?_;conv=>whnf
          rw [hek]
          conv=>whnf
          refine And.intro ⟨rfl,rfl⟩ (And.intro (by show ((List.map LetE.name (List.take k x.lets)).length+1)*16≤140737488355328;rw [List.length_map,List.length_take];omega) ?_)
          conv=>whnf
          refine Exists.intro _ (And.intro rfl ?_);conv=>whnf
          refine iO ?_;conv=>whnf
          refine up hlt trivial ((wk_of [(0,.id 0),(1,.id 4)] rfl ⟨wb0,wa0,ae0,wa0,wa0,wa0,wa0,trivial⟩ ⟨wc0,⟨_,rfl,(by first | exact .row _ _ _ _ _ _ _ rfl (by rw [take_getD (d:=l0) hlt,List.map_append];rfl) | exact .lstrow _ _ _ _ _ _ _ rfl (by rw [take_getD (d:=l0) hlt,List.map_append];rfl) | exact .nilrow _ _ _ _ _ (by rw [take_getD (d:=l0) hlt,List.map_append];rfl) | exact .truncrow _ _ _ _ _ _ _ _ rfl (by omega) (by rw [take_getD (d:=l0) hlt,List.map_append];rfl))⟩,trivial⟩))
         have hd:=of_decide_eq_false hd
         obtain rfl:k=x.lets.length:=by omega
         conv=>whnf
         have hcov:=hx.cov
         rw [List.take_length]
         refine loop_up (cxOk _ _) x.cov.length (fun _=>True) (fun k=>⟨[(1,.ptr 0 0),(2,.bool false),(6,.own 1),(7,.own 2),(134,.sl 7 encC c0 x.cov),(135,.int .i64 (x.cov.length:Nat)),(136,.int .i64 (k:Nat))],[(0,.cells 31 (celX x)),(1,.row 9 1 encS [] (x.lets.map LetE.name)),(2,.row 9 1 encS [] ((x.cov.take k).map Cov.name))],3⟩) trivial ((wk_of [(0,.id 0),(1,.id 1),(2,.nil)] rfl ⟨wb0,wa0,ae0,ae0,wa0,wa0,wa0,trivial⟩ ⟨wc0,⟨_,rfl,ag0⟩,⟨_,rfl,ag0⟩,trivial⟩)) ?_
         intro k hk _
         conv=>whnf
         refine ⟨fun hd=>?_,fun hd=>?_⟩
         ·have hd:=of_decide_eq_true hd
          have hlt:k<x.cov.length:=by omega
          have hek:(k:Int).toNat=k:=Int.toNat_natCast k
          conv=>whnf
          refine iO ?_;conv=>whnf
          refine And.intro rfl ?_;conv=>whnf
          refine And.intro rfl ?_;conv=>whnf
          rw [hek]
          conv=>whnf
          refine And.intro ⟨rfl,rfl⟩ (And.intro (by show ((List.map Cov.name (List.take k x.cov)).length+1)*16≤140737488355328;rw [List.length_map,List.length_take];omega) ?_)
          conv=>whnf
          refine Exists.intro _ (And.intro rfl ?_);conv=>whnf
          refine iO ?_;conv=>whnf
          refine up hlt trivial ((wk_of [(0,.id 0),(1,.id 1),(2,.id 5)] rfl ⟨wb0,wa0,ae0,ae0,wa0,wa0,wa0,trivial⟩ ⟨wc0,⟨_,rfl,ag0⟩,⟨_,rfl,(by first | exact .row _ _ _ _ _ _ _ rfl (by rw [take_getD (d:=c0) hlt,List.map_append];rfl) | exact .lstrow _ _ _ _ _ _ _ rfl (by rw [take_getD (d:=c0) hlt,List.map_append];rfl) | exact .nilrow _ _ _ _ _ (by rw [take_getD (d:=c0) hlt,List.map_append];rfl) | exact .truncrow _ _ _ _ _ _ _ _ rfl (by omega) (by rw [take_getD (d:=c0) hlt,List.map_append];rfl))⟩,trivial⟩))
         have hd:=of_decide_eq_false hd
         obtain rfl:k=x.cov.length:=by omega
         conv=>whnf
         rw [List.take_length]
         have u1:=uniq_ok (x.lets.map LetE.name) 20 (by rw [List.length_map];omega) (by
          intro s hs
          obtain ⟨l,hl,rfl⟩:=List.mem_map.1 hs
          exact (hx.let1 l hl).1)
         have u2:=uniq_ok (x.cov.map Cov.name) 20 (by rw [List.length_map];omega) (by
          intro s hs
          obtain ⟨l,hl,rfl⟩:=List.mem_map.1 hs
          exact (hx.cov1 l hl).1)
         have re:=rightexp_ok x.coupon hx.coupon
         have a1:=anyL_ok x.lets 75 (fun l=>!letR l) (fun l hl=>letr_ok l (hx.let1 l hl).2) (by omega)
         have a2:=anyC_ok x.cov 77 (fun l=>!covR l) (fun l hl=>covr_ok l (hx.cov1 l hl).2.1) (by omega)
         have a3:=anyK_ok x.calls 79 (fun l=>!callR l) (fun l _=>callr_ok l) hx.calls
         refine cO (fun _=>u1) ?_
         conv=>whnf
         refine cO (fun _=>u2) ?_
         conv=>whnf
         refine cO (fun _=>re) ?_
         conv=>whnf
         refine ⟨fun hr=>?_,fun hr=>?_⟩
         ·have hR:restB x=false:=by
           simp only [Bool.or_eq_true,Bool.not_eq_true'] at hr
           unfold restB
           rcases hr with (hr | hr) | hr<;>rw [hr]<;>simp
          conv=>whnf
          rw [show rightI x=false by simp only [rightI,hR,Bool.and_false]]
          rfl
         ·have hR:rightI x=(!((x.lets.any fun l=>!letR l)||(x.cov.any fun l=>!covR l))&&!(x.calls.any fun l=>!callR l)):=by
           simp only [Bool.or_eq_false_iff,Bool.not_eq_false'] at hr
           simp only [rightI,restB,hB,hr.1.1,hr.1.2,hr.2,Bool.true_and,List.all_eq_not_any_not,Bool.not_or]
          rw [hR]
          conv=>whnf
          refine cO (fun _=>a1) ?_
          conv=>whnf
          refine cO (fun _=>a2) ?_
          conv=>whnf
          refine cO (fun _=>a3) ?_
          conv=>whnf
          rfl
open Go.Proofs Go.Shelf Go.RowKit
theorem Tryz.sizeB:(Tryz.prog.info? 76).map (·.size)=some 2:=by kernel_rfl
theorem Tryz.liesB:liesAt Tryz.prog Tryz.prog.depth 76 (2 / Tryz.prog.cellsOf 76) 0 76 1=true:=by kernel_rfl
theorem Tryz.mixedO:Tryz.prog.follows .mixedOrders=true:=by kernel_rfl
set_option maxHeartbeats 1000000 in
set_option maxRecDepth 100000 in
theorem Tryz.copy_used_calls (b:Nat) (w:World) (h0:w.cell? ⟨b,0,none⟩=some (.pointer (some ⟨b,0,none⟩))) :
  Calls Tryz.prog 80 #[.pointer (some ⟨b,0,none⟩)] w fun e w'=>e=.returned (.tuple #[])∧w'=w:=by
 obtain ⟨j,hj,_⟩:=Option.map_eq_some_iff.1 Tryz.sizeB
 have mixed:=Tryz.mixedO
 go_enter Tryz.func80,Tryz.ntmps80
 go_wp2
 rw [Lib.run_neq_ptr_same w _ Tryz.underlying73 hj]
 go_wp2
 go_end0
 exact ⟨rfl,rfl⟩
set_option maxHeartbeats 1000000 in
set_option maxRecDepth 100000 in
theorem Tryz.copy_fresh_calls (b:Nat) (w:World) (h0:w.cell? ⟨b,0,none⟩=some (.pointer none)) (hsh:w.shape? b=some (76,2)) (hfz:w.frozen? ⟨b,0,none⟩=false) :
  Calls Tryz.prog 80 #[.pointer (some ⟨b,0,none⟩)] w fun e w'=>e=.returned (.tuple #[])∧w'=w.setCell ⟨b,0,none⟩ (.pointer (some ⟨b,0,none⟩)):=by
 obtain ⟨j,hj,hjs⟩:=Option.map_eq_some_iff.1 Tryz.sizeB
 have mixed:=Tryz.mixedO
 go_enter Tryz.func80,Tryz.ntmps80
 go_wp2
 rw [Lib.run_to_unsafe w ⟨b,0,none⟩ Tryz.underlying73 Tryz.underlying159 hj (by rw [hjs];decide) hsh (Nat.zero_lt_succ 1)]
 simp only [Result.andThen]
 rw [Oper.upon_value]
 go_wp2
 rw [run_callFunc_extern Tryz.func128 (by kernel_rfl) (by kernel_rfl) (by kernel_rfl) (e:=Extern.AbiNoEscape.same) (by kernel_rfl)]
 rw [Lib.run_noEscape]
 simp only [Result.andThen]
 rw [Oper.upon_value]
 go_wp2
 rw [Lib.run_from_unsafe w ⟨b,0,none⟩ Tryz.underlying159 Tryz.underlying73 hj hsh Tryz.liesB]
 simp only [Result.andThen]
 rw [Oper.upon_value]
 go_wp2
 go_end0
 exact ⟨rfl,rfl⟩
theorem fnOk80:FnOk Tryz.prog 80:=⟨_,Tryz.func80,rfl,by decide⟩
theorem write_first (s:List UInt8) (hs:s.length≤140737488355328) :
  RIO Tryz.prog 38 [.ptr 0 0,.str s] [.cells 76 [.nilp,.nils]] 1 (fun vs bs es=>vs=[.int .i64 s.length,.ifc true]∧bs=[.cells 76 [.ptr 0 0,.own 1]]∧es=[.lst 5 1 (strAVs s)]):=by
 refine rO (cxPOk 1 19 [0,1,4,5]) Tryz.func38 ?_
 conv=>whnf
 refine .raw _ _ rfl (fun h=>by cases h) (copy_fresh (e:=76) (x:=.nils) Tryz.copy_fresh_calls fnOk80 rfl) ?_
 rintro r rfl
 refine ⟨Nat.le_refl _,?_⟩
 conv=>whnf
 refine ⟨hs,?_⟩
 conv=>whnf
 refine ⟨_,Wk.refl _,rfl,rfl,?_⟩
 conv=>whnf
 exact ⟨rfl,rfl,rfl,rfl⟩
theorem write_more (b s:List UInt8) (hs:b.length+s.length≤140737488355328) :
  RIO Tryz.prog 38 [.ptr 0 0,.str s] [.cells 76 [.ptr 0 0,.own 1],.lst 5 1 (strAVs b)] 1 (fun vs bs es=>vs=[.int .i64 s.length,.ifc true]∧bs=[.cells 76 [.ptr 0 0,.own 1]]∧es=[.lst 5 1 (strAVs (b++s))]):=by
 refine rO (cxPOk 1 19 [0,1,4,5]) Tryz.func38 ?_
 conv=>whnf
 refine .raw _ _ rfl (fun h=>by cases h) (copy_used (e:=76) (x:=.own 1) Tryz.copy_used_calls fnOk80 rfl) ?_
 rintro r rfl
 refine ⟨Nat.le_refl _,?_⟩
 conv=>whnf
 refine ⟨⟨rfl,rfl⟩,by rw [strAVs_len];exact hs,?_⟩
 conv=>whnf
 refine ⟨⟨[(4,.int .i64 s.length),(5,.ifc true)],[(0,.cells 76 [.ptr 0 0,.own 1]),(1,.lst 5 1 (strAVs (b++s)))],2⟩,(wk_of [(0,.id 0),(1,.id 2)] rfl ⟨wa0,wa0,trivial⟩ ⟨wc0,⟨_,rfl,.lst _ _ _ _ _ rfl ((strAVs_append b s).symm)⟩,trivial⟩),rfl,rfl,?_⟩
 conv=>whnf
 exact ⟨rfl,rfl,rfl,rfl⟩
theorem string_of (b:List UInt8) (hb:b≠[]):RIO Tryz.prog 46 [.ptr 0 0] [.cells 76 [.ptr 0 0,.own 1],.lst 5 1 (strAVs b)] 0 (fun vs bs es=>vs=[.str b]∧bs=[]∧es=[]):=by
 have hb1:0<(strAVs b).length:=by rw [strAVs_len];exact List.length_pos_iff.2 hb
 refine rO (cxPOk 0 14 [0,2]) Tryz.func46 ?_
 conv=>whnf
 refine .eff af0 ?_
 conv=>whnf
 refine ⟨hb1,?_⟩
 conv=>whnf
 refine ⟨⟨rfl,rfl⟩,hb1,rfl,b,rfl,?_⟩
 conv=>whnf
 refine ⟨by kernel_rfl,?_⟩
 conv=>whnf
 refine ⟨⟨[(2,.str b)],[],0⟩,(wk_of [] rfl ⟨wa0,trivial⟩ trivial),rfl,rfl,?_⟩
 conv=>whnf
 exact ⟨rfl,rfl,rfl,rfl⟩
def lineT (ws:List (List UInt8)):List UInt8:=Lib.join ws [32]++[32,59,10]
abbrev strL (ws:List (List UInt8)):List AV:=ws.map fun s=>AV.str s
theorem line_first (ws:List (List UInt8)) (hN:ws.length≤140737488355328) (hlen:(Lib.join ws [32]).length≤100000000000000) :
  RIO Tryz.prog 37 [.own 1,.ptr 0 0] [.cells 76 [.nilp,.nils],.lst 9 1 (strL ws)] 1
   (fun vs bs es=>vs=[]∧bs=[.cells 76 [.ptr 0 0,.own 1]]∧es=[.lst 5 1 (strAVs (lineT ws))]):=by
 have hj:=join_c ws [32] hN (by omega)
 unfold lineT
 generalize Lib.join ws [32]=J at *
 refine rO (cxPOk 1 7 [0,1]) Tryz.func37 ?_
 conv=>whnf
 refine cO (fun _=>hj) ?_
 conv=>whnf
 refine And.intro aa0 ?_
 conv=>whnf
 refine .raw _ _ rfl (fun h=>by cases h) (rio_at (write_first (J++[32,59,10]) (by simp;omega)) [0] rfl rfl rfl ai0) ?_
 rintro _ ⟨_,_,_,⟨rfl,rfl,rfl⟩,-,rfl⟩
 refine ⟨Nat.le_add_right _ _,?_⟩
 conv=>whnf
 refine ⟨⟨[(1,.ptr 0 0)],[(0,.cells 76 [.ptr 0 0,.own 1]),(1,.lst 5 1 (strAVs (J++[32,59,10])))],2⟩,(wk_of [(0,.id 0),(1,.id 2)] rfl ⟨wb0,trivial⟩ ⟨wc0,⟨_,rfl,.lst _ _ _ _ _ rfl rfl⟩,trivial⟩),rfl,rfl,?_⟩
 conv=>whnf
 exact ⟨rfl,rfl,rfl,rfl⟩
theorem line_more (b:List UInt8) (ws:List (List UInt8)) (hN:ws.length≤140737488355328) (hlen:b.length+(Lib.join ws [32]).length≤100000000000000) :
  RIO Tryz.prog 37 [.own 2,.ptr 0 0] [.cells 76 [.ptr 0 0,.own 1],.lst 5 1 (strAVs b),.lst 9 1 (strL ws)] 1
   (fun vs bs es=>vs=[]∧bs=[.cells 76 [.ptr 0 0,.own 1]]∧es=[.lst 5 1 (strAVs (b++lineT ws))]):=by
 have hj:=join_c ws [32] hN (by omega)
 unfold lineT
 generalize Lib.join ws [32]=J at *
 refine rO (cxPOk 1 7 [0,1]) Tryz.func37 ?_
 conv=>whnf
 refine cO (fun _=>hj) ?_
 conv=>whnf
 refine And.intro aa0 ?_
 conv=>whnf
 refine .raw _ _ rfl (fun h=>by cases h) (rio_at (write_more b (J++[32,59,10]) (by simp;omega)) [0,1] rfl rfl rfl ai0) ?_
 rintro _ ⟨_,_,_,⟨rfl,rfl,rfl⟩,-,rfl⟩
 refine ⟨Nat.le_add_right _ _,?_⟩
 conv=>whnf
 refine ⟨⟨[(1,.ptr 0 0)],[(0,.cells 76 [.ptr 0 0,.own 1]),(1,.lst 5 1 (strAVs (b++(J++[32,59,10]))))],2⟩,(wk_of [(0,.id 0),(1,.id 3)] rfl ⟨wb0,trivial⟩ ⟨wc0,⟨_,rfl,.lst _ _ _ _ _ rfl rfl⟩,trivial⟩),rfl,rfl,?_⟩
 conv=>whnf
 exact ⟨rfl,rfl,rfl,rfl⟩
theorem line_row (b:List UInt8) (ws:List (List UInt8)) (hN:ws.length≤140737488355328) (hlen:b.length+(Lib.join ws [32]).length≤100000000000000) :
  RIO Tryz.prog 37 [.own 2,.ptr 0 0] [.cells 76 [.ptr 0 0,.own 1],.lst 5 1 (strAVs b),.row 9 1 encS [] ws] 1
   (fun vs bs es=>vs=[]∧bs=[.cells 76 [.ptr 0 0,.own 1]]∧es=[.lst 5 1 (strAVs (b++lineT ws))]):=by
 have hj:APureV Tryz.prog 39 [.sl 1 encS [] ws,.str [32]] (.str (Lib.join ws [32])):=apure_args (join_c ws [32] hN (by omega)) (.cons LeT.sl_lsl (.cons (.refl _) .nil))
 unfold lineT
 generalize Lib.join ws [32]=J at *
 refine rO (cxPOk 1 7 [0,1]) Tryz.func37 ?_
 conv=>whnf
 refine cO (fun _=>hj) ?_
 conv=>whnf
 refine And.intro aa0 ?_
 conv=>whnf
 refine .raw _ _ rfl (fun h=>by cases h) (rio_at (write_more b (J++[32,59,10]) (by simp;omega)) [0,1] rfl rfl rfl ai0) ?_
 rintro _ ⟨_,_,_,⟨rfl,rfl,rfl⟩,-,rfl⟩
 refine ⟨Nat.le_add_right _ _,?_⟩
 conv=>whnf
 refine ⟨⟨[(1,.ptr 0 0)],[(0,.cells 76 [.ptr 0 0,.own 1]),(1,.lst 5 1 (strAVs (b++(J++[32,59,10]))))],2⟩,(wk_of [(0,.id 0),(1,.id 3)] rfl ⟨wb0,trivial⟩ ⟨wc0,⟨_,rfl,.lst _ _ _ _ _ rfl rfl⟩,trivial⟩),rfl,rfl,?_⟩
 conv=>whnf
 exact ⟨rfl,rfl,rfl,rfl⟩
end Go.Proofs.YtohankpncipefaaGreatDoor
