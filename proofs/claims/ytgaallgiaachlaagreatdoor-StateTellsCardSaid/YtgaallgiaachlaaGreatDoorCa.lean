import Derived.Test.YtgaallgiaachlaaGreatDoorProg
import Derived.Test.YtgaallgiaachlaaGreatDoorLc
import Derived.KernelRfl
import Derived.Shelf.Strconv.Itoa3
import Derived.Shelf.Strconv.AtoiAll
import Derived.Shelf.Small.Wraps
import Derived.Shelf.Small.Strs
import Derived.Ground.NamesProg
import Derived.Lib.ItoaLen
namespace Go.Proofs.YtgaallgiaachlaaGreatDoor
open Go.Own
def signs:List (List UInt8):=[[61,61],[59],[44],[61],[60],[43],[45],[42],[47],[40],[41]]
def isErr (cs:Array Value):Prop:=∃ te pe,cs[0]?=some (.iface te pe)
instance:Tabs:=⟨fun g=>match g with
 | 0=>some fun cs=>cs=(signs.map fun s=>Value.string ⟨s.toArray⟩).toArray
 | 2=>some isErr
 | 3=>some isErr
 | 4=>some fun cs=>cs=(Lib.pow10Tab.map fun z=>Value.int .u64 z).toArray
 | _=>none⟩
def tab:Tab:=[
 (3,{ desc:=.int .i64,size:=1,bytes:=8,zero:=.int .i64 0 }),
 (4,{ desc:=.bool,size:=1,bytes:=1,zero:=.bool false }),
 (5,{ desc:=.int .u8,size:=1,bytes:=1,zero:=.int .u8 0 }),
 (9,{ desc:=.string,size:=1,bytes:=16,zero:=.string ⟨#[]⟩ }),
 (20,{ desc:=.interface #[],size:=1,bytes:=16,zero:=.nilIface }),
 (22,{ desc:=.slice 3,size:=1,bytes:=24,zero:=.slice none 0 0 }),
 (23,{ desc:=.slice 47,size:=1,bytes:=24,zero:=.slice none 0 0 }),
 (24,{ desc:=.slice 41,size:=1,bytes:=24,zero:=.slice none 0 0 }),
 (25,{ desc:=.slice 43,size:=1,bytes:=24,zero:=.slice none 0 0 }),
 (26,{ desc:=.slice 64,size:=1,bytes:=24,zero:=.slice none 0 0 }),
 (28, { desc := .struct #[⟨ "Day",3,0,false, "", "",0⟩, ⟨ "Cash",22,1,false, "", "",8⟩, ⟨ "Purses",22,2,false, "", "",32⟩, ⟨ "Outside",3,3,false, "", "",56⟩, ⟨ "Lines",23,4,false, "", "",64⟩, ⟨ "Facts",24,5,false, "", "",88⟩, ⟨ "Payments",25,6,false, "", "",112⟩, ⟨ "Proposals",26,7,false, "", "",136⟩], size := 8, bytes := 160, zero := .agg #[.int .i64 0, .slice none 0 0, .slice none 0 0, .int .i64 0, .slice none 0 0, .slice none 0 0, .slice none 0 0, .slice none 0 0] }),
 (31,{ desc:=.int .i64,size:=1,bytes:=8,zero:=.int .i64 0 }),
 (41, { desc := .struct #[⟨ "Issuer",3,0,false, "", "",0⟩, ⟨ "Name",9,1,false, "", "",8⟩, ⟨ "Period",3,2,false, "", "",24⟩, ⟨ "Value",3,3,false, "", "",32⟩, ⟨ "Day",3,4,false, "", "",40⟩], size := 5, bytes := 48, zero := .agg #[.int .i64 0, .string ⟨#[]⟩, .int .i64 0, .int .i64 0, .int .i64 0] }),
 (43, { desc := .struct #[⟨ "Issue",3,0,false, "", "",0⟩, ⟨ "Seat",3,1,false, "", "",8⟩, ⟨ "Day",3,2,false, "", "",16⟩, ⟨ "Due",3,3,false, "", "",24⟩, ⟨ "Paid",3,4,false, "", "",32⟩, ⟨ "Period",3,5,false, "", "",40⟩], size := 6, bytes := 48, zero := .agg #[.int .i64 0, .int .i64 0, .int .i64 0, .int .i64 0, .int .i64 0, .int .i64 0] }),
 (45,{ desc:=.slice 61,size:=1,bytes:=24,zero:=.slice none 0 0 }),
 (47, { desc := .struct #[⟨ "Text",9,0,false, "", "",0⟩, ⟨ "Units",22,1,false, "", "",16⟩, ⟨ "Noted",22,2,false, "", "",40⟩, ⟨ "NotedAt",3,3,false, "", "",64⟩, ⟨ "Stages",45,4,false, "", "",72⟩, ⟨ "Fast",3,5,false, "", "",96⟩, ⟨ "Called",3,6,false, "", "",104⟩, ⟨ "Price",3,7,false, "", "",112⟩, ⟨ "Ended",4,8,false, "", "",120⟩, ⟨ "Since",3,9,false, "", "",128⟩], size := 10, bytes := 136, zero := .agg #[.string ⟨#[]⟩, .slice none 0 0, .slice none 0 0, .int .i64 0, .slice none 0 0, .int .i64 0, .int .i64 0, .int .i64 0, .bool false, .int .i64 0] }),
 (48,{ desc:=.slice 223,size:=1,bytes:=24,zero:=.slice none 0 0 }),
 (49,{ desc:=.slice 51,size:=1,bytes:=24,zero:=.slice none 0 0 }),
 (51, { desc := .struct #[⟨ "Op",3,0,false, "", "",0⟩, ⟨ "N",3,1,false, "", "",8⟩, ⟨ "Unit",3,2,false, "", "",16⟩, ⟨ "S",9,3,false, "", "",24⟩, ⟨ "Args",49,4,false, "", "",40⟩], size := 5, bytes := 64, zero := .agg #[.int .i64 0, .int .i64 0, .int .i64 0, .string ⟨#[]⟩, .slice none 0 0] }),
 (52,{ desc:=.slice 227,size:=1,bytes:=24,zero:=.slice none 0 0 }),
 (53,{ desc:=.slice 9,size:=1,bytes:=24,zero:=.slice none 0 0 }),
 (54,{ desc:=.slice 229,size:=1,bytes:=24,zero:=.slice none 0 0 }),
 (56, { desc := .struct #[⟨ "Name",9,0,false, "", "",0⟩, ⟨ "Issuer",9,1,false, "", "",16⟩, ⟨ "Face",3,2,false, "", "",32⟩, ⟨ "From",3,3,false, "", "",40⟩, ⟨ "To",3,4,false, "", "",48⟩, ⟨ "Every",3,5,false, "", "",56⟩, ⟨ "Count",3,6,false, "", "",64⟩, ⟨ "Adjust",3,7,false, "", "",72⟩, ⟨ "Record",3,8,false, "", "",80⟩, ⟨ "Rank",3,9,false, "", "",88⟩, ⟨ "Lets",48,10,false, "", "",96⟩, ⟨ "Coupon",51,11,false, "", "",120⟩, ⟨ "Cap",3,16,false, "", "",184⟩, ⟨ "Covenants",52,17,false, "", "",192⟩, ⟨ "Favour",53,18,false, "", "",216⟩, ⟨ "Cross",3,19,false, "", "",240⟩, ⟨ "Calls",54,20,false, "", "",248⟩, ⟨ "Notice",3,21,false, "", "",272⟩, ⟨ "Sink",3,22,false, "", "",280⟩, ⟨ "Majority",3,23,false, "", "",288⟩, ⟨ "Fast",3,24,false, "", "",296⟩], size := 25, bytes := 304, zero := .agg #[.string ⟨#[]⟩, .string ⟨#[]⟩, .int .i64 0, .int .i64 0, .int .i64 0, .int .i64 0, .int .i64 0, .int .i64 0, .int .i64 0, .int .i64 0, .slice none 0 0, .int .i64 0, .int .i64 0, .int .i64 0, .string ⟨#[]⟩, .slice none 0 0, .int .i64 0, .slice none 0 0, .slice none 0 0, .int .i64 0, .slice none 0 0, .int .i64 0, .int .i64 0, .int .i64 0, .int .i64 0] }),
 (61, { desc := .struct #[⟨ "Stage",3,0,false, "", "",0⟩, ⟨ "Since",3,1,false, "", "",8⟩], size := 2, bytes := 16, zero := .agg #[.int .i64 0, .int .i64 0] }),
 (62,{ desc:=.slice 66,size:=1,bytes:=24,zero:=.slice none 0 0 }),
 (64, { desc := .struct #[⟨ "Issue",3,0,false, "", "",0⟩, ⟨ "Text",9,1,false, "", "",8⟩, ⟨ "Day",3,2,false, "", "",24⟩, ⟨ "Units",22,3,false, "", "",32⟩, ⟨ "Votes",62,4,false, "", "",56⟩, ⟨ "Closed",4,5,false, "", "",80⟩], size := 6, bytes := 88, zero := .agg #[.int .i64 0, .string ⟨#[]⟩, .int .i64 0, .slice none 0 0, .slice none 0 0, .bool false] }),
 (66, { desc := .struct #[⟨ "Seat",3,0,false, "", "",0⟩, ⟨ "Day",3,1,false, "", "",8⟩, ⟨ "Yes",4,2,false, "", "",16⟩], size := 3, bytes := 24, zero := .agg #[.int .i64 0, .int .i64 0, .bool false] }),
 (69,{ desc:=.pointer 155,size:=1,bytes:=8,zero:=.pointer none }),
 (84,{ desc:=.pointer 164,size:=1,bytes:=8,zero:=.pointer none }),
 (95,{ desc:=.func #[3] #[4] false,size:=1,bytes:=8,zero:=.nilFunc }),
 (96,{ desc:=.func #[22] #[4] false,size:=1,bytes:=8,zero:=.nilFunc }),
 (99,{ desc:=.func #[61] #[4] false,size:=1,bytes:=8,zero:=.nilFunc }),
 (101,{ desc:=.func #[47] #[4] false,size:=1,bytes:=8,zero:=.nilFunc }),
 (102,{ desc:=.func #[43] #[4] false,size:=1,bytes:=8,zero:=.nilFunc }),
 (103,{ desc:=.func #[66] #[4] false,size:=1,bytes:=8,zero:=.nilFunc }),
 (105,{ desc:=.func #[64] #[4] false,size:=1,bytes:=8,zero:=.nilFunc }),
 (142,{ desc:=.pointer 47,size:=1,bytes:=8,zero:=.pointer none }),
 (144,{ desc:=.pointer 64,size:=1,bytes:=8,zero:=.pointer none }),
 (147,{ desc:=.pointer 183,size:=1,bytes:=8,zero:=.pointer none }),
 (151,{ desc:=.pointer 3,size:=1,bytes:=8,zero:=.pointer none }),
 (152,{ desc:=.pointer 31,size:=1,bytes:=8,zero:=.pointer none }),
 (155, { desc := .struct #[⟨ "rest",9,0,false, "", "consol/wire",0⟩, ⟨ "bad",4,1,false, "", "consol/wire",16⟩], size := 2, bytes := 24, zero := .agg #[.string ⟨#[]⟩, .bool false] }),
 (164, { desc := .struct #[⟨ "Rest",9,0,false, "", "",0⟩, ⟨ "Bad",4,1,false, "", "",16⟩], size := 2, bytes := 24, zero := .agg #[.string ⟨#[]⟩, .bool false] }),
 (168,{ desc:=.slice 22,size:=1,bytes:=24,zero:=.slice none 0 0 }),
 (170,{ desc:=.pointer 173,size:=1,bytes:=8,zero:=.pointer none }),
 (171,{ desc:=.slice 5,size:=1,bytes:=24,zero:=.slice none 0 0 }),
 (173, { desc := .struct #[⟨ "addr",170,0,false, "", "strings",0⟩, ⟨ "buf",171,1,false, "", "strings",8⟩], size := 2, bytes := 32, zero := .agg #[.pointer none, .slice none 0 0] }),
 (175, { desc := .interface #[("Error", 77)], size := 1, bytes := 16, zero := .nilIface }),
 (179,{ desc:=.slice 198,size:=1,bytes:=24,zero:=.slice none 0 0 }),
 (183, { desc := .struct #[⟨ "l",179,0,false, "", "consol/syntax",0⟩, ⟨ "at",3,1,false, "", "consol/syntax",24⟩], size := 2, bytes := 32, zero := .agg #[.slice none 0 0, .int .i64 0] }),
 (185, { desc := .struct #[⟨ "pos",3,0,false, "", "consol/syntax",0⟩, ⟨ "err",31,1,false, "", "consol/syntax",8⟩], size := 2, bytes := 16, zero := .agg #[.int .i64 0, .int .i64 0] }),
 (194,{ desc:=.pointer 56,size:=1,bytes:=8,zero:=.pointer none }),
 (198, { desc := .struct #[⟨ "Kind",3,0,false, "", "",0⟩, ⟨ "Text",9,1,false, "", "",8⟩, ⟨ "N",3,2,false, "", "",24⟩, ⟨ "Pos",3,3,false, "", "",32⟩], size := 4, bytes := 40, zero := .agg #[.int .i64 0, .string ⟨#[]⟩, .int .i64 0, .int .i64 0] }),
 (210,{ desc:=.pointer 212,size:=1,bytes:=8,zero:=.pointer none }),
 (212, { desc := .struct #[⟨ "l",179,0,false, "", "consol/consolref12",0⟩, ⟨ "at",3,1,false, "", "consol/consolref12",24⟩, ⟨ "err",31,2,false, "", "consol/consolref12",32⟩, ⟨ "pos",3,3,false, "", "consol/consolref12",40⟩], size := 4, bytes := 48, zero := .agg #[.slice none 0 0, .int .i64 0, .int .i64 0, .int .i64 0] }),
 (213,{ desc:=.pointer 5,size:=1,bytes:=8,zero:=.pointer none }),
 (223, { desc := .struct #[⟨ "Name",9,0,false, "", "",0⟩, ⟨ "Body",51,1,false, "", "",16⟩], size := 6, bytes := 80, zero := .agg #[.string ⟨#[]⟩, .int .i64 0, .int .i64 0, .int .i64 0, .string ⟨#[]⟩, .slice none 0 0] }),
 (227, { desc := .struct #[⟨ "Name",9,0,false, "", "",0⟩, ⟨ "Must",51,1,false, "", "",16⟩, ⟨ "Grace",3,6,false, "", "",80⟩], size := 7, bytes := 88, zero := .agg #[.string ⟨#[]⟩, .int .i64 0, .int .i64 0, .int .i64 0, .string ⟨#[]⟩, .slice none 0 0, .int .i64 0] }),
 (229, { desc := .struct #[⟨ "From",3,0,false, "", "",0⟩, ⟨ "Price",3,1,false, "", "",8⟩], size := 2, bytes := 16, zero := .agg #[.int .i64 0, .int .i64 0] }),
 (241,{ desc:=.array 11 9,size:=11,bytes:=176,zero:=.agg #[.string ⟨#[]⟩,.string ⟨#[]⟩,.string ⟨#[]⟩,.string ⟨#[]⟩,.string ⟨#[]⟩,.string ⟨#[]⟩,.string ⟨#[]⟩,.string ⟨#[]⟩,.string ⟨#[]⟩,.string ⟨#[]⟩,.string ⟨#[]⟩] }),
 (246,{ desc:=.slice 248,size:=1,bytes:=24,zero:=.slice none 0 0 }),
 (248, { desc := .struct #[⟨ "text",9,0,false, "", "consol/syntax",0⟩, ⟨ "op",3,1,false, "", "consol/syntax",16⟩, ⟨ "form",3,2,false, "", "consol/syntax",24⟩], size := 3, bytes := 32, zero := .agg #[.string ⟨#[]⟩, .int .i64 0, .int .i64 0] })]
theorem Kz:dh Tryz.prog tab:=TN ⟨by kernel_rfl,by kernel_rfl,by kernel_rfl,by kernel_rfl,by kernel_rfl,by kernel_rfl,by kernel_rfl,by kernel_rfl,by kernel_rfl,by kernel_rfl,by kernel_rfl,by kernel_rfl,by kernel_rfl,by kernel_rfl,by kernel_rfl,by kernel_rfl,by kernel_rfl,by kernel_rfl,by kernel_rfl,by kernel_rfl,by kernel_rfl,by kernel_rfl,by kernel_rfl,by kernel_rfl,by kernel_rfl,by kernel_rfl,by kernel_rfl,by kernel_rfl,by kernel_rfl,by kernel_rfl,by kernel_rfl,by kernel_rfl,by kernel_rfl,by kernel_rfl,by kernel_rfl,by kernel_rfl,by kernel_rfl,by kernel_rfl,by kernel_rfl,by kernel_rfl,by kernel_rfl,by kernel_rfl,by kernel_rfl,by kernel_rfl,by kernel_rfl,by kernel_rfl,by kernel_rfl,by kernel_rfl,by kernel_rfl,by kernel_rfl,by kernel_rfl,by kernel_rfl,by kernel_rfl,by kernel_rfl,by kernel_rfl,by kernel_rfl,by kernel_rfl,by kernel_rfl,by kernel_rfl,by kernel_rfl,by kernel_rfl,by kernel_rfl,trivial⟩
theorem mixed:Tryz.prog.follows .mixedOrders=true:=by kernel_rfl
noncomputable abbrev cx (N:Nat) (keep:List Nat):Cx:=⟨Tryz.prog,tab,N,keep,0,false,fun _=>False⟩
theorem au (N:Nat) (keep:List Nat):CxOk (cx N keep):=⟨Kz,mixed⟩
noncomputable abbrev cxP (pn N:Nat) (keep:List Nat):Cx:=⟨Tryz.prog,tab,N,keep,pn,false,fun _=>False⟩
theorem aJ (pn N:Nat) (keep:List Nat):CxOk (cxP pn N keep):=⟨Kz,mixed⟩
noncomputable abbrev cxW (N:Nat) (keep:List Nat):Cx:=⟨Tryz.prog,tab,N,keep,0,true,fun _=>False⟩
theorem adP (N:Nat) (keep:List Nat):CxOk (cxW N keep):=⟨Kz,mixed⟩
noncomputable abbrev cxX (px:List PanicEntry→Prop) (pn N:Nat) (keep:List Nat):Cx:=⟨Tryz.prog,tab,N,keep,pn,false,px⟩
theorem dV (px:List PanicEntry→Prop) (pn N:Nat) (keep:List Nat):CxOk (cxX px pn N keep):=⟨Kz,mixed⟩
inductive Exp where
 | mk (op n unit:Int) (s:List UInt8) (args:List Exp)
def Exp.op:Exp→Int | .mk a _ _ _ _=>a
def Exp.n:Exp→Int | .mk _ a _ _ _=>a
def Exp.unit:Exp→Int | .mk _ _ a _ _=>a
def Exp.s:Exp→List UInt8 | .mk _ _ _ a _=>a
def Exp.args:Exp→List Exp | .mk _ _ _ _ a=>a
mutual
def abl:Exp→AV
 | .mk op n unit s args=>.agg [.int .i64 op,.int .i64 n,.int .i64 unit,.str s,.lsl 5 (IL args)]
def IL:List Exp→List AV
 | []=>[]
 | e::l=>abl e::IL l
end
def jO (e:Exp):List AV:=IL e.args
def iJ (e:Exp):AV:=.agg [.int .i64 e.op,.int .i64 e.n,.int .i64 e.unit,.str e.s,.lsl 5 (jO e)]
theorem afY (e:Exp):abl e=iJ e:=by
 cases e;rw [abl];rfl
theorem Uw:∀ l:List Exp,IL l=l.map iJ
 | []=>by rw [IL];rfl
 | e::l=>by rw [IL,afY,Uw l];rfl
theorem BH (e:Exp):jO e=e.args.map iJ:=Uw e.args
theorem PK (e:Exp):(jO e).length=e.args.length:=by rw [BH,List.length_map]
def Es:Exp:=.mk 0 0 0 [] []
instance:Inhabited Exp:=⟨Es⟩
theorem O_ (e:Exp) {k:Nat} (h:k<e.args.length):(jO e).getD k .undef=iJ (e.args.getD k Es):=by
 rw [BH,List.getD_eq_getElem?_getD,List.getD_eq_getElem?_getD,List.getElem?_map,List.getElem?_eq_getElem h];rfl
def encI (n:Int):AV:=.int .i64 n
def encS (s:List UInt8):AV:=.str s
structure LetE where
 name:List UInt8
 body:Exp
def l0:LetE:=⟨[],Es⟩
instance:Inhabited LetE:=⟨l0⟩
def mY (x:LetE):AV:=.agg [.str x.name,.int .i64 x.body.op,.int .i64 x.body.n,.int .i64 x.body.unit,.str x.body.s,.lsl 5 (jO x.body)]
structure Cov where
 name:List UInt8
 must:Exp
 grace:Int
def c0:Cov:=⟨[],Es,0⟩
instance:Inhabited Cov:=⟨c0⟩
def pJ (x:Cov):AV:=.agg [.str x.name,.int .i64 x.must.op,.int .i64 x.must.n,.int .i64 x.must.unit,.str x.must.s,.lsl 5 (jO x.must),.int .i64 x.grace]
structure CallE where
 a:Int
 b:Int
def k0:CallE:=⟨0,0⟩
instance:Inhabited CallE:=⟨k0⟩
def zH (x:CallE):AV:=.agg [.int .i64 x.a,.int .i64 x.b]
structure Ind where
 name:List UInt8
 issuer:List UInt8
 face:Int
 frm:Int
 to:Int
 every:Int
 count:Int
 adjust:Int
 record:Int
 rank:Int
 lets:List LetE
 coupon:Exp
 cap:Int
 cov:List Cov
 favour:List (List UInt8)
 cross:Int
 calls:List CallE
 notice:Int
 sink:Int
 majority:Int
 fast:Int
def i0:Ind:=⟨[],[],0,0,0,0,0,0,0,0,[],Es,0,[],[],0,[],0,0,0,0⟩
instance:Inhabited Ind:=⟨i0⟩
def su (x:Ind):List AV:=[.str x.name,.str x.issuer,.int .i64 x.face,.int .i64 x.frm,.int .i64 x.to,.int .i64 x.every,.int .i64 x.count,.int .i64 x.adjust,.int .i64 x.record,.int .i64 x.rank,
 .sl 6 mY l0 x.lets,.int .i64 x.coupon.op,.int .i64 x.coupon.n,.int .i64 x.coupon.unit,.str x.coupon.s,.lsl 5 (jO x.coupon),.int .i64 x.cap,.sl 7 pJ c0 x.cov,.sl 1 encS [] x.favour,.int .i64 x.cross,.sl 2 zH k0 x.calls,
 .int .i64 x.notice,.int .i64 x.sink,.int .i64 x.majority,.int .i64 x.fast]
def N8 (x:Ind):AV:=.agg [.str x.name,.str x.issuer,.int .i64 x.face,.int .i64 x.frm,.int .i64 x.to,.int .i64 x.every,.int .i64 x.count,.int .i64 x.adjust,.int .i64 x.record,.int .i64 x.rank,
 .sl 6 mY l0 x.lets,.int .i64 x.coupon.op,.int .i64 x.coupon.n,.int .i64 x.coupon.unit,.str x.coupon.s,.lsl 5 (jO x.coupon),.int .i64 x.cap,.sl 7 pJ c0 x.cov,.sl 1 encS [] x.favour,.int .i64 x.cross,.sl 2 zH k0 x.calls,
 .int .i64 x.notice,.int .i64 x.sink,.int .i64 x.majority,.int .i64 x.fast]
structure Tok where
 kind:Int
 text:List UInt8
 n:Int
 pos:Int
deriving DecidableEq
def t0:Tok:=⟨0,[],0,0⟩
instance:Inhabited Tok:=⟨t0⟩
def yQ (t:Tok):AV:=.agg [.int .i64 t.kind,.str t.text,.int .i64 t.n,.int .i64 t.pos]
def Gx (l:List Tok):AV:=.sl 4 yQ t0 l
structure Opr where
 text:List UInt8
 op:Int
 form:Int
deriving DecidableEq
def o0:Opr:=⟨[],0,0⟩
instance:Inhabited Opr:=⟨o0⟩
def Kv (o:Opr):AV:=.agg [.str o.text,.int .i64 o.op,.int .i64 o.form]
open Go.Shelf
def Tryz.itoaB_ren:Go.Shelf.Ren:=⟨fun | 171=>152 | 243=>189 | 246=>229 | 283=>261 | 284=>262 | 285=>263 | 286=>264 | 129=>275 | 317=>274 | 318=>276 | 319=>277 | 320=>278 | 337=>285 | 338=>286 | n=>n,fun | 3=>3 | 9=>9 | 2=>2 | 4=>4 | 171=>258 | 0=>0 | 53=>259 | 37=>171 | 5=>5 | 173=>262 | 212=>273 | 51=>274 | 20=>20 | 213=>275 | 46=>267 | 232=>282 | 233=>283 | n=>n,fun | 17=>4 | 18=>5 | 19=>6 | n=>n⟩
theorem bZ {p:Prop} (h:p:=by kernel_rfl):p:=h
theorem Tryz.itoaB:Go.Proofs.LaysM.n171 Tryz.prog Tryz.itoaB_ren:={
 mixed:=by kernel_rfl
 f129:=Tryz.func275.trans (congrArg some bZ)
 f171:=Tryz.func152.trans (congrArg some bZ)
 f243:=Tryz.func189.trans (congrArg some bZ)
 f246:=Tryz.func229.trans (congrArg some bZ)
 f283:=Tryz.func261.trans (congrArg some bZ)
 f284:=Tryz.func262.trans (congrArg some bZ)
 f285:=Tryz.func263.trans (congrArg some bZ)
 f286:=Tryz.func264.trans (congrArg some bZ)
 f317:=Tryz.func274.trans (congrArg some bZ)
 f318:=Tryz.func276.trans (congrArg some bZ)
 f319:=Tryz.func277.trans (congrArg some bZ)
 f320:=Tryz.func278.trans (congrArg some bZ)
 f337:=Tryz.func285.trans (congrArg some bZ)
 f338:=Tryz.func286.trans (congrArg some bZ)
 t0:=Tryz.underlying0
 a0:=Tryz.isAgg0
 z0:=Tryz.sizeOf0
 v0:=Tryz.zeroValue0
 t2:=Tryz.underlying2
 a2:=Tryz.isAgg2
 z2:=Tryz.sizeOf2
 v2:=Tryz.zeroValue2
 t3:=Tryz.underlying3
 a3:=Tryz.isAgg3
 z3:=Tryz.sizeOf3
 v3:=Tryz.zeroValue3
 t4:=Tryz.underlying4
 a4:=Tryz.isAgg4
 z4:=Tryz.sizeOf4
 v4:=Tryz.zeroValue4
 t5:=Tryz.underlying5
 a5:=Tryz.isAgg5
 z5:=Tryz.sizeOf5
 v5:=Tryz.zeroValue5
 t9:=Tryz.underlying9
 a9:=Tryz.isAgg9
 z9:=Tryz.sizeOf9
 v9:=Tryz.zeroValue9
 t20:=Tryz.underlying20
 a20:=Tryz.isAgg20
 z20:=Tryz.sizeOf20
 v20:=Tryz.zeroValue20
 t37:=Tryz.underlying171
 a37:=Tryz.isAgg171
 z37:=Tryz.sizeOf171
 v37:=Tryz.zeroValue171
 t46:=Tryz.underlying267
 a46:=Tryz.isAgg267
 z46:=Tryz.sizeOf267
 v46:=Tryz.zeroValue267
 t51:=Tryz.underlying274
 a51:=Tryz.isAgg274
 z51:=Tryz.sizeOf274
 v51:=Tryz.zeroValue274
 t53:=Tryz.underlying259
 a53:=Tryz.isAgg259
 z53:=Tryz.sizeOf259
 v53:=Tryz.zeroValue259
 t171:=Tryz.underlying258
 a171:=Tryz.isAgg258
 z171:=Tryz.sizeOf258
 v171:=Tryz.zeroValue258
 t173:=Tryz.underlying262
 a173:=Tryz.isAgg262
 z173:=Tryz.sizeOf262
 v173:=Tryz.zeroValue262
 t212:=Tryz.underlying273
 a212:=Tryz.isAgg273
 z212:=Tryz.sizeOf273
 v212:=Tryz.zeroValue273
 t213:=Tryz.underlying275
 a213:=Tryz.isAgg275
 z213:=Tryz.sizeOf275
 t232:=Tryz.underlying282
 a232:=Tryz.isAgg282
 z232:=Tryz.sizeOf282
 v232:=Tryz.zeroValue282
 t233:=Tryz.underlying283
 a233:=Tryz.isAgg283
 z233:=Tryz.sizeOf283
 v233:=Tryz.zeroValue283
 g17:=by kernel_rfl
 g18:=by kernel_rfl
 g19:=by kernel_rfl
 i0:=by kernel_rfl
 i2:=by kernel_rfl
 i3:=by kernel_rfl
 i4:=by kernel_rfl
 i5:=by kernel_rfl
 i9:=by kernel_rfl
 i20:=by kernel_rfl
 i37:=by kernel_rfl
 i46:=by kernel_rfl
 i51:=by kernel_rfl
 i53:=by kernel_rfl
 i171:=by kernel_rfl
 i173:=by kernel_rfl
 i212:=by kernel_rfl
 i232:=by kernel_rfl
 i233:=by kernel_rfl
 m17:=by kernel_rfl
 m18:=by kernel_rfl
 m19:=by kernel_rfl }
def Tryz.atoiA_ren:Go.Shelf.Ren:=⟨fun | 172=>175 | 244=>205 | 245=>206 | 247=>245 | 279=>246 | 280=>247 | 281=>248 | 282=>249 | 287=>267 | 316=>268 | 171=>152 | 205=>269 | 321=>281 | 322=>282 | 243=>189 | 246=>229 | 283=>261 | 284=>262 | 285=>263 | 286=>264 | 129=>275 | 317=>274 | 318=>276 | 319=>277 | 320=>278 | 337=>285 | 338=>286 | n=>n,fun | 9=>9 | 3=>3 | 75=>175 | 76=>176 | 4=>4 | 5=>5 | 167=>251 | 37=>171 | 0=>0 | 85=>252 | 2=>2 | 168=>254 | 53=>259 | 175=>265 | 46=>267 | 210=>269 | 127=>213 | 145=>280 | 143=>278 | 21=>21 | 171=>258 | 173=>262 | 212=>273 | 51=>274 | 20=>20 | 213=>275 | 232=>282 | 233=>283 | 80=>77 | n=>n,fun | 15=>2 | 16=>3 | 17=>4 | 18=>5 | 19=>6 | n=>n⟩
theorem Tryz.atoiA:Go.Proofs.LaysC.n172 Tryz.prog Tryz.atoiA_ren:={
 mixed:=by kernel_rfl
 f129:=Tryz.func275.trans (congrArg some bZ)
 f171:=Tryz.func152.trans (congrArg some bZ)
 f172:=Tryz.func175.trans (congrArg some bZ)
 f205:=Tryz.func269.trans (congrArg some bZ)
 f243:=Tryz.func189.trans (congrArg some bZ)
 f244:=Tryz.func205.trans (congrArg some bZ)
 f245:=Tryz.func206.trans (congrArg some bZ)
 f246:=Tryz.func229.trans (congrArg some bZ)
 f247:=Tryz.func245.trans (congrArg some bZ)
 f279:=Tryz.func246.trans (congrArg some bZ)
 f280:=Tryz.func247.trans (congrArg some bZ)
 f281:=Tryz.func248.trans (congrArg some bZ)
 f282:=Tryz.func249.trans (congrArg some bZ)
 f283:=Tryz.func261.trans (congrArg some bZ)
 f284:=Tryz.func262.trans (congrArg some bZ)
 f285:=Tryz.func263.trans (congrArg some bZ)
 f286:=Tryz.func264.trans (congrArg some bZ)
 f287:=Tryz.func267.trans (congrArg some bZ)
 f316:=Tryz.func268.trans (congrArg some bZ)
 f317:=Tryz.func274.trans (congrArg some bZ)
 f318:=Tryz.func276.trans (congrArg some bZ)
 f319:=Tryz.func277.trans (congrArg some bZ)
 f320:=Tryz.func278.trans (congrArg some bZ)
 f321:=Tryz.func281.trans (congrArg some bZ)
 f322:=Tryz.func282.trans (congrArg some bZ)
 f337:=Tryz.func285.trans (congrArg some bZ)
 f338:=Tryz.func286.trans (congrArg some bZ)
 t0:=Tryz.underlying0
 a0:=Tryz.isAgg0
 z0:=Tryz.sizeOf0
 v0:=Tryz.zeroValue0
 t2:=Tryz.underlying2
 a2:=Tryz.isAgg2
 z2:=Tryz.sizeOf2
 v2:=Tryz.zeroValue2
 t3:=Tryz.underlying3
 a3:=Tryz.isAgg3
 z3:=Tryz.sizeOf3
 v3:=Tryz.zeroValue3
 t4:=Tryz.underlying4
 a4:=Tryz.isAgg4
 z4:=Tryz.sizeOf4
 v4:=Tryz.zeroValue4
 t5:=Tryz.underlying5
 a5:=Tryz.isAgg5
 z5:=Tryz.sizeOf5
 v5:=Tryz.zeroValue5
 t9:=Tryz.underlying9
 a9:=Tryz.isAgg9
 z9:=Tryz.sizeOf9
 v9:=Tryz.zeroValue9
 t20:=Tryz.underlying20
 a20:=Tryz.isAgg20
 z20:=Tryz.sizeOf20
 v20:=Tryz.zeroValue20
 t21:=Tryz.underlying21
 a21:=Tryz.isAgg21
 z21:=Tryz.sizeOf21
 v21:=Tryz.zeroValue21
 t37:=Tryz.underlying171
 a37:=Tryz.isAgg171
 z37:=Tryz.sizeOf171
 v37:=Tryz.zeroValue171
 t46:=Tryz.underlying267
 a46:=Tryz.isAgg267
 z46:=Tryz.sizeOf267
 v46:=Tryz.zeroValue267
 t51:=Tryz.underlying274
 a51:=Tryz.isAgg274
 z51:=Tryz.sizeOf274
 v51:=Tryz.zeroValue274
 t53:=Tryz.underlying259
 a53:=Tryz.isAgg259
 z53:=Tryz.sizeOf259
 v53:=Tryz.zeroValue259
 t75:=Tryz.underlying175
 a75:=Tryz.isAgg175
 z75:=Tryz.sizeOf175
 v75:=Tryz.zeroValue175
 t76:=Tryz.underlying176
 a76:=Tryz.isAgg176
 z76:=Tryz.sizeOf176
 v76:=Tryz.zeroValue176
 t85:=Tryz.underlying252
 a85:=Tryz.isAgg252
 z85:=Tryz.sizeOf252
 v85:=Tryz.zeroValue252
 t127:=Tryz.underlying213
 a127:=Tryz.isAgg213
 z127:=Tryz.sizeOf213
 v127:=Tryz.zeroValue213
 t143:=Tryz.underlying278
 a143:=Tryz.isAgg278
 z143:=Tryz.sizeOf278
 v143:=Tryz.zeroValue278
 t145:=Tryz.underlying280
 a145:=Tryz.isAgg280
 z145:=Tryz.sizeOf280
 v145:=Tryz.zeroValue280
 t167:=Tryz.underlying251
 a167:=Tryz.isAgg251
 z167:=Tryz.sizeOf251
 v167:=Tryz.zeroValue251
 t168:=Tryz.underlying254
 a168:=Tryz.isAgg254
 z168:=Tryz.sizeOf254
 v168:=Tryz.zeroValue254
 t171:=Tryz.underlying258
 a171:=Tryz.isAgg258
 z171:=Tryz.sizeOf258
 v171:=Tryz.zeroValue258
 t173:=Tryz.underlying262
 a173:=Tryz.isAgg262
 z173:=Tryz.sizeOf262
 v173:=Tryz.zeroValue262
 t175:=Tryz.underlying265
 a175:=Tryz.isAgg265
 z175:=Tryz.sizeOf265
 v175:=Tryz.zeroValue265
 t210:=Tryz.underlying269
 a210:=Tryz.isAgg269
 z210:=Tryz.sizeOf269
 v210:=Tryz.zeroValue269
 t212:=Tryz.underlying273
 a212:=Tryz.isAgg273
 z212:=Tryz.sizeOf273
 v212:=Tryz.zeroValue273
 t213:=Tryz.underlying275
 a213:=Tryz.isAgg275
 z213:=Tryz.sizeOf275
 t232:=Tryz.underlying282
 a232:=Tryz.isAgg282
 z232:=Tryz.sizeOf282
 v232:=Tryz.zeroValue282
 t233:=Tryz.underlying283
 a233:=Tryz.isAgg283
 z233:=Tryz.sizeOf283
 v233:=Tryz.zeroValue283
 g15:=by kernel_rfl
 g16:=by kernel_rfl
 g17:=by kernel_rfl
 g18:=by kernel_rfl
 g19:=by kernel_rfl
 t80:=Tryz.underlying77
 a80:=Tryz.isAgg77
 z80:=Tryz.sizeOf77
 v80:=Tryz.zeroValue77
 i0:=by kernel_rfl
 i2:=by kernel_rfl
 i3:=by kernel_rfl
 i4:=by kernel_rfl
 i5:=by kernel_rfl
 i9:=by kernel_rfl
 i20:=by kernel_rfl
 i21:=by kernel_rfl
 i37:=by kernel_rfl
 i46:=by kernel_rfl
 i51:=by kernel_rfl
 i53:=by kernel_rfl
 i75:=by kernel_rfl
 i76:=by kernel_rfl
 i80:=by kernel_rfl
 i85:=by kernel_rfl
 i127:=by kernel_rfl
 i143:=by kernel_rfl
 i145:=by kernel_rfl
 i167:=by kernel_rfl
 i168:=by kernel_rfl
 i171:=by kernel_rfl
 i173:=by kernel_rfl
 i175:=by kernel_rfl
 i210:=by kernel_rfl
 i212:=by kernel_rfl
 i232:=by kernel_rfl
 i233:=by kernel_rfl
 m15:=by kernel_rfl
 m16:=by kernel_rfl
 m17:=by kernel_rfl
 m18:=by kernel_rfl
 m19:=by kernel_rfl
 c0:=by kernel_rfl
 c2:=by kernel_rfl
 c3:=by kernel_rfl
 c4:=by kernel_rfl
 c5:=by kernel_rfl
 c9:=by kernel_rfl
 c20:=by kernel_rfl
 c21:=by kernel_rfl
 c37:=by kernel_rfl
 c46:=by kernel_rfl
 c51:=by kernel_rfl
 c53:=by kernel_rfl
 c75:=by kernel_rfl
 c76:=by kernel_rfl
 c80:=by kernel_rfl
 c85:=by kernel_rfl
 c127:=by kernel_rfl
 c143:=by kernel_rfl
 c145:=by kernel_rfl
 c167:=by kernel_rfl
 c168:=by kernel_rfl
 c171:=by kernel_rfl
 c173:=by kernel_rfl
 c175:=by kernel_rfl
 c210:=by kernel_rfl
 c212:=by kernel_rfl
 c213:=by kernel_rfl
 c232:=by kernel_rfl
 c233:=by kernel_rfl }
def Tryz.indexA_ren:Go.Shelf.Ren:=⟨fun | 137=>174 | 217=>204 | 266=>244 | n=>n,fun | 9=>9 | 5=>5 | 3=>3 | n=>n,fun | n=>n⟩
theorem Tryz.indexA:Go.Proofs.Lays.n137 Tryz.prog Tryz.indexA_ren:={
 mixed:=by kernel_rfl
 f137:=Tryz.func174.trans (congrArg some bZ)
 f217:=Tryz.func204.trans (congrArg some bZ)
 f266:=Tryz.func244.trans (congrArg some bZ)
 t3:=Tryz.underlying3
 a3:=Tryz.isAgg3
 z3:=Tryz.sizeOf3
 v3:=Tryz.zeroValue3
 t5:=Tryz.underlying5
 a5:=Tryz.isAgg5
 z5:=Tryz.sizeOf5
 v5:=Tryz.zeroValue5
 t9:=Tryz.underlying9
 a9:=Tryz.isAgg9
 z9:=Tryz.sizeOf9
 v9:=Tryz.zeroValue9 }
def Tryz.cutA_ren:Go.Shelf.Ren:=⟨fun | 103=>177 | 210=>207 | 206=>250 | n=>n,fun | 9=>9 | 4=>4 | 24=>201 | 3=>3 | n=>n,fun | n=>n⟩
theorem Tryz.cutA:Go.Proofs.Lays.n103 Tryz.prog Tryz.cutA_ren:={
 mixed:=by kernel_rfl
 f103:=Tryz.func177.trans (congrArg some bZ)
 f206:=Tryz.func250.trans (congrArg some bZ)
 f210:=Tryz.func207.trans (congrArg some bZ)
 t3:=Tryz.underlying3
 a3:=Tryz.isAgg3
 z3:=Tryz.sizeOf3
 v3:=Tryz.zeroValue3
 t4:=Tryz.underlying4
 a4:=Tryz.isAgg4
 z4:=Tryz.sizeOf4
 v4:=Tryz.zeroValue4
 t9:=Tryz.underlying9
 a9:=Tryz.isAgg9
 z9:=Tryz.sizeOf9
 v9:=Tryz.zeroValue9
 t24:=Tryz.underlying201
 a24:=Tryz.isAgg201
 z24:=Tryz.sizeOf201
 v24:=Tryz.zeroValue201 }
set_option maxHeartbeats 4000000
set_option maxRecDepth 100000
theorem af8 (S : Blocks) (w : World) (h : TabAt S w) : Lib.TabIs Tryz.prog w "internal/strconv.uint64pow10" .u64 Lib.pow10Tab := by
 obtain ⟨_,cs,e,fz,h1,h2⟩:=h 4 _ rfl;have hg : Tryz.prog.globalNamed "internal/strconv.uint64pow10" = some 4 := by kernel_rfl
 have h2':cs=(Lib.pow10Tab.map fun z=>Value.int .u64 z).toArray:=h2;unfold Lib.TabIs World.var?;rw [hg];show (match w.heap[4]? with | some (.cells cs _ _)=>some cs | _=>none)=_;rw [h1,h2']
theorem D6 (n:Int) (h0:-9223372036854775808≤n) (h1:n≤9223372036854775807):ak Tryz.prog 152 [.int .i64 n] (.str (Lib.itoa n)) :=
 afC Tryz.itoaB ⟨_,Tryz.func152,rfl,by decide⟩ af8 n h0 h1
def iI (c:Int):Bool:=decide (97≤c)&&decide (c≤122)
def dH (c:Int):Bool:=decide (48≤c)&&decide (c≤57)
def Dw (c:Int):Bool:=decide (c=32)||decide (c=9)||decide (c=10)
theorem C9 (c:Int):ak Tryz.prog 230 [.int .u8 c] (.bool (iI c)):=by
 refine aO (au 9 [0,2]) Tryz.func230 ?_;conv=>whnf
 rfl
theorem digit_ok (c:Int):ak Tryz.prog 232 [.int .u8 c] (.bool (dH c)):=by
 refine aO (au 9 [0,2]) Tryz.func232 ?_;conv=>whnf
 rfl
theorem abr (c:Int):ak Tryz.prog 194 [.int .u8 c] (.bool (Dw c)):=by
 refine aO (au 13 [0,2]) Tryz.func194 ?_;conv=>whnf
 rfl
theorem Qx {p:Prop}(h:p:=by
 conv=>whnf
 refine cO (fun _=>h2) (cW ?_);rfl):p:=h
theorem aaZ (c:Int):ak Tryz.prog 231 [.int .u8 c] (.bool (iI c||dH c)):=by
 have h1:=C9 c;have h2:=digit_ok c;refine aO (au 9 [0,2]) Tryz.func231 ?_;conv=>whnf
 refine cO (fun _=>h1) ?_;exact Qx
theorem abN (c:Int):ak Tryz.prog 234 [.int .u8 c] (.bool (iI c||dH c)):=by
 have h1:=C9 c;have h2:=digit_ok c;refine aO (au 9 [0,2]) Tryz.func234 ?_;conv=>whnf
 refine cO (fun _=>h1) ?_;exact Qx
def dQ (p:Int→Bool) (s:List UInt8):Nat:=(s.takeWhile fun b=>p (b.toNat:Int)).length
theorem lK (p:Int→Bool) (s:List UInt8):dQ p s≤s.length:=(List.takeWhile_sublist _).length_le
theorem vU {p:Int→Bool} {s:List UInt8} {k:Nat} (h:k<dQ p s):p ((s.getD k 0).toNat:Int)=true:=by
 have hk:k<s.length:=Nat.lt_of_lt_of_le h (lK p s);have h2:(s.takeWhile fun b=>p (b.toNat:Int))[k]=s[k]:=(List.takeWhile_prefix _).getElem h;have h3:(s.takeWhile fun b=>p (b.toNat:Int))[k]∈s.takeWhile fun b=>p (b.toNat:Int):=List.getElem_mem h
 have h4:=(List.all_eq_true.1 (List.all_takeWhile (p:=fun b:UInt8=>p (b.toNat:Int)) (l:=s))) _ h3;rw [h2] at h4;simpa [List.getD,List.getElem?_eq_getElem hk] using h4
theorem yx {p:Int→Bool}:∀ {s:List UInt8},dQ p s<s.length→p ((s.getD (dQ p s) 0).toNat:Int)=false
 | [],h=>by simp at h
 | b::s,h=>by
  unfold dQ at h ⊢;rw [List.takeWhile_cons] at h ⊢;split at h
  ·rename_i hb;rw [if_pos hb];simp only [List.length_cons,List.getD_cons_succ] at h ⊢;exact yx (s:=s) (by unfold dQ;omega)
  ·rename_i hb;rw [if_neg hb];simpa using hb
theorem Ei (s:List UInt8) (f:FuncId) (p:Int→Bool) (hf:∀ c,ak Tryz.prog f [.int .u8 c] (.bool (p c))) (hs:s.length≤9223372036854775807):ak Tryz.prog 193 [.str s,.fn (.func f) [] []] (.int .i64 (dQ p s)):=by
 have hle:=lK p s;refine aO (au 20 [0,1,4,5,16]) Tryz.func193 ?_;conv=>whnf
 refine aX (au _ _) (dQ p s) (fun _=>True) (fun k=>⟨[(0,.str s),(1,.fn (.func f) [] []),(5,.int .i64 (k:Nat))],[],0⟩) trivial ((aj [] rfl ⟨ah,.fn _ _ _ _ _ fP fP,ah,trivial⟩ trivial)) ?_;intro k hk _;conv=>whnf
 have hek:(k:Int).toNat=k:=Int.toNat_natCast k;refine And.intro (fun h=>(by simp only [wo,yc,decide_eq_true_eq] at h;omega)) (cW ?_);rw [hek];conv=>whnf
 refine cO (fun _=>hf ((s.getD k 0).toNat:Int)) (cW ?_);refine ⟨fun hc=>?_,fun hc=>?_⟩
 ·have hlt:k<s.length:=by simp at hc;omega
  have hpk:p ((s.getD k 0).toNat:Int)=true:=by simp at hc;simpa using hc.2
  have hne:k<dQ p s:=by
   apply Classical.byContradiction;intro hh;have he:k=dQ p s:=by omega
   have hat:=yx (p:=p) (s:=s) (by omega);rw [← he,hpk] at hat;cases hat
  conv=>whnf
  refine iO (cW ?_);refine ⟨k+1,⟨hne,trivial⟩,(by show dQ p s-(k+1)<dQ p s-k;omega),(aj [] rfl ⟨ah,.fn _ _ _ _ _ fP fP,ah,trivial⟩ trivial)⟩
 ·have he:k=dQ p s:=by
   apply Classical.byContradiction;intro hh;have hlt:k<dQ p s:=by omega
   have:=vU hlt;rw [this] at hc;simp at hc;omega
  conv=>whnf
  rw [he];rfl
def sQ (s:List UInt8):Bool:=decide (s≠[])&&iI ((s.getD 0 0).toNat:Int)&&decide (s.length≤20)&&decide (dQ (fun c=>iI c||dH c) s=s.length)
theorem adT {p:Prop}(h:p:=by
 conv=>whnf
 have hb:(!b1&&b2&&b3)=false:=by cases b1<;>cases b2<;>cases b3<;>simp_all
 rw [hb];rfl):p:=h
theorem VQ (s:List UInt8) (hs:s.length≤9223372036854775807):ak Tryz.prog 190 [.str s] (.bool (sQ s)):=by
 have hsp:=Ei s 231 _ aaZ hs;unfold sQ;have hpos:s≠[]→0<s.length:=fun h=>List.length_pos_iff.2 h
 refine aO (au 21 [0,2,15]) Tryz.func190 ?_;conv=>whnf
 refine And.intro (fun h=>(by have h2:s≠[]:=by simpa [wo,yc] using h
                              have:=hpos h2;omega)) ?_
 conv=>whnf
 refine cO (fun _=>C9 ((s.getD 0 0).toNat:Int)) (cW ?_);have e1:decide (20<(s.length:Int))=!decide (s.length≤20):=by
  by_cases h:s.length≤20
  ·simp [h];omega
  ·simp [h];omega
 have e2:decide (s≠[])=!decide (s=[]):=by simp
 have e3:decide ((dQ (fun c=>iI c||dH c) s:Int)=(s.length:Int))=decide (dQ (fun c=>iI c||dH c) s=s.length):=by
  by_cases h:dQ (fun c=>iI c||dH c) s=s.length
  ·simp [h]
  ·simp [h];omega
 rw [e1,e2];have e4:decide (s=(⟨#[]⟩:ByteArray).data.toList)=decide (s=[]):=rfl;rw [e4];generalize decide (s=[])=b1;generalize iI ((s.getD 0 0).toNat:Int)=b2;generalize decide (s.length≤20)=b3;refine ⟨fun hc=>?_,fun hc=>?_⟩
 ·exact adT
 ·conv=>whnf
  have hb:(!b1&&b2&&b3)=true:=by cases b1<;>cases b2<;>cases b3<;>simp_all
  rw [hb,Bool.true_and];refine cO (fun _=>hsp) (cW ?_);rw [e3];rfl
def yN (l:List (List UInt8)):AV:=.sl 1 encS [] l
theorem mZ {p:Prop} (h:p:=by intro j hj;omega):p:=h
theorem index_ok (l:List (List UInt8)) (x:List UInt8) (hl:l.length≤9223372036854775807):bM Tryz.prog 233 [yN l,.str x] (fun rs=>∃ v:Int,(0≤v↔x∈l)∧rs=[.val (.int .i64 v)]):=by
 refine aO (au 19 [0,1,4,5,7,8,9,16]) Tryz.func233 ?_;conv=>whnf
 refine aX (au _ _) l.length (fun k=>∀ j,j<k→l.getD j []≠x) (fun k=>⟨[(0,yN l),(1,.str x),(7,.int .i64 (l.length:Nat)),(8,.int .i64 (k:Nat))],[],0⟩) mZ ((aj [] rfl ⟨ah,ah,ah,ah,trivial⟩ trivial)) ?_;intro k hk hP;conv=>whnf
 refine ⟨fun hd=>?_,fun hd=>?_⟩
 ·have hd:=of_decide_eq_true hd;have hlt:k<l.length:=by omega
  have hek:(k:Int).toNat=k:=Int.toNat_natCast k;conv=>whnf
  refine iO (cW ?_);refine And.intro rfl (cW ?_);rw [hek];conv=>whnf
  refine ⟨fun he=>?_,fun he=>?_⟩
  ·have he:=of_decide_eq_true he;conv=>whnf
   refine ⟨(k:Int),⟨fun _=>by rw [he];exact getD_mem hlt,fun _=>by omega⟩,rfl⟩
  ·have he:=of_decide_eq_false he;conv=>whnf
   refine iO (cW ?_);refine up hlt (fun j hj=>?_) ((aj [] rfl ⟨ah,ah,ah,ah,trivial⟩ trivial));by_cases e:j=k
   ·subst e;exact fun e=>he e.symm
   ·exact hP j aI
 ·have hd:=of_decide_eq_false hd;obtain rfl:k=l.length:=by omega
  conv=>whnf
  refine ⟨-1,⟨fun h=>by omega,fun h=>?_⟩,rfl⟩;obtain ⟨j,hj,e⟩:=QY (d:=[]) h;exact (hP j hj e).elim
theorem Js (l:List (List UInt8)) (x:List UInt8) (hl:l.length≤9223372036854775807):ak Tryz.prog 191 [yN l,.str x] (.bool (decide (x∈l))):=by
 refine aO (au 9 [0,1,4]) Tryz.func191 ?_;conv=>whnf
 refine .any _ _ _ ⟨rfl,rfl⟩ (index_ok l x hl) vN uU ?_;rintro rs ⟨v,hv,rfl⟩;conv=>whnf
 rw [show decide (x∈l)=decide (0≤v) by simp only [hv]];rfl
def yK:List (List UInt8):=[[97,99,116,117,97,108],[97,100,106,117,115,116],[97,110,100],[97,116],[98,101,102,111,114,101],[99,97,108,108],[99,97,112],[99,111,105,110,115],[99,111,117,110,116],[99,111,117,112,111,110],[99,111,118,101,110,97,110,116],[99,114,111,115,115],[100,97,121,115],[101,108,115,101],[101,118,101,114],[101,118,101,114,121],[102,97,99,101],[102,97,99,116],[102,97,108,115,101],[102,97,115,116],[102,97,118,111,117,114],[102,105,120,101,100],[102,114,111,109],[103,114,97,99,101],[105,102],[105,115,115,117,101],[108,101,116],[108,111,110,103],[109,97,106,111,114,105,116,121],[109,97,120],[109,105,108,108,101],[109,105,110],[109,111,100,105,102,105,101,100],[109,111,110,116,104,115],[109,117,115,116],[110,101,120,116],[110,111,110,101],[110,111,116],[110,111,116,105,99,101],[111,102],[111,114],[114,97,110,107],[114,97,116,101],[114,101,99,111,114,100],[115,105,110,107],[115,111,111,110],[116,104,101,110],[116,104,105,114,116,121],[116,111],[116,114,117,101]]
def sF:List (List UInt8):=[[116,104,105,114,116,121],[102,105,120,101,100],[97,99,116,117,97,108]]
def r_:List (List UInt8):=[[110,111,110,101],[110,101,120,116],[109,111,100,105,102,105,101,100],[98,101,102,111,114,101]]
def m_:List Opr:=[⟨[111,114],14,1⟩,⟨[97,110,100],13,2⟩,⟨[61,61],11,4⟩,⟨[60],10,4⟩,⟨[43],4,5⟩,⟨[45],5,5⟩,⟨[42],6,6⟩,⟨[47],7,6⟩]
theorem afQ:bM Tryz.prog 192 [] (fun rs=>rs=[.new (.lst 9 1 (yK.map fun s=>AV.str s))]):=by
 refine aO (au 2 [0]) Tryz.func192 ?_;conv=>whnf
 rfl
theorem agR:ak Tryz.prog 192 [] (yN yK):=afQ.freeze1.le1 (.lsl _ _ _ _ _ rfl)
theorem afp:bM Tryz.prog 164 [] (fun rs=>rs=[.new (.lst 9 1 (sF.map fun s=>AV.str s))]):=by
 refine aO (au 2 [0]) Tryz.func164 ?_;conv=>whnf
 rfl
theorem ahp:ak Tryz.prog 164 [] (yN sF):=afp.freeze1.le1 (.lsl _ _ _ _ _ rfl)
theorem agc:bM Tryz.prog 165 [] (fun rs=>rs=[.new (.lst 9 1 (r_.map fun s=>AV.str s))]):=by
 refine aO (au 2 [0]) Tryz.func165 ?_;conv=>whnf
 rfl
theorem ag5:ak Tryz.prog 165 [] (yN r_):=agc.freeze1.le1 (.lsl _ _ _ _ _ rfl)
theorem ab2:bM Tryz.prog 208 [] (fun rs=>rs=[.new (.lst 9 1 (yK.map fun s=>AV.str s))]):=by
 refine aO (au 2 [0]) Tryz.func208 ?_;conv=>whnf
 rfl
theorem af7:ak Tryz.prog 208 [] (yN yK):=ab2.freeze1.le1 (.lsl _ _ _ _ _ rfl)
theorem aaP:bM Tryz.prog 218 [] (fun rs=>rs=[.new (.lst 9 1 (sF.map fun s=>AV.str s))]):=by
 refine aO (au 2 [0]) Tryz.func218 ?_;conv=>whnf
 rfl
theorem MZ:ak Tryz.prog 218 [] (yN sF):=aaP.freeze1.le1 (.lsl _ _ _ _ _ rfl)
theorem abo:bM Tryz.prog 219 [] (fun rs=>rs=[.new (.lst 9 1 (r_.map fun s=>AV.str s))]):=by
 refine aO (au 2 [0]) Tryz.func219 ?_;conv=>whnf
 rfl
theorem Ol:ak Tryz.prog 219 [] (yN r_):=abo.freeze1.le1 (.lsl _ _ _ _ _ rfl)
theorem af_:bM Tryz.prog 242 [] (fun rs=>rs=[.new (.lst 248 3 (m_.map Kv))]):=by
 refine aO (au 10 [0]) Tryz.func242 ?_;conv=>whnf
 rfl
def aiT (l:List Opr):AV:=.sl 3 Kv o0 l
theorem aaw:ak Tryz.prog 242 [] (aiT m_):=af_.freeze1.le1 (.lsl _ _ _ _ _ rfl)
def nameB (s:List UInt8):Bool:=sQ s&&!decide (s∈yK)
theorem VB (s:List UInt8) (hs:s.length≤9223372036854775807):ak Tryz.prog 156 [.str s] (.bool (nameB s)):=by
 have hw:=VQ s hs;have hr:=agR;have hc:=Js yK s (by decide);unfold nameB;cases hb:sQ s
 ·rw [hb] at hw;refine aO (au 11 [0,2]) Tryz.func156 ?_;conv=>whnf
  refine cO (fun _=>hw) (cW ?_);refine ⟨fun h=>(by cases h),fun _=>?_⟩;conv=>whnf
  refine cF [.undef,.str s] [.val (.bool false)] (cW ?_);rfl
 ·rw [hb] at hw;refine aO (au 11 [0,2]) Tryz.func156 ?_;conv=>whnf
  refine cO (fun _=>hw) (cW ?_);refine ⟨fun _=>?_,fun h=>(by cases h)⟩;conv=>whnf
  refine cO (fun _=>hr) (cW ?_);refine cO (fun _=>hc) (cW ?_);rfl
theorem Ad (c:Int):ak Tryz.prog 251 [.int .u8 c] (.bool (iI c)):=by
 refine aO (au 9 [0,2]) Tryz.func251 ?_;conv=>whnf
 rfl
theorem y8 (c:Int):ak Tryz.prog 252 [.int .u8 c] (.bool (dH c)):=by
 refine aO (au 9 [0,2]) Tryz.func252 ?_;conv=>whnf
 rfl
theorem Gn {p:Int→Bool} {s:List UInt8}:dQ p s=s.length↔∀ j,j<s.length→p ((s.getD j 0).toNat:Int)=true:=by
 constructor
 ·intro h j hj;exact vU aI
 ·intro h;apply Classical.byContradiction;intro hne;have h1:=lK p s;have h2:=yx (p:=p) (s:=s) (by omega);rw [h _ (by omega)] at h2;cases h2
theorem abp {p:Prop} (h:p:=by show s.length-(k+1)<s.length-k;omega):p:=h
theorem abn (s:List UInt8) (hs:s.length≤9223372036854775807):ak Tryz.prog 209 [.str s] (.bool (sQ s)):=by
 have hl:=Ad ((s.getD 0 0).toNat:Int);refine aO (au 36 [0,2,3,17,21,35]) Tryz.func209 ?_;conv=>whnf
 refine And.intro (fun h=>(by simp only [wo,yc] at h;by_cases h1:(s.length:Int)<1<;>simp [h1] at h;omega)) (cW ?_);refine cO (fun _=>hl) (cW ?_);unfold sQ;have e2:decide (s≠[])=!decide ((s.length:Int)<1):=by
  cases s<;>simp;omega
 have e1:decide (20<(s.length:Int))=!decide (s.length≤20):=by
  by_cases h:s.length≤20
  ·simp [h];omega
  ·simp [h];omega
 rw [e2,e1];generalize hb1:decide ((s.length:Int)<1)=b1;generalize hb2:iI ((s.getD 0 0).toNat:Int)=b2;generalize decide (s.length≤20)=b3;refine ⟨fun hc=>?_,fun hc=>?_⟩
 ·exact adT
 ·conv=>whnf
  have hb:(!b1&&b2&&b3)=true:=by cases b1<;>cases b2<;>cases b3<;>simp_all
  have hb1':b1=false:=by cases b1<;>simp_all
  have hb2':b2=true:=by cases b2<;>simp_all
  rw [hb,Bool.true_and];subst hb1';subst hb2';have hpos:1≤s.length:=by have:=of_decide_eq_false hb1;omega
  refine dO (au _ _) (σ:=Nat) (fun k=>1≤k∧k≤s.length∧∀ j,j<k→(iI ((s.getD j 0).toNat:Int)||dH ((s.getD j 0).toNat:Int))=true) (fun k=>s.length-k) (fun k=>⟨[(0,.str s),(3,.int .i64 (k:Nat))],[],0⟩) 1 ⟨Nat.le_refl _,hpos,fun j hj=>(by
   obtain rfl:j=0:=by omega
   rw [hb2];rfl)⟩ ((aj [] rfl ⟨ah,.base (.tree _ _ (show AV.int .i64 _=AV.int .i64 _ by congr 1) rfl),trivial⟩ trivial)) ?_
  rintro k ⟨hk1,hk,hP⟩;show fQ _ _ (⟨[(0,.str s),(3,.int .i64 (k:Nat))],[],0⟩) _;have hek:(k:Int).toNat=k:=Int.toNat_natCast k;conv=>whnf
  refine ⟨fun hd=>?_,fun hd=>?_⟩
  ·have hlt:k<s.length:=by have:=of_decide_eq_true hd;omega
   conv=>whnf
   refine iO (cW ?_);rw [hek];conv=>whnf
   refine cO (fun _=>Ad ((s.getD k 0).toNat:Int)) (cW ?_);refine And.intro (fun _=>⟨by omega,by omega⟩) ?_;rw [hek];conv=>whnf
   refine cO (fun _=>y8 ((s.getD k 0).toNat:Int)) (cW ?_);refine ⟨fun he=>?_,fun he=>?_⟩
   ·have hw:(iI ((s.getD k 0).toNat:Int)||dH ((s.getD k 0).toNat:Int))=false:=by revert he;cases iI ((s.getD k 0).toNat:Int)<;>cases dH ((s.getD k 0).toNat:Int)<;>simp
    conv=>whnf
    rw [decide_eq_false fun h=>by rw [(Gn.1 h) k hlt] at hw;cases hw];rfl
   ·have hw:(iI ((s.getD k 0).toNat:Int)||dH ((s.getD k 0).toNat:Int))=true:=by revert he;cases iI ((s.getD k 0).toNat:Int)<;>cases dH ((s.getD k 0).toNat:Int)<;>simp
    conv=>whnf
    refine iO (cW ?_);refine ⟨k+1,⟨by omega,hlt,fun j hj=>?_⟩,abp,(aj [] rfl ⟨ah,ah,trivial⟩ trivial)⟩;by_cases e:j=k
    ·subst e;exact hw
    ·exact hP j aI
  ·have hke:k=s.length:=by have:=of_decide_eq_false hd;omega
   conv=>whnf
   rw [decide_eq_true (Gn.2 (hke ▸ hP))];rfl
theorem EW (s:List UInt8) (hs:s.length≤9223372036854775807):ak Tryz.prog 185 [.str s] (.bool (nameB s)):=by
 have hw:=abn s hs;unfold nameB;refine aO (au 20 [0,2,3,4,9,17]) Tryz.func185 ?_;conv=>whnf
 refine cO (fun _=>af7) (cW ?_);refine aX (au _ _) 50 (fun k=>∀ j,j<k→yK.getD j []≠s) (fun k=>⟨[(0,.str s),(3,yN yK),(4,.int .i64 (k:Nat))],[],0⟩) mZ ((aj [] rfl ⟨ah,ah,ah,trivial⟩ trivial)) ?_;intro k hk hP;have hlen:yK.length=50:=rfl;conv=>whnf
 refine ⟨fun hd=>?_,fun hd=>?_⟩
 ·have hlt:k<yK.length:=by have:=of_decide_eq_true hd;omega
  have hek:(k:Int).toNat=k:=Int.toNat_natCast k;conv=>whnf
  refine iO (cW ?_);refine And.intro rfl (cW ?_);rw [hek];conv=>whnf
  refine ⟨fun he=>?_,fun he=>?_⟩
  ·have he:=of_decide_eq_true he;conv=>whnf
   rw [decide_eq_true (show s∈yK by rw [← he];exact getD_mem hlt),Bool.not_true,Bool.and_false];rfl
  ·have he:=of_decide_eq_false he;conv=>whnf
   refine iO (cW ?_);refine up aI (fun j hj=>?_) ((aj [] rfl ⟨ah,ah,ah,trivial⟩ trivial));by_cases e:j=k
   ·subst e;exact he
   ·exact hP j aI
 ·have hke:k=yK.length:=by have:=of_decide_eq_false hd;omega
  conv=>whnf
  refine cO (fun _=>hw) (cW ?_);rw [decide_eq_false (fun h:s∈yK=>by
   obtain ⟨j,hj,e⟩:=QY (d:=[]) h;exact hP j aI e),Bool.not_false,Bool.and_true]
  rfl
def dN {X:Type} (p:X→Bool):List X→Int
 | []=>-1
 | x::l=>if p x then 0 else (if dN p l<0 then -1 else dN p l+1)
theorem NS {X:Type} (p:X→Bool):∀ l:List X,-1≤dN p l
 | []=>by simp [dN]
 | x::l=>by
  have:=NS p l;unfold dN;split
  ·omega
  ·split<;>omega
theorem AA {X:Type} {p:X→Bool} {d:X}:∀ {l:List X} {k:Nat},k<l.length→(∀ j,j<k→p (l.getD j d)=false)→p (l.getD k d)=true→dN p l=k
 | [],k,h,_,_=>by simp at h
 | x::l,0,h,_,hk=>by
  have hx:p x=true:=by simpa using hk
  simp [dN,hx]
 | x::l,k+1,h,hj,hk=>by
  have hx:p x=false:=by have:=hj 0 (by omega);simpa using this
  have ih:=AA (p:=p) (d:=d) (l:=l) (k:=k) oz (fun j hj'=>by have:=hj (j+1) (by omega);simpa using this) SK;unfold dN;rw [ih];simp [hx];omega
theorem zG {X:Type} {p:X→Bool} {d:X}:∀ {l:List X},(∀ j,j<l.length→p (l.getD j d)=false)→dN p l=-1
 | [],_=>rfl
 | x::l,h=>by
  have hx:p x=false:=by have:=h 0 (by simp);simpa using this
  have ih:=zG (p:=p) (d:=d) (l:=l) (fun j hj=>by have:=h (j+1) ni;simpa using this);unfold dN;rw [ih];simp [hx]
theorem Kr {X:Type} (p:X→Bool):∀ l:List X,decide (0≤dN p l)=l.any p
 | []=>by simp [dN]
 | x::l=>by
  have ih:=Kr p l;have hge:=NS p l;unfold dN;rw [List.any_cons,← ih];cases p x
  ·simp only [Bool.false_eq_true,if_false,Bool.false_or];split
   ·simp;omega
   ·simp;omega
  ·simp
theorem Uz {p:Prop}(h:p:=by
 conv=>whnf
 refine iO (cW ?_);refine And.intro rfl (cW ?_);rw [hek];conv=>whnf
 refine cO (fun _=>hc) (cW ?_);refine ⟨fun he=>?_,fun he=>?_⟩
 ·conv=>whnf
  rw [AA hlt hP he];rfl
 ·conv=>whnf
  refine iO (cW ?_);refine up hlt (fun j hj=>?_) ((aj [] rfl ⟨ah,.fn _ _ _ _ _ fP fP,ah,ah,trivial⟩ trivial));by_cases e:j=k
  ·subst e;exact he
  ·exact hP j aI):p:=h
theorem Ko {p:Prop}(h:p:=by
 have hd:=of_decide_eq_false hd;obtain rfl:k=l.length:=by omega
 conv=>whnf
 rw [zG hP];rfl):p:=h
theorem afy (l:List Int) (fid:FuncId) (x y:Int) (p:Int→Bool) (hf:∀ e∈l,ak Tryz.prog fid (encI e::[.rop [.int .i64 x],.rop [.int .i64 y]]) (.bool (p e))) (hl:l.length≤9223372036854775807) :
  ak Tryz.prog 179 [.sl 1 encI 0 l,.fn (.func fid) [] [.rop [.int .i64 x],.rop [.int .i64 y]]] (.int .i64 (dN p l)):=by
 refine aO (au 19 [0,1,4,5,7,8,9,16]) Tryz.func179 ?_;conv=>whnf
 refine aX (au _ _) l.length (fun k=>∀ j,j<k→p (l.getD j 0)=false) (fun k=>⟨[(0,.sl 1 encI 0 l),(1,.fn (.func fid) [] [.rop [.int .i64 x],.rop [.int .i64 y]]),(7,.int .i64 (l.length:Nat)),(8,.int .i64 (k:Nat))],[],0⟩) mZ ((aj [] rfl ⟨ah,.fn _ _ _ _ _ fP fP,ah,ah,trivial⟩ trivial)) ?_;intro k hk hP;conv=>whnf
 refine ⟨fun hd=>?_,fun hd=>?_⟩
 ·have hd:=of_decide_eq_true hd;have hlt:k<l.length:=by omega
  have hek:(k:Int).toNat=k:=Int.toNat_natCast k;have hc:=hf _ (getD_mem (d:=0) hlt);exact Uz
 ·exact Ko
theorem ags (l:List Int) (fid:FuncId) (x y:Int) (p:Int→Bool) (hf:∀ e∈l,ak Tryz.prog fid (encI e::[.rop [.int .i64 x],.rop [.int .i64 y]]) (.bool (p e))) (hl:l.length≤9223372036854775807) :
  ak Tryz.prog 135 [.sl 1 encI 0 l,.fn (.func fid) [] [.rop [.int .i64 x],.rop [.int .i64 y]]] (.bool (l.any p)):=by
 have h:=afy l fid x y p hf hl;refine aO (au 9 [0,1,4]) Tryz.func135 ?_;conv=>whnf
 refine .one _ _ _ (fun _=>h) (.cons (lS rfl) (.cons (.fn _ _ _ _ _ _ _ .nil (.cons (.base (.base (.same _ rfl))) (.cons (.base (.base (.same _ rfl))) (.nil)))) .nil)) (.inl rfl) (.inl rfl) (cW ?_);show [AR.val (AV.bool (decide (dN p l ≥ 0)))]=_;rw [← Kr p l]
def inB (a b:Int) (l:List Int):Bool:=l.all fun n=>decide (a≤n)&&decide (n≤b)
def dG (n:Int):Prop:=-9223372036854775808≤n∧n≤9223372036854775807
def Qv (e:Exp) (i:Nat):Exp:=e.args.getD i Es
inductive OkE:Exp→Prop
 | mk {e:Exp} (op:dG e.op) (n:dG e.n) (unit:dG e.unit) (s:e.s.length≤9223372036854775807) (len:e.args.length≤9223372036854775807) (args:∀ a∈e.args,OkE a):OkE e
theorem OkE.n64 {e:Exp} (h:OkE e):dG e.n:=by cases h;assumption
theorem Uf {s:List UInt8} (h:nameB s=true):s.length≤20:=by
 unfold nameB sQ at h;simp only [Bool.and_eq_true,decide_eq_true_eq] at h;exact h.1.1.2
theorem KT {e:Exp} {i:Nat} (h:i<e.args.length):Qv e i∈e.args:=getD_mem h
theorem afo (l:List Opr) (fid:FuncId) (cs:List AV) (p:Opr→Bool) (hf:∀ e∈l,ak Tryz.prog fid (Kv e::[.rop cs]) (.bool (p e))) (hl:l.length≤9223372036854775807) (h1:rF cs=true) :
  ak Tryz.prog 241 [.sl 3 Kv o0 l,.fn (.func fid) [] [.rop cs]] (.int .i64 (dN p l)):=by
 refine aO (au 19 [0,1,4,5,7,8,9,16]) Tryz.func241 ?_;conv=>whnf
 refine aX (au _ _) l.length (fun k=>∀ j,j<k→p (l.getD j o0)=false) (fun k=>⟨[(0,.sl 3 Kv o0 l),(1,.fn (.func fid) [] [.rop cs]),(7,.int .i64 (l.length:Nat)),(8,.int .i64 (k:Nat))],[],0⟩) mZ ((aj [] rfl ⟨ah,.fn _ _ _ _ _ fP fP,ah,ah,trivial⟩ trivial)) ?_;intro k hk hP;conv=>whnf
 refine ⟨fun hd=>?_,fun hd=>?_⟩
 ·have hd:=of_decide_eq_true hd;have hlt:k<l.length:=by omega
  have hek:(k:Int).toNat=k:=Int.toNat_natCast k;have hc:=hf _ (getD_mem (d:=o0) hlt);exact Uz
 ·exact Ko
abbrev cellsE (e:Exp):List AV:=[.int .i64 e.op,.int .i64 e.n,.int .i64 e.unit,.str e.s,.lsl 5 (jO e)]
def uM (y:Int):Bool:=decide (y % 4=0)&&(decide (y % 100≠0)||decide (y % 400=0))
theorem ac6 (y:Int):uM y=true↔y % 4=0∧(y % 100≠0∨y % 400=0):=by
 unfold uM;simp only [Bool.and_eq_true,Bool.or_eq_true,decide_eq_true_eq]
def qN (y m:Int):Int :=
 if m=1∨m=3∨m=5∨m=7∨m=8∨m=10∨m=12 then 31
 else if m=4∨m=6∨m=9∨m=11 then 30
 else if m=2 then (if uM y=true then 29 else 28) else 0
def jf (y:Int):Int:=365*(y-1-1899)+(y-1) / 4-(y-1) / 100+(y-1) / 400-460
def QW (y:Int):Int:=if uM y=true then 366 else 365
theorem ab8 (y:Int):jf (y+1)=jf y+QW y:=by
 have h:=ac6 y;unfold jf QW;by_cases hl:uM y=true
 ·rw [if_pos hl];have:=h.1 hl;omega
 ·rw [if_neg hl];have:¬ (y % 4=0∧(y % 100≠0∨y % 400=0)):=fun k=>hl (h.2 k)
  omega
theorem Q7:jf 1900=0:=by decide
theorem aak (y:Int):365≤QW y∧QW y≤366:=by unfold QW;split<;>omega
theorem aaS {y z:Int} (h:y<z):jf (y+1)≤jf z:=by unfold jf;omega
theorem QV (y:Int) (h:jf y≤200000):y≤3000:=by unfold jf at h;omega
theorem Zy (y:Int) (h:1900≤y):0≤jf y:=by unfold jf;omega
def nY (y:Int):Nat→Int
 | 0=>0
 | k+1=>nY y k+qN y ((k:Int)+1)
theorem uV (y m:Int):0≤qN y m∧qN y m≤31:=by unfold qN;repeat' split;all_goals omega
theorem Ky {y m:Int} (h:¬ (1≤m∧m≤12)):qN y m=0:=by
 unfold qN;rw [if_neg (by omega),if_neg (by omega),if_neg (by omega)]
theorem TS (y:Int):∀ k:Nat,0≤nY y k∧nY y k≤31*k
 | 0=>by simp [nY]
 | k+1=>by
  have:=TS y k;have:=uV y ((k:Int)+1);simp only [nY];omega
def dayOf (y m d:Int):Int×Int :=
 if d<1∨qN y m<d then (0,23)
 else if y<1900∨3000<y then (0,3)
 else if 0≤jf y+d-1+nY y (m-1).toNat∧jf y+d-1+nY y (m-1).toNat≤200000 then (jf y+d-1+nY y (m-1).toNat,0)
 else (0,3)
theorem afU (y:Int) (hy:0≤y):ak Tryz.prog 265 [.int .i64 y] (.bool (uM y)):=by
 have e1:Int.tmod y 4=y % 4:=Int.tmod_eq_emod_of_nonneg hy;have e2:Int.tmod y 100=y % 100:=Int.tmod_eq_emod_of_nonneg hy;have e3:Int.tmod y 400=y % 400:=Int.tmod_eq_emod_of_nonneg hy;refine aO (au 16 [0,2]) Tryz.func265 ?_;conv=>whnf
 refine And.intro KF (cW ?_);refine And.intro KF (cW ?_);refine And.intro KF (cW ?_);rw [e1,e2,e3];unfold uM;simp
theorem YI (y:Int) (hy:1≤y) (h2:y≤1000000000001):ak Tryz.prog 238 [.int .i64 y] (.int .i64 (jf y)):=by
 have e1:Int.tdiv (y-1) 4=(y-1) / 4:=Int.tdiv_eq_ediv_of_nonneg (by omega);have e2:Int.tdiv (y-1) 100=(y-1) / 100:=Int.tdiv_eq_ediv_of_nonneg (by omega);have e3:Int.tdiv (y-1) 400=(y-1) / 400:=Int.tdiv_eq_ediv_of_nonneg (by omega);refine aO (au 18 [0,2]) Tryz.func238 ?_;conv=>whnf
 repeat (first | (refine iO (cW ?_)) | (refine And.intro (by omega) (And.intro rfl (cW ?_))) | (refine And.intro rfl (cW ?_)) | (refine And.intro (fun _=>⟨by omega,by omega⟩) (cW ?_)) | (refine And.intro (fun _=>by omega) (And.intro rfl (cW ?_))) | (refine And.intro ⟨uN,uN⟩ (cW ?_)) | (refine Exists.intro _ (And.intro rfl (And.intro uN (And.intro ⟨rfl,rfl,rfl,rfl,rfl⟩ (cW ?_))))) | (refine And.intro ⟨rfl,rfl⟩ (And.intro uN (cW ?_))) | (refine Exists.intro _ (And.intro rfl (cW ?_))) | (refine nE (cW ?_)) | (refine nD (cW ?_)) | (refine .quiet bZ (cW ?_)))
 refine And.intro KF (cW ?_);rw [e1];repeat (first | (refine iO (cW ?_)) | (refine And.intro (by omega) (And.intro rfl (cW ?_))) | (refine And.intro rfl (cW ?_)) | (refine And.intro (fun _=>⟨by omega,by omega⟩) (cW ?_)) | (refine And.intro (fun _=>by omega) (And.intro rfl (cW ?_))) | (refine And.intro ⟨uN,uN⟩ (cW ?_)) | (refine Exists.intro _ (And.intro rfl (And.intro uN (And.intro ⟨rfl,rfl,rfl,rfl,rfl⟩ (cW ?_))))) | (refine And.intro ⟨rfl,rfl⟩ (And.intro uN (cW ?_))) | (refine Exists.intro _ (And.intro rfl (cW ?_))) | (refine nE (cW ?_)) | (refine nD (cW ?_)) | (refine .quiet bZ (cW ?_)))
 refine And.intro KF (cW ?_);rw [e2];repeat (first | (refine iO (cW ?_)) | (refine And.intro (by omega) (And.intro rfl (cW ?_))) | (refine And.intro rfl (cW ?_)) | (refine And.intro (fun _=>⟨by omega,by omega⟩) (cW ?_)) | (refine And.intro (fun _=>by omega) (And.intro rfl (cW ?_))) | (refine And.intro ⟨uN,uN⟩ (cW ?_)) | (refine Exists.intro _ (And.intro rfl (And.intro uN (And.intro ⟨rfl,rfl,rfl,rfl,rfl⟩ (cW ?_))))) | (refine And.intro ⟨rfl,rfl⟩ (And.intro uN (cW ?_))) | (refine Exists.intro _ (And.intro rfl (cW ?_))) | (refine nE (cW ?_)) | (refine nD (cW ?_)) | (refine .quiet bZ (cW ?_)))
 refine And.intro KF (cW ?_);rw [e3];repeat (first | (refine iO (cW ?_)) | (refine And.intro (by omega) (And.intro rfl (cW ?_))) | (refine And.intro rfl (cW ?_)) | (refine And.intro (fun _=>⟨by omega,by omega⟩) (cW ?_)) | (refine And.intro (fun _=>by omega) (And.intro rfl (cW ?_))) | (refine And.intro ⟨uN,uN⟩ (cW ?_)) | (refine Exists.intro _ (And.intro rfl (And.intro uN (And.intro ⟨rfl,rfl,rfl,rfl,rfl⟩ (cW ?_))))) | (refine And.intro ⟨rfl,rfl⟩ (And.intro uN (cW ?_))) | (refine Exists.intro _ (And.intro rfl (cW ?_))) | (refine nE (cW ?_)) | (refine nD (cW ?_)) | (refine .quiet bZ (cW ?_)))
 unfold jf;rfl
theorem aaO (n:Int):ak Tryz.prog 239 [.int .i64 n] (.bool (decide (0≤n)&&decide (n≤200000))):=by
 refine aO (au 9 [0,2]) Tryz.func239 ?_;conv=>whnf
 rfl
theorem w_ {p:Prop} (h:p:=by simp at hx;omega):p:=h
theorem Vm (y m:Int) (hy:0≤y):ak Tryz.prog 237 [.int .i64 y,.int .i64 m] (.int .i64 (qN y m)):=by
 have hl:=afU y hy
 have hv:qN y m=if m=1∨m=3∨m=5∨m=7∨m=8∨m=10∨m=12 then 31
  else if m=4∨m=6∨m=9∨m=11 then 30 else if m=2 then (if uM y=true then 29 else 28) else 0:=rfl
 have key:m=1∨m=3∨m=5∨m=7∨m=8∨m=10∨m=12∨m=4∨m=6∨m=9∨m=11∨m=2∨(m≠1∧m≠3∧m≠5∧m≠7∧m≠8∧m≠10∧m≠12∧m≠4∧m≠6∧m≠9∧m≠11∧m≠2):=by omega
 rw [hv];rcases key with h | h | h | h | h | h | h | h | h | h | h | h | h
 case inr.inr.inr.inr.inr.inr.inr.inr.inr.inr.inr.inl =>
  rw [if_neg (by omega),if_neg (by omega),if_pos h];refine aO (au 23 [0,1,4,5,6,14,19,22]) Tryz.func237 ?_;conv=>whnf
  repeat (first | (refine ⟨fun _=>?_,fun hx=>w_⟩;conv=>whnf) | (refine ⟨fun hx=>w_,fun _=>?_⟩;conv=>whnf))
  refine cO (fun _=>hl) (cW ?_);refine ⟨fun hq=>?_,fun hq=>?_⟩
  ·rw [if_pos hq];conv=>whnf
   rfl
  ·rw [if_neg (by rw [hq];decide)];conv=>whnf
   rfl
 all_goals
  refine aO (au 23 [0,1,4,5,6,14,19,22]) Tryz.func237 ?_;conv=>whnf
  repeat (first | (refine ⟨fun _=>?_,fun hx=>w_⟩;conv=>whnf) | (refine ⟨fun hx=>w_,fun _=>?_⟩;conv=>whnf))
 all_goals
  refine congrArg (fun z:Int=>[AR.val (AV.int .i64 z)]) ?_;clear hv;repeat' split
  all_goals omega
theorem Tv (y:Int) (hy:0≤y):ak Tryz.prog 283 [.int .i64 y] (.bool (uM y)):=by
 have e1:Int.tmod y 4=y % 4:=Int.tmod_eq_emod_of_nonneg hy;have e2:Int.tmod y 100=y % 100:=Int.tmod_eq_emod_of_nonneg hy;have e3:Int.tmod y 400=y % 400:=Int.tmod_eq_emod_of_nonneg hy;refine aO (au 12 [0,2,5]) Tryz.func283 ?_;conv=>whnf
 refine And.intro KF (cW ?_);rw [e2];refine ⟨fun h=>?_,fun h=>?_⟩
 ·have h:=of_decide_eq_true h;conv=>whnf
  refine And.intro KF (cW ?_);rw [e3];have:uM y=decide (y % 400=0):=by
   unfold uM;by_cases h4:y % 400=0
   ·have:y % 4=0:=by omega
    simp [h4,this]
   ·simp [h,h4]
  rw [this];rfl
 ·have h:=of_decide_eq_false h;conv=>whnf
  refine And.intro KF (cW ?_);rw [e1];have:uM y=decide (y % 4=0):=by
   unfold uM;simp [h]
  rw [this];rfl
theorem ab5 (y:Int) (hy:0≤y):ak Tryz.prog 271 [.int .i64 y] (.int .i64 (QW y)):=by
 have hl:=Tv y hy;unfold QW;refine aO (au 5 [0,2,4]) Tryz.func271 ?_;conv=>whnf
 refine cO (fun _=>hl) (cW ?_);refine ⟨fun h=>?_,fun h=>?_⟩
 ·rw [if_pos h];conv=>whnf
  rfl
 ·rw [if_neg (by rw [h];decide)];conv=>whnf
  rfl
theorem ahK {p:Prop}(h:p:=by
 conv=>whnf
 repeat (first | (refine iO (cW ?_)) | (refine And.intro (by omega) (And.intro rfl (cW ?_))) | (refine And.intro rfl (cW ?_)) | (refine And.intro (fun _=>⟨by omega,by omega⟩) (cW ?_)) | (refine And.intro (fun _=>by omega) (And.intro rfl (cW ?_))) | (refine And.intro ⟨uN,uN⟩ (cW ?_)) | (refine Exists.intro _ (And.intro rfl (And.intro uN (And.intro ⟨rfl,rfl,rfl,rfl,rfl⟩ (cW ?_))))) | (refine And.intro ⟨rfl,rfl⟩ (And.intro uN (cW ?_))) | (refine Exists.intro _ (And.intro rfl (cW ?_))) | (refine nE (cW ?_)) | (refine nD (cW ?_)) | (refine .quiet bZ (cW ?_)))
 refine And.intro (by simp) (cW ?_);refine And.intro (by simp) (cW ?_);refine And.intro rfl (cW ?_);rfl):p:=h
theorem Oo {p:Prop}(h:p:=by
 refine ⟨fun _=>?_,fun hx=>w_⟩;conv=>whnf
 rfl):p:=h
theorem QO (y m:Int) (hy:0≤y) (h1:-9223372036854775807≤m):ak Tryz.prog 270 [.int .i64 y,.int .i64 m] (.int .i64 (qN y m)):=by
 have hl:=Tv y hy;by_cases hout:m<1∨12<m
 ·rw [Ky (show ¬ (1≤m∧m≤12) by omega)];refine aO (au 22 [0,1,4,10,16]) Tryz.func270 ?_;conv=>whnf
  exact Oo
 have key:m=2∨m=1∨m=3∨m=4∨m=5∨m=6∨m=7∨m=8∨m=9∨m=10∨m=11∨m=12:=by omega
 rcases key with h | h | h | h | h | h | h | h | h | h | h | h
 all_goals
  subst h;unfold qN
 ·rw [if_neg (by decide),if_neg (by decide),if_pos rfl];refine aO (au 22 [0,1,4,10,16]) Tryz.func270 ?_;conv=>whnf
  refine ⟨fun hx=>absurd hx bT,fun _=>?_⟩;conv=>whnf
  refine cO (fun _=>hl) (cW ?_);refine ⟨fun hq=>?_,fun hq=>?_⟩
  ·rw [if_pos (by simpa using hq)];conv=>whnf
   rfl
  ·rw [if_neg (by simpa using hq)];exact ahK
 all_goals
  refine aO (au 22 [0,1,4,10,16]) Tryz.func270 ?_;conv=>whnf
  refine ⟨fun hx=>absurd hx bT,fun _=>?_⟩;conv=>whnf
  refine cO (fun _=>hl) (cW ?_);refine ⟨fun hx=>absurd hx (by simp),fun _=>?_⟩;exact ahK
def NY (y m d:Int):List AR:=[.val (.int .i64 (dayOf y m d).1),.val (.int .i64 (dayOf y m d).2)]
theorem ah2 {p:Prop}(h:p:=by
 conv=>whnf
 refine cO (fun _=>hls) (cW ?_);refine iO (cW ?_);refine iO (cW ?_);exact ⟨k+1,(by show ((k+1:Nat):Int)≤m-1;omega),(by show 12-(k+1)<12-k;omega),(aj [] rfl ⟨ah,ah,ah,ah,ah,.base (.tree _ _ (show AV.int .i64 _=AV.int .i64 _ by congr 1;simp only [nY];omega) rfl),ah,trivial⟩ trivial)⟩):p:=h
theorem abu (y m d:Int) (hy:0≤y) (hy2:y≤1000000000000000) (hd:-9223372036854775808≤d):bM Tryz.prog 198 [.int .i64 y,.int .i64 m,.int .i64 d] (fun rs=>rs=NY y m d):=by
 have hl:=Vm y m hy;have hlb:=uV y m
 have hv:dayOf y m d=if d<1∨qN y m<d then (0,23)
  else if y<1900∨3000<y then (0,3)
  else if 0≤jf y+d-1+nY y (m-1).toNat∧jf y+d-1+nY y (m-1).toNat≤200000 then (jf y+d-1+nY y (m-1).toNat,0)
  else (0,3):=rfl
 unfold NY;rw [hv];by_cases h1:d<1∨qN y m<d
 ·rw [if_pos h1];refine aO (au 44 [0,1,2,6,7,8,9,18,24,32,42]) Tryz.func198 ?_;conv=>whnf
  refine cO (fun _=>hl) (cW ?_);exact Oo
 rw [if_neg h1];have hm:1≤m∧m≤12:=by
  apply Classical.byContradiction;intro hn;rw [Ky hn] at h1;omega
 by_cases h2:y<1900∨3000<y
 ·rw [if_pos h2];refine aO (au 44 [0,1,2,6,7,8,9,18,24,32,42]) Tryz.func198 ?_;conv=>whnf
  refine cO (fun _=>hl) (cW ?_);refine ⟨fun hx=>w_,fun _=>?_⟩;conv=>whnf
  exact Oo
 rw [if_neg h2];have hb:=YI y (by omega) (by omega);have hbn:=Zy y (by omega);have hbm:jf y≤500000:=by unfold jf;omega
 refine aO (au 44 [0,1,2,6,7,8,9,18,24,32,42]) Tryz.func198 ?_;conv=>whnf
 refine cO (fun _=>hl) (cW ?_);refine ⟨fun hx=>w_,fun _=>?_⟩;conv=>whnf
 refine ⟨fun hx=>w_,fun _=>?_⟩;conv=>whnf
 refine cO (fun _=>hb) (cW ?_);refine iO (cW ?_);refine iO (cW ?_);refine dO (au _ _) (fun k:Nat=>(k:Int)≤m-1) (fun k=>12-k) (fun k=>⟨[(0,.int .i64 y),(1,.int .i64 m),(2,.int .i64 d),(6,.int .i64 0),(7,.int .i64 0),(8,.int .i64 (jf y+d-1+nY y k)),(9,.int .i64 ((k:Nat)+1))],[],0⟩) 0 (by show ((0:Nat):Int)≤_;omega) ((aj [] rfl ⟨ah,ah,ah,ah,ah,.base (.tree _ _ (show AV.int .i64 _=AV.int .i64 _ by congr 1;show _=jf y+d-1+0;omega) rfl),ah,trivial⟩ trivial)) ?_;intro k hk;have hk2:(k:Int)≤m-1:=hk;have hls:=Vm y ((k:Int)+1) hy;have hlb:=uV y ((k:Int)+1);have hsl:=TS y k;conv=>whnf
 refine ⟨fun hm=>?_,fun hm=>?_⟩
 ·have hm:=of_decide_eq_true hm;exact ah2
 ·have hm:=of_decide_eq_false hm;have hke:(m-1).toNat=k:=by omega
  have hday:=aaO (jf y+d-1+nY y k);conv=>whnf
  refine cO (fun _=>hday) (cW ?_);rw [hke];by_cases h3:0≤jf y+d-1+nY y k∧jf y+d-1+nY y k≤200000
  ·rw [if_pos h3];refine ⟨fun hx=>w_,fun _=>?_⟩;conv=>whnf
   rfl
  ·rw [if_neg h3];exact Oo
theorem YE (y m d:Int) (hy:0≤y) (hm1:-9223372036854775807≤m):bM Tryz.prog 256 [.int .i64 y,.int .i64 m,.int .i64 d] (fun rs=>rs=NY y m d):=by
 have hl:=QO y m hy hm1;have hlb:=uV y m
 have hv:dayOf y m d=if d<1∨qN y m<d then (0,23)
  else if y<1900∨3000<y then (0,3)
  else if 0≤jf y+d-1+nY y (m-1).toNat∧jf y+d-1+nY y (m-1).toNat≤200000 then (jf y+d-1+nY y (m-1).toNat,0)
  else (0,3):=rfl
 unfold NY;rw [hv];by_cases h1:d<1∨qN y m<d
 ·rw [if_pos h1];refine aO (au 60 [0,1,2,6,7,8,9,10,27,32,46,58]) Tryz.func256 ?_;conv=>whnf
  refine cO (fun _=>hl) (cW ?_);exact Oo
 rw [if_neg h1];have hm:1≤m∧m≤12:=by
  apply Classical.byContradiction;intro hn;rw [Ky hn] at h1;omega
 refine aO (au 60 [0,1,2,6,7,8,9,10,27,32,46,58]) Tryz.func256 ?_;conv=>whnf
 refine cO (fun _=>hl) (cW ?_);refine ⟨fun hx=>w_,fun _=>?_⟩;conv=>whnf
 refine iO (cW ?_);refine dO (au _ _) (fun k:Nat=>(k:Int)≤m-1) (fun k=>12-k) (fun k=>⟨[(0,.int .i64 y),(1,.int .i64 m),(2,.int .i64 d),(6,.int .i64 0),(7,.int .i64 0),(8,.int .i64 (d-1+nY y k)),(9,.int .i64 ((k:Nat)+1))],[],0⟩) 0 (by show ((0:Nat):Int)≤_;omega) ((aj [] rfl ⟨ah,ah,ah,ah,ah,.base (.tree _ _ (show AV.int .i64 _=AV.int .i64 _ by congr 1;show _=d-1+0;omega) rfl),ah,trivial⟩ trivial)) ?_;intro k hk;have hk2:(k:Int)≤m-1:=hk;have hls:=QO y ((k:Int)+1) hy (by omega);have hlb:=uV y ((k:Int)+1);have hsl:=TS y k;conv=>whnf
 refine ⟨fun hmm=>?_,fun hmm=>?_⟩
 ·have hmm:=of_decide_eq_true hmm;exact ah2
 have hmm:=of_decide_eq_false hmm;have hke:(m-1).toNat=k:=by omega
 rw [hke];conv=>whnf
 refine dO (au _ _) (fun z:Int=>1900≤z∧(z≤y∨z=1900)∧jf z≤200366) (fun z=>(4000-z).toNat) (fun z=>⟨[(0,.int .i64 y),(6,.int .i64 0),(7,.int .i64 0),(8,.int .i64 (jf z+d-1+nY y k)),(10,.int .i64 z)],[],0⟩) 1900 ⟨by omega,.inr rfl,by rw [Q7];omega⟩ ((aj [] rfl ⟨ah,ah,ah,.base (.tree _ _ (show AV.int .i64 _=AV.int .i64 _ by congr 1;rw [Q7];omega) rfl),ah,trivial⟩ trivial)) ?_;intro z ⟨hz1,hz2,hz3⟩;have hyr:=ab5 z (by omega);have hyb:=aak z;have hbs:=ab8 z;have hbn:=Zy z hz1;conv=>whnf
 by_cases hgo:z<y∧jf z+d-1+nY y k≤200000
 ·refine ⟨fun _=>?_,fun hx=>w_⟩;conv=>whnf
  refine cO (fun _=>hyr) (cW ?_);refine iO (cW ?_);have hz4:=QV z (by omega);refine iO (cW ?_);exact ⟨z+1,⟨by omega,by omega,by omega⟩,(by show (4000-(z+1)).toNat<(4000-z).toNat;omega),(aj [] rfl ⟨ah,ah,ah,.base (.tree _ _ (show AV.int .i64 _=AV.int .i64 _ by congr 1;omega) rfl),ah,trivial⟩ trivial)⟩
 ·refine ⟨fun hx=>w_,fun _=>?_⟩;conv=>whnf
  by_cases hlow:y<1900
  ·rw [if_pos (by omega)];exact Oo
  have hmono:jf z≤jf y:=by
   by_cases e:z=y
   ·rw [e];exact Int.le_refl _
   ·have:=aaS (show z<y by omega);omega
  have hhi:3000<y→200000<jf y:=by
   intro h;apply Classical.byContradiction;intro hn;have:=QV y (by omega);omega
  by_cases hbig:200000<jf z+d-1+nY y k
  ·refine ⟨fun _=>?_,fun hx=>w_⟩;conv=>whnf
   by_cases h3:y<1900∨3000<y
   ·rw [if_pos h3];rfl
   ·rw [if_neg h3,if_neg (by omega)];rfl
  ·have hze:z=y:=by omega
   subst hze;rw [if_neg (by omega),if_pos (by omega)];refine ⟨fun hx=>w_,fun _=>?_⟩;conv=>whnf
   rfl
abbrev Er:=Int×Int
abbrev Ps (α:Type):=Except Er (α×List Tok)
def bV (r:List Tok):Tok:=r.headD t0
def Fin1:List Tok→Prop
 | []=>False
 | [t]=>t.kind=3
 | t::r=>t.kind≠3∧Fin1 r
def aV (s:List UInt8) (r:List Tok):Bool:=decide ((bV r).kind≠3)&&decide ((bV r).text=s)
def jm {α:Type} (e:Int) (r:List Tok):Except Er α:=.error ((bV r).pos,e)
def aT (s:List UInt8) (r:List Tok):Except Er (List Tok):=if aV s r=true then .ok r.tail else jm 12 r
def mD (r:List Tok):Bool:=decide ((bV r).kind=0)&&nameB (bV r).text
def nameP (r:List Tok):Ps (List UInt8):=if mD r=true then .ok ((bV r).text,r.tail) else jm 12 r
def iV (a b:Int) (r:List Tok):Ps Int :=
 if (bV r).kind≠1 then jm 12 r else if a≤(bV r).n∧(bV r).n≤b then .ok ((bV r).n,r.tail) else jm 3 r
def jM (r:List Tok):Int×List Tok :=
 if aV [99,111,105,110,115] r=true then (1,r.tail)
 else if aV [100,97,121,115] r=true then (3,r.tail)
 else if aV [109,105,108,108,101] r=true then (2,r.tail)
 else (0,r)
abbrev Rec:=Int→List Tok→Ps Exp
def gU (ex:Rec) (op:Int) (r:List Tok):Ps Exp :=
 match iV 1 1000 r with
 | .error e=>.error e
 | .ok (n,r)=>match aT [40] r with
  | .error e=>.error e
  | .ok r=>match ex 0 r with
   | .error e=>.error e
   | .ok (x,r)=>match aT [41] r with
    | .error e=>.error e
    | .ok r=>.ok (.mk op n 0 [] [x],r)
def oH (ex:Rec) (op:Int) (r:List Tok):Ps Exp :=
 match aT [40] r with
 | .error e=>.error e
 | .ok r=>match ex 0 r with
  | .error e=>.error e
  | .ok (x,r)=>match aT [44] r with
   | .error e=>.error e
   | .ok r=>match ex 0 r with
    | .error e=>.error e
    | .ok (y,r)=>match aT [41] r with
     | .error e=>.error e
     | .ok r=>.ok (.mk op 0 0 [] [x,y],r)
def kF (op:Int) (r:List Tok):Ps Exp :=
 match nameP r with
 | .error e=>.error e
 | .ok (s,r)=>.ok (.mk op 0 0 s [],r)
def rP (ex:Rec) (r:List Tok):Ps Exp :=
 match ex 0 r with
 | .error e=>.error e
 | .ok (x,r)=>match aT [41] r with
  | .error e=>.error e
  | .ok r=>.ok (x,r)
def iW (ex:Rec) (r:List Tok):Ps Exp :=
 if (bV r).kind=1 then .ok (.mk 0 (bV r).n (jM r.tail).1 [] [],(jM r.tail).2)
 else if aV [116,114,117,101] r=true then .ok (.mk 0 1 4 [] [],r.tail)
 else if aV [102,97,108,115,101] r=true then .ok (.mk 0 0 4 [] [],r.tail)
 else if aV [102,97,99,116] r=true then kF 2 r.tail
 else if aV [114,97,116,101] r=true then kF 3 r.tail
 else if aV [101,118,101,114] r=true then gU ex 16 r.tail
 else if aV [108,111,110,103] r=true then gU ex 17 r.tail
 else if aV [115,111,111,110] r=true then gU ex 18 r.tail
 else if aV [109,105,110] r=true∨aV [109,97,120] r=true then oH ex (if aV [109,97,120] r=true then 9 else 8) r.tail
 else if aV [40] r=true then rP ex r.tail
 else kF 1 r
def zx (ex:Rec) (r:List Tok):Ps Exp :=
 match ex 0 r with
 | .error e=>.error e
 | .ok (x,r)=>match aT [116,104,101,110] r with
  | .error e=>.error e
  | .ok r=>match ex 0 r with
   | .error e=>.error e
   | .ok (y,r)=>match aT [101,108,115,101] r with
    | .error e=>.error e
    | .ok r=>match ex 0 r with
     | .error e=>.error e
     | .ok (z,r)=>.ok (.mk 15 0 0 [] [x,y,z],r)
def notP (ex:Rec) (r:List Tok):Ps Exp :=
 match ex 3 r with
 | .error e=>.error e
 | .ok (x,r)=>.ok (.mk 12 0 0 [] [x],r)
def yR (ex:Rec) (form:Int) (r:List Tok):Except Er ((Exp×Int)×List Tok) :=
 if form=0∧aV [105,102] r=true then (match zx ex r.tail with
  | .error e=>.error e
  | .ok (x,r)=>.ok ((x,0),r))
 else if form≤3∧aV [110,111,116] r=true then (match notP ex r.tail with
  | .error e=>.error e
  | .ok (x,r)=>.ok ((x,3),r))
 else match iW ex r with
  | .error e=>.error e
  | .ok (x,r)=>.ok ((x,7),r)
def iE (r:List Tok):Int:=dN (fun o:Opr=>aV o.text r) m_
def opAt (i:Int):Opr:=m_.getD i.toNat o0
def kZ (ex:Rec) (form:Int):Nat→Exp→Int→List Tok→Ps Exp
 | 0,e,_,r=>.ok (e,r)
 | f+1,e,own,r =>
  if iE r<0 then .ok (e,r)
  else
   let x:=opAt (iE r)
   if x.form<form∨own<x.form∨own=4∧x.form=4 then .ok (e,r)
   else match ex (x.form+1) r.tail with
    | .error e=>.error e
    | .ok (y,r')=>kZ ex form f (.mk x.op 0 0 [] [e,y]) x.form r'
def yH (ex:Rec) (form:Int) (r:List Tok):Ps Exp :=
 match yR ex form r with
 | .error e=>.error e
 | .ok ((e,own),r')=>kZ ex form r'.length e own r'
def xX:Nat→Rec
 | 0,_,r=>jm 12 r
 | f+1,form,r=>yH (xX f) form r
mutual
def jP:Exp→Nat
 | .mk _ _ _ _ args=>pR args+1
def pR:List Exp→Nat
 | []=>0
 | e::l=>max (jP e) (pR l)
end
set_option maxHeartbeats 40000000
abbrev dw (T r:List Tok):List AV:=[Gx T,.int .i64 ((T.length-r.length:Nat):Int)]
abbrev cu (T r:List Tok):AB:=.cells 183 (dw T r)
structure PSt (T r:List Tok):Prop where
 suf:r <:+ T
 fin:Fin1 r
 big:T.length≤1000000000000
 txt:∀ t∈T,t.text.length≤4000∧0≤t.n∧t.n≤1000000000000000
theorem Fin1.ne {r:List Tok} (h:Fin1 r):r≠[]:=by cases r<;>simp_all [Fin1]
theorem Fin1.tail {r:List Tok} (h:Fin1 r) (hk:(bV r).kind≠3):Fin1 r.tail:=by
 match r,h with
 | [t],h=>exact (hk h).elim
 | t::u::r,h=>exact h.2
theorem PSt.pos {T r:List Tok} (h:PSt T r):0<r.length:=List.length_pos_iff.2 h.fin.ne
theorem PSt.le {T r:List Tok} (h:PSt T r):r.length≤T.length:=h.suf.length_le
theorem PSt.get {T r:List Tok} (h:PSt T r):T.getD (T.length-r.length) t0=bV r:=by
 obtain ⟨p,hp⟩:=h.suf;have hlen:T.length=p.length+r.length:=by rw [← hp,List.length_append]
 rw [show T.length-r.length=p.length by omega,← hp,List.getD_eq_getElem?_getD,List.getElem?_append_right (Nat.le_refl _),Nat.sub_self];cases r with
 | nil=>rfl
 | cons t r=>rfl
theorem PSt.tail {T r:List Tok} (h:PSt T r) (hk:(bV r).kind≠3):PSt T r.tail :=
 ⟨(List.tail_suffix r).trans h.suf,h.fin.tail hk,h.big,h.txt⟩
theorem PSt.hd {T r:List Tok} (h:PSt T r):bV r∈T:=by
 have hp:=h.pos;cases r with
 | nil=>simp at hp
 | cons t r=>exact h.suf.subset List.mem_cons_self
theorem PSt.tlen {T r:List Tok} (h:PSt T r):(bV r).text.length≤4000:=(h.txt _ h.hd).1
theorem bf {s:List UInt8} {r:List Tok} (h:aV s r=true):(bV r).kind≠3:=by
 unfold aV at h;simp only [Bool.and_eq_true,decide_eq_true_eq] at h;exact h.1
theorem PSt.at {T r:List Tok} (h:PSt T r):((T.length-r.length:Nat):Int)+1=((T.length-r.tail.length:Nat):Int):=by
 have h1:=h.pos;have h2:=h.le;rw [List.length_tail];omega
theorem jh {T r:List Tok} (h:PSt T r):ak Tryz.prog 173 [.rop (dw T r)] (yQ (bV r)):=by
 have h1:=h.pos;have h2:=h.le;have h3:=h.big;have hg:=h.get;have ht:(((T.length-r.length:Nat):Int)).toNat=T.length-r.length:=Int.toNat_natCast _;refine aO (au 13 [0,2]) Tryz.func173 ?_;conv=>whnf
 refine .eff ad0 (cW ?_);refine iO (cW ?_);refine And.intro rfl (cW ?_);refine And.intro rfl (cW ?_);rw [ht,hg];rfl
theorem aeX {p:Prop}(h:p:=by
 conv=>whnf
 refine cO (fun _=>hn) (cW ?_);rw [hk];refine gT (cW ?_);refine cO (fun _=>hn) (cW ?_);rfl):p:=h
theorem adt {p:Prop}(h:p:=by
 conv=>whnf
 refine cO (fun _=>hn) (cW ?_);rw [hk];refine gF (cW ?_);rfl):p:=h
theorem zZ {T r:List Tok} (h:PSt T r) (s:List UInt8):ak Tryz.prog 200 [.rop (dw T r),.str s] (.bool (aV s r)):=by
 have hn:=jh h;unfold aV;cases hk:decide ((bV r).kind=3) with
 | true =>
  have e:decide ((bV r).kind≠3)=false:=by simpa using hk
  rw [e];refine aO (au 16 [0,1,4]) Tryz.func200 ?_;exact adt
 | false =>
  have e:decide ((bV r).kind≠3)=true:=by simpa using hk
  rw [e];refine aO (au 16 [0,1,4]) Tryz.func200 ?_;exact aeX
theorem named_ok {T r:List Tok} (h:PSt T r):ak Tryz.prog 197 [.rop (dw T r)] (.bool (mD r)):=by
 have hn:=jh h;have hm:=VB (bV r).text (by have:=h.tlen;omega);unfold mD;cases hk:decide ((bV r).kind=0) with
 | false =>
  refine aO (au 13 [0,2]) Tryz.func197 ?_;conv=>whnf
  refine cO (fun _=>hn) (cW ?_);rw [hk];refine gF (cW ?_);refine cF [.undef] [.val (.bool false)] (cW ?_);rfl
 | true =>
  refine aO (au 13 [0,2]) Tryz.func197 ?_;conv=>whnf
  refine cO (fun _=>hn) (cW ?_);rw [hk];refine gT (cW ?_);refine cO (fun _=>hn) (cW ?_);refine cO (fun _=>hm) (cW ?_);rfl
theorem dM {p:Prop}(h:p:=by
 conv=>whnf
 exact ⟨rfl,rfl,rfl,rfl⟩):p:=h
theorem J9 {p:Prop}(h:p:=by
 conv=>whnf
 refine ⟨_,Wk.refl _,rfl,rfl,?_⟩;exact dM):p:=h
theorem adU {p:Prop}(h:p:=by
 conv=>whnf
 refine cO (fun _=>hn) (cW ?_);refine gF (cW ?_);refine iO (cW ?_);rw [hat];refine ⟨_,Wk.refl _,rfl,rfl,?_⟩;exact dM):p:=h
theorem KH {p:Prop}(h:p:=by
 conv=>whnf
 refine gT ?_;exact J9):p:=h
theorem TB {T r:List Tok} (h:PSt T r) (s:List UInt8):jo Tryz.prog 196 [.ptr 0 0,.str s] [cu T r] 1 (fun vs bs es=>vs=[.bool (aV s r)]∧bs=[cu T (if aV s r=true then r.tail else r)]∧es=[]):=by
 have hn:=zZ h s;have hat:=h.at
 have h1:=h.pos;have h2:=h.le;have h3:=h.big;cases hb:aV s r with
 | false =>
  rw [hb] at hn;refine rO (aJ 1 16 [0,1,4,8]) Tryz.func196 ?_;conv=>whnf
  refine cO (fun _=>hn) ?_;exact KH
 | true =>
  rw [hb] at hn;refine rO (aJ 1 16 [0,1,4,8]) Tryz.func196 ?_;exact adU
def dP (er:Er):List PanicEntry:=[{ v:=.iface 185 (.agg #[.int .i64 er.1,.int .i64 er.2]),recovered:=false }]
theorem ZN {S:Blocks} {w:World} {cs:Array Value} {a b:Int} (h:RelT S w (.agg cs) (.agg [.int .i64 a,.int .i64 b])):cs=#[.int .i64 a,.int .i64 b]:=by
 cases h with
 | agg _ _ hl h =>
  have h0:cs.size=2:=hl;apply Array.ext
  ·exact hl
  ·intro i h1 h2;have hg:cs[i]?=some cs[i]:=Array.getElem?_eq_getElem h1;match i with
   | 0 =>
    have:=h 0 _ _ hg rfl;exact iF (m:=fun _=>none) (.t _ _ this)
   | 1 =>
    have:=h 1 _ _ hg rfl;exact iF (m:=fun _=>none) (.t _ _ this)
   | n+2=>omega
abbrev RX (f:FuncId) (avs:List AV) (objs:List AB) (p:Nat) {α:Type} (spec:Except Er α) (V:α→List AV) (B E:α→List AB):Prop :=
 wE Tryz.prog f avs objs p (fun vs bs es=>∃ v,spec=.ok v∧vs=V v∧bs=B v∧es=E v) (fun ch=>∃ e,spec=.error e∧ch=dP e)
theorem bG {f:FuncId} {avs:List AV} {objs:List AB} {p:Nat} {α:Type} {spec:Except Er α} {V:α→List AV} {B E:α→List AB} (h:RX f avs objs p spec V B E) {v:α} (hs:spec=.ok v) :
  jo Tryz.prog f avs objs p (fun vs bs es=>vs=V v∧bs=B v∧es=E v) :=
 wE.calm h (fun vs bs es ⟨u,hu,h1,h2,h3⟩=>by rw [hs] at hu;cases hu;exact ⟨h1,h2,h3⟩) (fun ch ⟨e,he,_⟩=>by rw [hs] at he;cases he)
theorem bK {f:FuncId} {avs:List AV} {objs:List AB} {p:Nat} {α:Type} {spec:Except Er α} {V:α→List AV} {B E:α→List AB} (h:RX f avs objs p spec V B E) {e:Er} (hs:spec=.error e) :
  wE Tryz.prog f avs objs p (fun _ _ _=>False) (fun ch=>ch=dP e) :=
 wE.imp h (fun vs bs es ⟨u,hu,_⟩=>by rw [hs] at hu;cases hu) (fun ch ⟨e',he,hc⟩=>by rw [hs] at he;cases he;exact hc)
def Uy (ok:Bool) (e:Int) (r:List Tok):Except Er Unit:=if ok=true then .ok () else .error ((bV r).pos,e)
theorem rU {T r:List Tok} (h:PSt T r) (ok:Bool) (e:Int):RX 172 [.ptr 0 0,.bool ok,.int .i64 e] [cu T r] 1 (Uy ok e r) (fun _=>[]) (fun _=>[cu T r]) (fun _=>[]):=by
 have hn:=jh h;cases ok with
 | true =>
  refine xO (dV (fun ch=>∃ er,Uy true e r=.error er∧ch=dP er) 1 14 [0,1,2,7]) Tryz.func172 ?_;conv=>whnf
  refine gF (cW ?_);refine ⟨_,Wk.refl _,rfl,rfl,(cW ?_)⟩;exact ⟨rfl,(),rfl,rfl,rfl,rfl⟩
 | false =>
  refine xO (dV (fun ch=>∃ er,Uy false e r=.error er∧ch=dP er) 1 14 [0,1,2,7]) Tryz.func172 ?_;conv=>whnf
  refine gT (cW ?_);refine cO (fun _=>hn) (cW ?_);refine .mk 185 _ rfl fun S w cs hr=>⟨((bV r).pos,e),rfl,?_⟩
  rw [ZN hr];rfl
def dI:List (List UInt8)→List Tok→Except Er (List Tok)
 | [],r=>.ok r
 | w::ws,r=>match aT w r with
  | .error e=>.error e
  | .ok r'=>dI ws r'
abbrev ZX (ws:List (List UInt8)):List AV:=ws.map fun s=>AV.str s
theorem Ve (ws:List (List UInt8)) {k:Nat} (h:k<ws.length):(ZX ws).getD k .undef=.str (ws.getD k []):=by
 rw [List.getD_eq_getElem?_getD,List.getD_eq_getElem?_getD,List.getElem?_map,List.getElem?_eq_getElem h];rfl
theorem acG {p:Prop} (h:p:=by show ws.length-(k+1)<ws.length-k;omega):p:=h
theorem SB {T r:List Tok} (h:PSt T r) (ws:List (List UInt8)) (hl:ws.length≤1000):RX 158 [.ptr 0 0,.own 1] [cu T r,.lst 9 1 (ZX ws)] 1 (dI ws r) (fun _=>[]) (fun r'=>[cu T r']) (fun _=>[]):=by
 have hsl:(ZX ws).length=ws.length:=List.length_map ..;refine xO (dV (fun ch=>∃ er,dI ws r=.error er∧ch=dP er) 1 18 [0,1,5,6,7,8,9]) Tryz.func158 ?_;conv=>whnf
 refine dO (dV _ _ _ _) (fun s:Nat×List Tok=>s.1≤ws.length∧PSt T s.2∧dI ws r=dI (ws.drop s.1) s.2) (fun s=>ws.length-s.1) (fun s=>⟨[(0,.ptr 0 0),(6,.own 1),(7,.int .i64 (ws.length:Nat)),(8,.int .i64 ((s.1):Nat))],[(0,.cells 183 (dw T (s.2))),(1,.lst 9 1 (ZX ws))],2⟩) (0,r) ⟨by omega,h,rfl⟩ ((aj [(0,.id 0),(1,.id 1)] rfl ⟨aQ,kX,.base (.tree _ _ (congrArg (fun n:Nat=>AV.int .i64 (n:Int)) hsl) rfl),ah,trivial⟩ ⟨aB,⟨_,rfl,.lst _ _ _ _ _ rfl rfl⟩,trivial⟩)) ?_;rintro ⟨k,q⟩ ⟨hk,hq,hsp⟩;dsimp only at hk hq hsp ⊢;conv=>whnf
 refine ⟨fun hd=>?_,fun hd=>?_⟩
 ·have hd:=of_decide_eq_true hd;have hlt:k<ws.length:=by omega
  have hek:(k:Int).toNat=k:=Int.toNat_natCast k;have hdr:ws.drop k=ws.getD k []::ws.drop (k+1):=by
   rw [List.drop_eq_getElem_cons hlt,List.getD_eq_getElem?_getD,List.getElem?_eq_getElem hlt];rfl
  rw [hdr] at hsp;have hh:=TB hq (ws.getD k []);have hg:(ZX ws).getD (k:Int).toNat .undef=.str (ws.getD k []):=by rw [hek];exact Ve ws hlt
  conv=>whnf
  refine iO (cW ?_);refine And.intro aI (And.intro rfl (cW ?_));rw [hg];conv=>whnf
  refine cR (hh) [0] (cW ?_);cases hb:aV (ws.getD k []) q with
  | true =>
   have hw:dI ws r=dI (ws.drop (k+1)) q.tail:=by
    rw [hsp];simp only [dI,aT,hb,if_true]
   rw [hb] at hh;refine cR ((bG (rU (hq.tail (bf hb)) true 12) rfl)) [0] (cW ?_);refine iO (cW ?_);exact ⟨(k+1,q.tail),⟨hlt,hq.tail (bf hb),hw⟩,acG,(aj [(0,.id 0),(1,.id 1)] rfl ⟨aQ,kX,ah,ah,trivial⟩ ⟨aB,⟨_,rfl,.lst _ _ _ _ _ rfl rfl⟩,trivial⟩)⟩
  | false =>
   have hw:dI ws r=.error ((bV q).pos,12):=by
    rw [hsp];simp only [dI,aT,hb,jm,Bool.false_eq_true,if_false]
   rw [hb] at hh;exact CallG.stop rfl (aG ((bK (rU hq false 12) rfl)) [0] rfl rfl rfl ab0) ((fun ch hc=>⟨_,hw,hc⟩))
 ·conv=>whnf
  have hd:=of_decide_eq_false hd;have hke:k=ws.length:=by omega
  have hw:dI ws r=.ok q:=by
   rw [hsp,hke,List.drop_length];rfl
  refine ⟨⟨[(0,.ptr 0 0)],[(0,.cells 183 (dw T q))],1⟩,(aj [(0,.id 0)] rfl ⟨aQ,trivial⟩ ⟨aB,trivial⟩),rfl,rfl,(cW ?_)⟩;exact ⟨rfl,q,hw,rfl,rfl,rfl⟩
theorem vF {T r:List Tok} (h:PSt T r):RX 159 [.ptr 0 0] [cu T r] 1 (nameP r) (fun v=>[.str v.1]) (fun v=>[cu T v.2]) (fun _=>[]):=by
 have hn:=named_ok h;have hx:=jh h;have hat:=h.at
 have h1:=h.pos;have h2:=h.le;have h3:=h.big;unfold nameP;cases hb:mD r with
 | true =>
  rw [hb] at hn;refine xO (dV (fun ch=>∃ er,(if true=true then Except.ok ((bV r).text,r.tail) else jm 12 r)=.error er∧ch=dP er) 1 19 [0,2,3]) Tryz.func159 ?_;conv=>whnf
  refine cO (fun _=>hn) (cW ?_);refine cR ((bG (rU h true 12) rfl)) [0] (cW ?_);refine cO (fun _=>hx) (cW ?_);refine iO (cW ?_);rw [hat];refine ⟨_,Wk.refl _,rfl,rfl,(cW ?_)⟩;exact ⟨rfl,((bV r).text,r.tail),rfl,rfl,rfl,rfl⟩
 | false =>
  rw [hb] at hn;refine xO (dV (fun ch=>∃ er,(if false=true then Except.ok ((bV r).text,r.tail) else jm 12 r)=.error er∧ch=dP er) 1 19 [0,2,3]) Tryz.func159 ?_;conv=>whnf
  refine cO (fun _=>hn) (cW ?_);exact CallG.stop rfl (aG ((bK (rU h false 12) rfl)) [0] rfl rfl rfl ab0) ((fun ch hc=>⟨_,rfl,hc⟩))
theorem sK {T r:List Tok} (h:PSt T r) (a b:Int):RX 162 [.ptr 0 0,.int .i64 a,.int .i64 b] [cu T r] 1 (iV a b r) (fun v=>[.int .i64 v.1]) (fun v=>[cu T v.2]) (fun _=>[]):=by
 have hx:=jh h;have hat:=h.at
 have h1:=h.pos;have h2:=h.le;have h3:=h.big;cases hk:decide ((bV r).kind=1) with
 | false =>
  have hs:iV a b r=jm 12 r:=if_pos (of_decide_eq_false hk);refine xO (dV (fun ch=>∃ er,iV a b r=.error er∧ch=dP er) 1 36 [0,1,2,6,7]) Tryz.func162 ?_;conv=>whnf
  refine cO (fun _=>hx) (cW ?_);rw [hk];exact CallG.stop rfl (aG ((bK (rU h false 12) rfl)) [0] rfl rfl rfl ab0) ((fun ch hc=>⟨_,hs,hc⟩))
 | true =>
  have hs:iV a b r=if a≤(bV r).n∧(bV r).n≤b then .ok ((bV r).n,r.tail) else jm 3 r:=if_neg (by simpa using of_decide_eq_true hk)
  refine xO (dV (fun ch=>∃ er,iV a b r=.error er∧ch=dP er) 1 36 [0,1,2,6,7]) Tryz.func162 ?_;conv=>whnf
  refine cO (fun _=>hx) (cW ?_);rw [hk];refine cR ((bG (rU h true 12) rfl)) [0] (cW ?_);by_cases hr:a≤(bV r).n∧(bV r).n≤b
  ·have hs':iV a b r=.ok ((bV r).n,r.tail):=by rw [hs,if_pos hr]
   rw [show (decide (a≤(bV r).n)&&decide ((bV r).n≤b))=true by simp [hr.1,hr.2]];have hke:(bV r).kind≠3:=by have:=of_decide_eq_true hk;omega
   refine cR ((bG (rU h true 3) rfl)) [0] (cW ?_);refine iO (cW ?_);rw [hat];refine ⟨⟨[(6,.int .i64 (bV r).n)],[(0,.cells 183 (dw T r.tail))],1⟩,(aj [(0,.id 0)] rfl ⟨ah,trivial⟩ ⟨aB,trivial⟩),rfl,rfl,(cW ?_)⟩;exact ⟨rfl,((bV r).n,r.tail),hs',rfl,rfl,rfl⟩
  ·have hs':iV a b r=.error ((bV r).pos,3):=by rw [hs,if_neg hr];rfl
   rw [show (decide (a≤(bV r).n)&&decide ((bV r).n≤b))=false by simp;intro;omega];exact CallG.stop rfl (aG ((bK (rU h false 3) rfl)) [0] rfl rfl rfl ab0) ((fun ch hc=>⟨_,hs',hc⟩))
def iw (r r':List Tok):Prop:=r' <:+ r∧(Fin1 r→Fin1 r')
theorem iw.refl (r:List Tok):iw r r:=⟨List.suffix_refl r,id⟩
theorem iw.trans {a b c:List Tok} (h:iw a b) (h':iw b c):iw a c:=⟨h'.1.trans h.1,fun x=>h'.2 (h.2 x)⟩
theorem iw.le {a b:List Tok} (h:iw a b):b.length≤a.length:=h.1.length_le
theorem iw.tail {r:List Tok} (hk:(bV r).kind≠3):iw r r.tail:=⟨List.tail_suffix r,fun h=>h.tail hk⟩
theorem PSt.to {T r r':List Tok} (h:PSt T r) (hs:iw r r'):PSt T r':=⟨hs.1.trans h.suf,hs.2 h.fin,h.big,h.txt⟩
theorem lJ {r:List Tok} (h:Fin1 r):r.tail.length<r.length:=by
 have:=List.length_pos_iff.2 h.ne;rw [List.length_tail];omega
theorem aN {s:List UInt8} {r r':List Tok} (h:aT s r=.ok r'):iw r r':=by
 unfold aT at h;split at h
 ·rename_i hi;cases h;exact .tail (bf hi)
 ·cases h
theorem LG:∀ {ws:List (List UInt8)} {r r':List Tok},dI ws r=.ok r'→iw r r'
 | [],r,r',h=>by cases h;exact .refl _
 | w::ws,r,r',h=>by
  unfold dI at h;split at h
  ·cases h
  ·rename_i r1 h1;exact (aN h1).trans (LG h)
theorem wQ {r r':List Tok} {s:List UInt8} (h:nameP r=.ok (s,r')):iw r r':=by
 unfold nameP at h;split at h
 ·rename_i hi;cases h;unfold mD at hi;simp only [Bool.and_eq_true,decide_eq_true_eq] at hi;exact .tail aI
 ·cases h
theorem iD {a b n:Int} {r r':List Tok} (h:iV a b r=.ok (n,r')):iw r r'∧n=(bV r).n:=by
 unfold iV at h;split at h
 ·cases h
 ·split at h
  ·cases h;exact ⟨.tail aI,rfl⟩
  ·cases h
theorem Pj (r:List Tok):iw r (jM r).2:=by
 unfold jM;repeat' split
 all_goals first | exact .tail (bf (by assumption)) | exact .refl _
def iP (ex:Rec):Prop:=∀ form r x r',ex form r=.ok (x,r')→iw r r'
def wu (T:List Tok) (n:Nat) (ex:Rec):Prop:=∀ (form:Int) (r:List Tok),0≤form→form≤7→PSt T r→r.length≤n →
 RX 202 [.ptr 0 0,.int .i64 form] [cu T r] 1 (ex form r) (fun v=>[iJ v.1]) (fun v=>[cu T v.2]) (fun v=>[.cells 51 (cellsE v.1)])
theorem bQ {T r:List Tok} (h:PSt T r) (s:List UInt8):RX 158 [.ptr 0 0,.own 1] [cu T r,.lst 9 1 [.str s]] 1 (aT s r) (fun _=>[]) (fun r'=>[cu T r']) (fun _=>[]):=by
 have e:aT s r=dI [s] r:=by
  unfold dI;try (cases aT s r<;>rfl)
 rw [e];exact SB h [s] (by simp)
theorem qW {T r:List Tok} (h:PSt T r) {s:List UInt8} (hb:aV s r=true):jo Tryz.prog 196 [.ptr 0 0,.str s] [cu T r] 1 (fun vs bs es=>vs=[.bool true]∧bs=[cu T r.tail]∧es=[]):=by
 have:=TB h s;rw [hb] at this;exact this
theorem dA {T r:List Tok} (h:PSt T r) {s:List UInt8} (hb:aV s r=false):jo Tryz.prog 196 [.ptr 0 0,.str s] [cu T r] 1 (fun vs bs es=>vs=[.bool false]∧bs=[cu T r]∧es=[]):=by
 have:=TB h s;rw [hb] at this;exact this
theorem agC {T r:List Tok} (h:PSt T r):jo Tryz.prog 279 [.ptr 0 0] [cu T r] 1 (fun vs bs es=>vs=[.int .i64 (jM r).1]∧bs=[cu T (jM r).2]∧es=[]):=by
 have fin:∀ {p:Int×List Tok},jM r=p→(jo Tryz.prog 279 [.ptr 0 0] [cu T r] 1 (fun vs bs es=>vs=[.int .i64 p.1]∧bs=[cu T p.2]∧es=[]))→jo Tryz.prog 279 [.ptr 0 0] [cu T r] 1 (fun vs bs es=>vs=[.int .i64 (jM r).1]∧bs=[cu T (jM r).2]∧es=[]):=by
  intro p hp hh;rw [hp];exact hh
 cases h1:aV [99,111,105,110,115] r with
 | true =>
  refine fin (p:=(1,r.tail)) (by simp only [jM,h1,if_true]) ?_;refine rO (aJ 1 12 [0,2,3,6,9]) Tryz.func279 ?_;conv=>whnf
  refine cR ((qW h h1)) [0] ?_;exact KH
 | false =>
 cases h2:aV [100,97,121,115] r with
 | true =>
  refine fin (p:=(3,r.tail)) (by simp only [jM,h1,h2,if_true,Bool.false_eq_true,if_false]) ?_;refine rO (aJ 1 12 [0,2,3,6,9]) Tryz.func279 ?_;conv=>whnf
  refine cR ((dA h h1)) [0] (cW ?_);refine gF (cW ?_);refine cR ((qW h h2)) [0] ?_;exact KH
 | false =>
 cases h3:aV [109,105,108,108,101] r with
 | true =>
  refine fin (p:=(2,r.tail)) (by simp only [jM,h1,h2,h3,if_true,Bool.false_eq_true,if_false]) ?_;refine rO (aJ 1 12 [0,2,3,6,9]) Tryz.func279 ?_;conv=>whnf
  refine cR ((dA h h1)) [0] (cW ?_);refine gF (cW ?_);refine cR ((dA h h2)) [0] (cW ?_);refine gF (cW ?_);refine cR ((qW h h3)) [0] ?_;exact KH
 | false =>
  refine fin (p:=(0,r)) (by simp only [jM,h1,h2,h3,Bool.false_eq_true,if_false]) ?_;refine rO (aJ 1 12 [0,2,3,6,9]) Tryz.func279 ?_;conv=>whnf
  refine cR ((dA h h1)) [0] (cW ?_);refine gF (cW ?_);refine cR ((dA h h2)) [0] (cW ?_);refine gF (cW ?_);refine cR ((dA h h3)) [0] (cW ?_);refine gF ?_;exact J9
theorem args1 (op n u:Int) (s:List UInt8) (x:Exp):AV.lsl 5 [iJ x]=AV.lsl 5 (jO (.mk op n u s [x])):=congrArg (AV.lsl 5) (BH (.mk op n u s [x])).symm
theorem args2 (op n u:Int) (s:List UInt8) (x y:Exp):AV.lsl 5 [iJ x,iJ y]=AV.lsl 5 (jO (.mk op n u s [x,y])):=congrArg (AV.lsl 5) (BH (.mk op n u s [x,y])).symm
theorem Qz (op n u:Int) (s:List UInt8) (x y z:Exp):AV.lsl 5 [iJ x,iJ y,iJ z]=AV.lsl 5 (jO (.mk op n u s [x,y,z])):=congrArg (AV.lsl 5) (BH (.mk op n u s [x,y,z])).symm
theorem xJ {T r:List Tok} {n:Nat} {ex:Rec} (hS:iP ex) (hX:wu T n ex) (h:PSt T r) (hn:r.length≤n) (op:Int) :
  RX 280 [.ptr 0 0,.int .i64 op] [cu T r] 1 (gU ex op r) (fun v=>[iJ v.1]) (fun v=>[cu T v.2]) (fun v=>[.cells 51 (cellsE v.1)]):=by
 refine xO (dV (fun ch=>∃ er,gU ex op r=.error er∧ch=dP er) 1 22 [0,1,4,5,6]) Tryz.func280 ?_;conv=>whnf
 rcases e1:iV 1 1000 r with e | ⟨k,r1⟩
 ·exact CallG.stop rfl (aG (bK (sK h 1 1000) e1) [0] rfl rfl rfl ab0) (fun ch hc=>⟨e,by simp only [gU,e1],hc⟩)
 refine cR (bG (sK h 1 1000) e1) [0] (cW ?_);have s1:=(iD e1).1;rcases e2:aT [40] r1 with e | r2
 ·exact CallG.stop rfl (aG (bK (bQ (h.to s1) [40]) e2) [0,2] rfl rfl rfl ab0) (fun ch hc=>⟨e,by simp only [gU,e1,e2],hc⟩)
 refine cR (bG (bQ (h.to s1) [40]) e2) [0,2] (cW ?_);have s2:=s1.trans (aN e2);rcases e3:ex 0 r2 with e | ⟨x,r3⟩
 ·exact CallG.stop rfl (aG (bK (hX 0 r2 (by omega) (by omega) (h.to s2) (Nat.le_trans s2.le hn)) e3) [0] rfl rfl rfl ab0) (fun ch hc=>⟨e,by simp only [gU,e1,e2,e3],hc⟩)
 refine cR (bG (hX 0 r2 aI aI (h.to s2) (Nat.le_trans s2.le hn)) e3) [0] (cW ?_);have s3:=s2.trans (hS _ _ _ _ e3);rcases e4:aT [41] r3 with e | r4
 ·exact CallG.stop rfl (aG (bK (bQ (h.to s3) [41]) e4) [0,5] rfl rfl rfl ab0) (fun ch hc=>⟨e,by simp only [gU,e1,e2,e3,e4],hc⟩)
 refine cR (bG (bQ (h.to s3) [41]) e4) [0,5] (cW ?_);refine ⟨⟨[(4,.ptr 1 0)],[(0,.cells 183 (dw T r4)),(1,.cells 51 (cellsE (.mk op k 0 [] [x])))],2⟩,(dY [6]).trans (aj [(0,.id 0),(1,.id 1)] rfl ⟨aQ,trivial⟩ ⟨aB,⟨_,rfl,.cells _ _ _ _ rfl (by repeat (first | exact .nil | refine .cons (by first | exact .base (.tree _ _ rfl rfl) | exact .base (.own _ _ rfl) | exact .base (.ptr _ _ _ rfl) | exact .base (.map _ _ rfl) | exact .base (.nilown _ rfl) | exact .fn _ _ _ _ _ .nil vJ | exact .base (.tree _ _ (args1 op k 0 [] x) rfl) | exact .base (.leT _ _ (args1 op k 0 [] x) rfl)) ?_)) rfl⟩,trivial⟩),rfl,rfl,?_⟩;conv=>whnf
 exact ⟨rfl,(.mk op k 0 [] [x],r4),by simp only [gU,e1,e2,e3,e4],rfl,rfl,rfl⟩
theorem WV {T r:List Tok} (h:PSt T r) {s:List UInt8} (hb:aV s r=true):ak Tryz.prog 200 [.rop (dw T r),.str s] (.bool true):=by
 have:=zZ h s;rw [hb] at this;exact this
theorem J3 {T r:List Tok} (h:PSt T r) {s:List UInt8} (hb:aV s r=false):ak Tryz.prog 200 [.rop (dw T r),.str s] (.bool false):=by
 have:=zZ h s;rw [hb] at this;exact this
structure NoW (r:List Tok) (k:Nat):Prop where
 kd:(bV r).kind≠1
 w0:0<k→aV [116,114,117,101] r=false
 w1:1<k→aV [102,97,108,115,101] r=false
 w2:2<k→aV [102,97,99,116] r=false
 w3:3<k→aV [114,97,116,101] r=false
 w4:4<k→aV [101,118,101,114] r=false
 w5:5<k→aV [108,111,110,103] r=false
 w6:6<k→aV [115,111,111,110] r=false
abbrev PrX (T:List Tok) (ex:Rec) (r:List Tok):Prop:=RX 266 [.ptr 0 0] [cu T r] 1 (iW ex r) (fun v=>[iJ v.1]) (fun v=>[cu T v.2]) (fun v=>[.cells 51 (cellsE v.1)])
theorem vO {T:List Tok} {ex:Rec} {r:List Tok} {s:Ps Exp} (e:iW ex r=s) (h:RX 266 [.ptr 0 0] [cu T r] 1 s (fun v=>[iJ v.1]) (fun v=>[cu T v.2]) (fun v=>[.cells 51 (cellsE v.1)])):PrX T ex r:=by
 unfold PrX;rw [e];exact h
theorem abL {T r:List Tok} (h:PSt T r) (hk:decide ((bV r).kind=1)=true):RX 266 [.ptr 0 0] [cu T r] 1 ((.ok (.mk 0 (bV r).n (jM r.tail).1 [] [],(jM r.tail).2):Ps Exp)) (fun v=>[iJ v.1]) (fun v=>[cu T v.2]) (fun v=>[.cells 51 (cellsE v.1)]):=by
 have hx:=jh h;have hat:=h.at
 have h1:=h.pos;have h2:=h.le;have h3:=h.big;have hke:(bV r).kind≠3:=by have:=of_decide_eq_true hk;omega
 have hu:=agC (h.tail hke);refine xO (dV (fun ch=>∃ er,(.ok (.mk 0 (bV r).n (jM r.tail).1 [] [],(jM r.tail).2):Ps Exp)=.error er∧ch=dP er) 1 107 [0,2,3,4,5,6,7,10,26,30,34,40,46,51,56,61,69,95]) Tryz.func266 ?_;conv=>whnf
 refine cO (fun _=>hx) (cW ?_);rw [hk];refine gT (cW ?_);refine iO (cW ?_);rw [hat];conv=>whnf
 refine .eff ad0 (cW ?_);refine cR (hu) [0] (cW ?_);refine ⟨by kernel_rfl,(cW ?_)⟩;refine ⟨⟨[(2,.ptr 1 0)],[(0,.cells 183 (dw T (jM r.tail).2)),(1,.cells 51 (cellsE (.mk 0 (bV r).n (jM r.tail).1 [] [])))],2⟩,(aj [(0,.id 0),(1,.id 1)] rfl ⟨aQ,trivial⟩ ⟨aB,wf0,trivial⟩),rfl,rfl,(cW ?_)⟩;exact ⟨rfl,_,rfl,rfl,rfl,rfl⟩
theorem Zj {T r:List Tok} (h:PSt T r) (hw:NoW r 0) (hb:aV [116,114,117,101] r=true):RX 266 [.ptr 0 0] [cu T r] 1 ((.ok (.mk 0 1 4 [] [],r.tail):Ps Exp)) (fun v=>[iJ v.1]) (fun v=>[cu T v.2]) (fun v=>[.cells 51 (cellsE v.1)]):=by
 have hx:=jh h;have hk:decide ((bV r).kind=1)=false:=decide_eq_false hw.kd;refine xO (dV (fun ch=>∃ er,(.ok (.mk 0 1 4 [] [],r.tail):Ps Exp)=.error er∧ch=dP er) 1 107 [0,2,3,4,5,6,7,10,26,30,34,40,46,51,56,61,69,95]) Tryz.func266 ?_;conv=>whnf
 refine cO (fun _=>hx) (cW ?_);rw [hk];refine gF (cW ?_);refine cR ((qW h hb)) [0] (cW ?_);refine gT (cW ?_);refine ⟨⟨[(2,.ptr 1 0)],[(0,.cells 183 (dw T r.tail)),(1,.cells 51 (cellsE (.mk 0 1 4 [] [])))],2⟩,(aj [(0,.id 0),(1,.id 1)] rfl ⟨aQ,trivial⟩ ⟨aB,wf0,trivial⟩),rfl,rfl,(cW ?_)⟩;exact ⟨rfl,_,rfl,rfl,rfl,rfl⟩
theorem Yd {T r:List Tok} (h:PSt T r) (hw:NoW r 1) (hb:aV [102,97,108,115,101] r=true):RX 266 [.ptr 0 0] [cu T r] 1 ((.ok (.mk 0 0 4 [] [],r.tail):Ps Exp)) (fun v=>[iJ v.1]) (fun v=>[cu T v.2]) (fun v=>[.cells 51 (cellsE v.1)]):=by
 have hx:=jh h;have hk:decide ((bV r).kind=1)=false:=decide_eq_false hw.kd;refine xO (dV (fun ch=>∃ er,(.ok (.mk 0 0 4 [] [],r.tail):Ps Exp)=.error er∧ch=dP er) 1 107 [0,2,3,4,5,6,7,10,26,30,34,40,46,51,56,61,69,95]) Tryz.func266 ?_;conv=>whnf
 refine cO (fun _=>hx) (cW ?_);rw [hk];refine gF (cW ?_);refine cR ((dA h (hw.w0 aI))) [0] (cW ?_);refine gF (cW ?_);refine cR ((qW h hb)) [0] (cW ?_);refine gT (cW ?_);refine ⟨⟨[(2,.ptr 1 0)],[(0,.cells 183 (dw T r.tail)),(1,.cells 51 (cellsE (.mk 0 0 4 [] [])))],2⟩,(aj [(0,.id 0),(1,.id 1)] rfl ⟨aQ,trivial⟩ ⟨aB,wf0,trivial⟩),rfl,rfl,(cW ?_)⟩;exact ⟨rfl,_,rfl,rfl,rfl,rfl⟩
theorem aee {p:Prop}(h:p:=by
 exact CallG.stop rfl (aG (bK (vF (h.tail (bf hb))) e1) [0] rfl rfl rfl ab0) (fun ch hc=>⟨e,by simp only [kF,e1],hc⟩)):p:=h
theorem YL {T r:List Tok} (h:PSt T r) (hw:NoW r 2) (hb:aV [102,97,99,116] r=true):RX 266 [.ptr 0 0] [cu T r] 1 (kF 2 r.tail) (fun v=>[iJ v.1]) (fun v=>[cu T v.2]) (fun v=>[.cells 51 (cellsE v.1)]):=by
 have hx:=jh h;have hk:decide ((bV r).kind=1)=false:=decide_eq_false hw.kd;refine xO (dV (fun ch=>∃ er,kF 2 r.tail=.error er∧ch=dP er) 1 107 [0,2,3,4,5,6,7,10,26,30,34,40,46,51,56,61,69,95]) Tryz.func266 ?_;conv=>whnf
 refine cO (fun _=>hx) (cW ?_);rw [hk];refine gF (cW ?_);refine cR ((dA h (hw.w0 aI))) [0] (cW ?_);refine gF (cW ?_);refine cR ((dA h (hw.w1 aI))) [0] (cW ?_);refine gF (cW ?_);refine cR ((qW h hb)) [0] (cW ?_);refine gT (cW ?_);rcases e1:nameP r.tail with e | ⟨s,r1⟩
 ·exact aee
 refine cR (bG (vF (h.tail (bf hb))) e1) [0] (cW ?_);refine ⟨⟨[(2,.ptr 1 0)],[(0,.cells 183 (dw T r1)),(1,.cells 51 (cellsE (.mk 2 0 0 s [])))],2⟩,(aj [(0,.id 0),(1,.id 1)] rfl ⟨aQ,trivial⟩ ⟨aB,wf0,trivial⟩),rfl,rfl,(cW ?_)⟩;exact ⟨rfl,(.mk 2 0 0 s [],r1),by simp only [kF,e1],rfl,rfl,rfl⟩
theorem ZU {T r:List Tok} (h:PSt T r) (hw:NoW r 3) (hb:aV [114,97,116,101] r=true):RX 266 [.ptr 0 0] [cu T r] 1 (kF 3 r.tail) (fun v=>[iJ v.1]) (fun v=>[cu T v.2]) (fun v=>[.cells 51 (cellsE v.1)]):=by
 have hx:=jh h;have hk:decide ((bV r).kind=1)=false:=decide_eq_false hw.kd;refine xO (dV (fun ch=>∃ er,kF 3 r.tail=.error er∧ch=dP er) 1 107 [0,2,3,4,5,6,7,10,26,30,34,40,46,51,56,61,69,95]) Tryz.func266 ?_;conv=>whnf
 refine cO (fun _=>hx) (cW ?_);rw [hk];refine gF (cW ?_);refine cR ((dA h (hw.w0 aI))) [0] (cW ?_);refine gF (cW ?_);refine cR ((dA h (hw.w1 aI))) [0] (cW ?_);refine gF (cW ?_);refine cR ((dA h (hw.w2 aI))) [0] (cW ?_);refine gF (cW ?_);refine cR ((qW h hb)) [0] (cW ?_);refine gT (cW ?_);rcases e1:nameP r.tail with e | ⟨s,r1⟩
 ·exact aee
 refine cR (bG (vF (h.tail (bf hb))) e1) [0] (cW ?_);refine ⟨⟨[(2,.ptr 1 0)],[(0,.cells 183 (dw T r1)),(1,.cells 51 (cellsE (.mk 3 0 0 s [])))],2⟩,(aj [(0,.id 0),(1,.id 1)] rfl ⟨aQ,trivial⟩ ⟨aB,wf0,trivial⟩),rfl,rfl,(cW ?_)⟩;exact ⟨rfl,(.mk 3 0 0 s [],r1),by simp only [kF,e1],rfl,rfl,rfl⟩
theorem aaC {p:Prop}(h:p:=by
 conv=>whnf
 refine ⟨⟨[(2,.ptr 1 0)],[(0,.cells 183 (dw T r1)),(1,.cells 51 (cellsE x))],2⟩,(aj [(0,.id 0),(1,.id 1)] rfl ⟨aQ,trivial⟩ ⟨aB,aB,trivial⟩),rfl,rfl,(cW ?_)⟩;exact ⟨rfl,(x,r1),rfl,rfl,rfl,rfl⟩):p:=h
theorem Z8 {T r:List Tok} (h:PSt T r) {n:Nat} {ex:Rec} (hS:iP ex) (hX:wu T n ex) (hn:r.tail.length≤n) (hw:NoW r 4) (hb:aV [101,118,101,114] r=true):RX 266 [.ptr 0 0] [cu T r] 1 (gU ex 16 r.tail) (fun v=>[iJ v.1]) (fun v=>[cu T v.2]) (fun v=>[.cells 51 (cellsE v.1)]):=by
 have hx:=jh h;have hk:decide ((bV r).kind=1)=false:=decide_eq_false hw.kd;refine xO (dV (fun ch=>∃ er,gU ex 16 r.tail=.error er∧ch=dP er) 1 107 [0,2,3,4,5,6,7,10,26,30,34,40,46,51,56,61,69,95]) Tryz.func266 ?_;conv=>whnf
 refine cO (fun _=>hx) (cW ?_);rw [hk];refine gF (cW ?_);refine cR ((dA h (hw.w0 aI))) [0] (cW ?_);refine gF (cW ?_);refine cR ((dA h (hw.w1 aI))) [0] (cW ?_);refine gF (cW ?_);refine cR ((dA h (hw.w2 aI))) [0] (cW ?_);refine gF (cW ?_);refine cR ((dA h (hw.w3 aI))) [0] (cW ?_);refine gF (cW ?_);refine cR ((qW h hb)) [0] (cW ?_);refine gT (cW ?_);rcases e1:gU ex 16 r.tail with e | ⟨x,r1⟩
 ·exact CallG.stop rfl (aG (bK (xJ hS hX (h.tail (bf hb)) hn 16) e1) [0] rfl rfl rfl ab0) (fun ch hc=>⟨e,by simp only [Except.error.injEq,e1],hc⟩)
 refine cR (bG (xJ hS hX (h.tail (bf hb)) hn 16) e1) [0] ?_;exact aaC
theorem ZG {T r:List Tok} (h:PSt T r) {n:Nat} {ex:Rec} (hS:iP ex) (hX:wu T n ex) (hn:r.tail.length≤n) (hw:NoW r 5) (hb:aV [108,111,110,103] r=true):RX 266 [.ptr 0 0] [cu T r] 1 (gU ex 17 r.tail) (fun v=>[iJ v.1]) (fun v=>[cu T v.2]) (fun v=>[.cells 51 (cellsE v.1)]):=by
 have hx:=jh h;have hk:decide ((bV r).kind=1)=false:=decide_eq_false hw.kd;refine xO (dV (fun ch=>∃ er,gU ex 17 r.tail=.error er∧ch=dP er) 1 107 [0,2,3,4,5,6,7,10,26,30,34,40,46,51,56,61,69,95]) Tryz.func266 ?_;conv=>whnf
 refine cO (fun _=>hx) (cW ?_);rw [hk];refine gF (cW ?_);refine cR ((dA h (hw.w0 aI))) [0] (cW ?_);refine gF (cW ?_);refine cR ((dA h (hw.w1 aI))) [0] (cW ?_);refine gF (cW ?_);refine cR ((dA h (hw.w2 aI))) [0] (cW ?_);refine gF (cW ?_);refine cR ((dA h (hw.w3 aI))) [0] (cW ?_);refine gF (cW ?_);refine cR ((dA h (hw.w4 aI))) [0] (cW ?_);refine gF (cW ?_);refine cR ((qW h hb)) [0] (cW ?_);refine gT (cW ?_);rcases e1:gU ex 17 r.tail with e | ⟨x,r1⟩
 ·exact CallG.stop rfl (aG (bK (xJ hS hX (h.tail (bf hb)) hn 17) e1) [0] rfl rfl rfl ab0) (fun ch hc=>⟨e,by simp only [Except.error.injEq,e1],hc⟩)
 refine cR (bG (xJ hS hX (h.tail (bf hb)) hn 17) e1) [0] ?_;exact aaC
theorem aah {T r:List Tok} (h:PSt T r) {n:Nat} {ex:Rec} (hS:iP ex) (hX:wu T n ex) (hn:r.tail.length≤n) (hw:NoW r 6) (hb:aV [115,111,111,110] r=true):RX 266 [.ptr 0 0] [cu T r] 1 (gU ex 18 r.tail) (fun v=>[iJ v.1]) (fun v=>[cu T v.2]) (fun v=>[.cells 51 (cellsE v.1)]):=by
 have hx:=jh h;have hk:decide ((bV r).kind=1)=false:=decide_eq_false hw.kd;refine xO (dV (fun ch=>∃ er,gU ex 18 r.tail=.error er∧ch=dP er) 1 107 [0,2,3,4,5,6,7,10,26,30,34,40,46,51,56,61,69,95]) Tryz.func266 ?_;conv=>whnf
 refine cO (fun _=>hx) (cW ?_);rw [hk];refine gF (cW ?_);refine cR ((dA h (hw.w0 aI))) [0] (cW ?_);refine gF (cW ?_);refine cR ((dA h (hw.w1 aI))) [0] (cW ?_);refine gF (cW ?_);refine cR ((dA h (hw.w2 aI))) [0] (cW ?_);refine gF (cW ?_);refine cR ((dA h (hw.w3 aI))) [0] (cW ?_);refine gF (cW ?_);refine cR ((dA h (hw.w4 aI))) [0] (cW ?_);refine gF (cW ?_);refine cR ((dA h (hw.w5 aI))) [0] (cW ?_);refine gF (cW ?_);refine cR ((qW h hb)) [0] (cW ?_);refine gT (cW ?_);rcases e1:gU ex 18 r.tail with e | ⟨x,r1⟩
 ·exact CallG.stop rfl (aG (bK (xJ hS hX (h.tail (bf hb)) hn 18) e1) [0] rfl rfl rfl ab0) (fun ch hc=>⟨e,by simp only [Except.error.injEq,e1],hc⟩)
 refine cR (bG (xJ hS hX (h.tail (bf hb)) hn 18) e1) [0] ?_;exact aaC
theorem aeI {p:Prop}(h:p:=by
 exact CallG.stop rfl (aG (bK (hX 0 r1 (by omega) (by omega) (q0.to s1) (Nat.le_trans s1.le hn)) e2) [0] rfl rfl rfl ab0) (fun ch hc=>⟨e,by simp only [oH,e1,e2],hc⟩)):p:=h
theorem adK {p:Prop}(h:p:=by
 exact CallG.stop rfl (aG (bK (hX 0 r3 (by omega) (by omega) (q0.to s3) (Nat.le_trans s3.le hn)) e4) [0] rfl rfl rfl ab0) (fun ch hc=>⟨e,by simp only [oH,e1,e2,e3,e4],hc⟩)):p:=h
theorem ae4 {p:Prop}(h:p:=by
 exact CallG.stop rfl (aG (bK (bQ q0 [40]) e1) [0,3] rfl rfl rfl ab0) (fun ch hc=>⟨e,by simp only [oH,e1],hc⟩)):p:=h
theorem ae6 {p:Prop}(h:p:=by
 exact CallG.stop rfl (aG (bK (bQ (q0.to s2) [44]) e3) [0,6] rfl rfl rfl ab0) (fun ch hc=>⟨e,by simp only [oH,e1,e2,e3],hc⟩)):p:=h
theorem ady {p:Prop}(h:p:=by
 exact CallG.stop rfl (aG (bK (bQ (q0.to s4) [41]) e5) [0,9] rfl rfl rfl ab0) (fun ch hc=>⟨e,by simp only [oH,e1,e2,e3,e4,e5],hc⟩)):p:=h
theorem ab9 {T r:List Tok} (h:PSt T r) {n:Nat} {ex:Rec} (hS:iP ex) (hX:wu T n ex) (hn:r.tail.length≤n) (hw:NoW r 7) (hb:aV [109,105,110] r=true) (hbx:aV [109,97,120] r=false):RX 266 [.ptr 0 0] [cu T r] 1 (oH ex 8 r.tail) (fun v=>[iJ v.1]) (fun v=>[cu T v.2]) (fun v=>[.cells 51 (cellsE v.1)]):=by
 have hat:=h.at
 have h1:=h.pos;have h2:=h.le;have h3:=h.big;have hx:=jh h;have hk:decide ((bV r).kind=1)=false:=decide_eq_false hw.kd;refine xO (dV (fun ch=>∃ er,oH ex 8 r.tail=.error er∧ch=dP er) 1 107 [0,2,3,4,5,6,7,10,26,30,34,40,46,51,56,61,69,95]) Tryz.func266 ?_;conv=>whnf
 refine cO (fun _=>hx) (cW ?_);rw [hk];refine gF (cW ?_);refine cR ((dA h (hw.w0 aI))) [0] (cW ?_);refine gF (cW ?_);refine cR ((dA h (hw.w1 aI))) [0] (cW ?_);refine gF (cW ?_);refine cR ((dA h (hw.w2 aI))) [0] (cW ?_);refine gF (cW ?_);refine cR ((dA h (hw.w3 aI))) [0] (cW ?_);refine gF (cW ?_);refine cR ((dA h (hw.w4 aI))) [0] (cW ?_);refine gF (cW ?_);refine cR ((dA h (hw.w5 aI))) [0] (cW ?_);refine gF (cW ?_);refine cR ((dA h (hw.w6 aI))) [0] (cW ?_);refine gF (cW ?_);refine cO (fun _=>(WV h hb)) (cW ?_);refine cF [.rop (dw T r),.str [109,97,120]] [.val (.bool false)] (cW ?_);refine gT (cW ?_);refine cO (fun _=>(J3 h hbx)) (cW ?_);refine gF (cW ?_);refine iO (cW ?_);rw [hat];conv=>whnf
 have q0:=h.tail (bf hb);rcases e1:aT [40] r.tail with e | r1
 ·exact ae4
 refine cR (bG (bQ q0 [40]) e1) [0,3] (cW ?_);have s1:=aN e1;rcases e2:ex 0 r1 with e | ⟨x,r2⟩
 ·exact aeI
 refine cR (bG (hX 0 r1 aI aI (q0.to s1) (Nat.le_trans s1.le hn)) e2) [0] (cW ?_);have s2:=s1.trans (hS _ _ _ _ e2);rcases e3:aT [44] r2 with e | r3
 ·exact ae6
 refine cR (bG (bQ (q0.to s2) [44]) e3) [0,6] (cW ?_);have s3:=s2.trans (aN e3);rcases e4:ex 0 r3 with e | ⟨y,r4⟩
 ·exact adK
 refine cR (bG (hX 0 r3 aI aI (q0.to s3) (Nat.le_trans s3.le hn)) e4) [0] (cW ?_);have s4:=s3.trans (hS _ _ _ _ e4);rcases e5:aT [41] r4 with e | r5
 ·exact ady
 refine cR (bG (bQ (q0.to s4) [41]) e5) [0,9] (cW ?_);refine ⟨⟨[(2,.ptr 1 0)],[(0,.cells 183 (dw T r5)),(1,.cells 51 (cellsE (.mk 8 0 0 [] [x,y])))],2⟩,(dY [10]).trans (aj [(0,.id 0),(1,.id 1)] rfl ⟨aQ,trivial⟩ ⟨aB,⟨_,rfl,.cells _ _ _ _ rfl (by repeat (first | exact .nil | refine .cons (by first | exact .base (.tree _ _ rfl rfl) | exact .base (.own _ _ rfl) | exact .base (.ptr _ _ _ rfl) | exact .base (.map _ _ rfl) | exact .base (.nilown _ rfl) | exact .fn _ _ _ _ _ .nil vJ | exact .base (.tree _ _ (args2 8 0 0 [] x y) rfl) | exact .base (.leT _ _ (args2 8 0 0 [] x y) rfl)) ?_)) rfl⟩,trivial⟩),rfl,rfl,?_⟩;conv=>whnf
 exact ⟨rfl,(.mk 8 0 0 [] [x,y],r5),by simp only [oH,e1,e2,e3,e4,e5],rfl,rfl,rfl⟩
theorem aaF {T r:List Tok} (h:PSt T r) {n:Nat} {ex:Rec} (hS:iP ex) (hX:wu T n ex) (hn:r.tail.length≤n) (hw:NoW r 7) (hbi:aV [109,105,110] r=false) (hb:aV [109,97,120] r=true):RX 266 [.ptr 0 0] [cu T r] 1 (oH ex 9 r.tail) (fun v=>[iJ v.1]) (fun v=>[cu T v.2]) (fun v=>[.cells 51 (cellsE v.1)]):=by
 have hat:=h.at
 have h1:=h.pos;have h2:=h.le;have h3:=h.big;have hx:=jh h;have hk:decide ((bV r).kind=1)=false:=decide_eq_false hw.kd;refine xO (dV (fun ch=>∃ er,oH ex 9 r.tail=.error er∧ch=dP er) 1 107 [0,2,3,4,5,6,7,10,26,30,34,40,46,51,56,61,69,95]) Tryz.func266 ?_;conv=>whnf
 refine cO (fun _=>hx) (cW ?_);rw [hk];refine gF (cW ?_);refine cR ((dA h (hw.w0 aI))) [0] (cW ?_);refine gF (cW ?_);refine cR ((dA h (hw.w1 aI))) [0] (cW ?_);refine gF (cW ?_);refine cR ((dA h (hw.w2 aI))) [0] (cW ?_);refine gF (cW ?_);refine cR ((dA h (hw.w3 aI))) [0] (cW ?_);refine gF (cW ?_);refine cR ((dA h (hw.w4 aI))) [0] (cW ?_);refine gF (cW ?_);refine cR ((dA h (hw.w5 aI))) [0] (cW ?_);refine gF (cW ?_);refine cR ((dA h (hw.w6 aI))) [0] (cW ?_);refine gF (cW ?_);refine cO (fun _=>(J3 h hbi)) (cW ?_);refine cO (fun _=>(WV h hb)) (cW ?_);refine gT (cW ?_);refine cO (fun _=>(WV h hb)) (cW ?_);refine gT (cW ?_);refine iO (cW ?_);rw [hat];conv=>whnf
 have q0:=h.tail (bf hb);rcases e1:aT [40] r.tail with e | r1
 ·exact ae4
 refine cR (bG (bQ q0 [40]) e1) [0,3] (cW ?_);have s1:=aN e1;rcases e2:ex 0 r1 with e | ⟨x,r2⟩
 ·exact aeI
 refine cR (bG (hX 0 r1 aI aI (q0.to s1) (Nat.le_trans s1.le hn)) e2) [0] (cW ?_);have s2:=s1.trans (hS _ _ _ _ e2);rcases e3:aT [44] r2 with e | r3
 ·exact ae6
 refine cR (bG (bQ (q0.to s2) [44]) e3) [0,6] (cW ?_);have s3:=s2.trans (aN e3);rcases e4:ex 0 r3 with e | ⟨y,r4⟩
 ·exact adK
 refine cR (bG (hX 0 r3 aI aI (q0.to s3) (Nat.le_trans s3.le hn)) e4) [0] (cW ?_);have s4:=s3.trans (hS _ _ _ _ e4);rcases e5:aT [41] r4 with e | r5
 ·exact ady
 refine cR (bG (bQ (q0.to s4) [41]) e5) [0,9] (cW ?_);refine ⟨⟨[(2,.ptr 1 0)],[(0,.cells 183 (dw T r5)),(1,.cells 51 (cellsE (.mk 9 0 0 [] [x,y])))],2⟩,(dY [10]).trans (aj [(0,.id 0),(1,.id 1)] rfl ⟨aQ,trivial⟩ ⟨aB,⟨_,rfl,.cells _ _ _ _ rfl (by repeat (first | exact .nil | refine .cons (by first | exact .base (.tree _ _ rfl rfl) | exact .base (.own _ _ rfl) | exact .base (.ptr _ _ _ rfl) | exact .base (.map _ _ rfl) | exact .base (.nilown _ rfl) | exact .fn _ _ _ _ _ .nil vJ | exact .base (.tree _ _ (args2 9 0 0 [] x y) rfl) | exact .base (.leT _ _ (args2 9 0 0 [] x y) rfl)) ?_)) rfl⟩,trivial⟩),rfl,rfl,?_⟩;conv=>whnf
 exact ⟨rfl,(.mk 9 0 0 [] [x,y],r5),by simp only [oH,e1,e2,e3,e4,e5],rfl,rfl,rfl⟩
theorem Xe {T r:List Tok} (h:PSt T r) {n:Nat} {ex:Rec} (hS:iP ex) (hX:wu T n ex) (hn:r.tail.length≤n) (hw:NoW r 7) (hbi:aV [109,105,110] r=false) (hbx:aV [109,97,120] r=false) (hb:aV [40] r=true):RX 266 [.ptr 0 0] [cu T r] 1 (rP ex r.tail) (fun v=>[iJ v.1]) (fun v=>[cu T v.2]) (fun v=>[.cells 51 (cellsE v.1)]):=by
 have hx:=jh h;have hk:decide ((bV r).kind=1)=false:=decide_eq_false hw.kd;refine xO (dV (fun ch=>∃ er,rP ex r.tail=.error er∧ch=dP er) 1 107 [0,2,3,4,5,6,7,10,26,30,34,40,46,51,56,61,69,95]) Tryz.func266 ?_;conv=>whnf
 refine cO (fun _=>hx) (cW ?_);rw [hk];refine gF (cW ?_);refine cR ((dA h (hw.w0 aI))) [0] (cW ?_);refine gF (cW ?_);refine cR ((dA h (hw.w1 aI))) [0] (cW ?_);refine gF (cW ?_);refine cR ((dA h (hw.w2 aI))) [0] (cW ?_);refine gF (cW ?_);refine cR ((dA h (hw.w3 aI))) [0] (cW ?_);refine gF (cW ?_);refine cR ((dA h (hw.w4 aI))) [0] (cW ?_);refine gF (cW ?_);refine cR ((dA h (hw.w5 aI))) [0] (cW ?_);refine gF (cW ?_);refine cR ((dA h (hw.w6 aI))) [0] (cW ?_);refine gF (cW ?_);refine cO (fun _=>(J3 h hbi)) (cW ?_);refine cO (fun _=>(J3 h hbx)) (cW ?_);refine gF (cW ?_);have q0:=h.tail (bf hb);refine cR ((qW h hb)) [0] (cW ?_);refine gT (cW ?_);rcases e1:ex 0 r.tail with e | ⟨x,r1⟩
 ·exact CallG.stop rfl (aG (bK (hX 0 r.tail (by omega) (by omega) q0 hn) e1) [0] rfl rfl rfl ab0) (fun ch hc=>⟨e,by simp only [rP,e1],hc⟩)
 refine cR (bG (hX 0 r.tail aI aI q0 hn) e1) [0] (cW ?_);have s1:=hS _ _ _ _ e1;rcases e2:aT [41] r1 with e | r2
 ·exact CallG.stop rfl (aG (bK (bQ (q0.to s1) [41]) e2) [0,5] rfl rfl rfl ab0) (fun ch hc=>⟨e,by simp only [rP,e1,e2],hc⟩)
 refine cR (bG (bQ (q0.to s1) [41]) e2) [0,5] (cW ?_);refine ⟨⟨[(2,.ptr 1 0)],[(0,.cells 183 (dw T r2)),(1,.cells 51 (cellsE x))],2⟩,(aj [(0,.id 0),(1,.id 1)] rfl ⟨aQ,trivial⟩ ⟨aB,aB,trivial⟩),rfl,rfl,(cW ?_)⟩;exact ⟨rfl,(x,r2),by simp only [rP,e1,e2],rfl,rfl,rfl⟩
theorem aal {T r:List Tok} (h:PSt T r) (hw:NoW r 7) (hbi:aV [109,105,110] r=false) (hbx:aV [109,97,120] r=false) (hb:aV [40] r=false):RX 266 [.ptr 0 0] [cu T r] 1 (kF 1 r) (fun v=>[iJ v.1]) (fun v=>[cu T v.2]) (fun v=>[.cells 51 (cellsE v.1)]):=by
 have hx:=jh h;have hk:decide ((bV r).kind=1)=false:=decide_eq_false hw.kd;refine xO (dV (fun ch=>∃ er,kF 1 r=.error er∧ch=dP er) 1 107 [0,2,3,4,5,6,7,10,26,30,34,40,46,51,56,61,69,95]) Tryz.func266 ?_;conv=>whnf
 refine cO (fun _=>hx) (cW ?_);rw [hk];refine gF (cW ?_);refine cR ((dA h (hw.w0 aI))) [0] (cW ?_);refine gF (cW ?_);refine cR ((dA h (hw.w1 aI))) [0] (cW ?_);refine gF (cW ?_);refine cR ((dA h (hw.w2 aI))) [0] (cW ?_);refine gF (cW ?_);refine cR ((dA h (hw.w3 aI))) [0] (cW ?_);refine gF (cW ?_);refine cR ((dA h (hw.w4 aI))) [0] (cW ?_);refine gF (cW ?_);refine cR ((dA h (hw.w5 aI))) [0] (cW ?_);refine gF (cW ?_);refine cR ((dA h (hw.w6 aI))) [0] (cW ?_);refine gF (cW ?_);refine cO (fun _=>(J3 h hbi)) (cW ?_);refine cO (fun _=>(J3 h hbx)) (cW ?_);refine gF (cW ?_);refine cR ((dA h hb)) [0] (cW ?_);refine gF (cW ?_);rcases e1:nameP r with e | ⟨s,r1⟩
 ·exact CallG.stop rfl (aG (bK (vF h) e1) [0] rfl rfl rfl ab0) (fun ch hc=>⟨e,by simp only [kF,e1],hc⟩)
 refine cR (bG (vF h) e1) [0] (cW ?_);refine ⟨⟨[(2,.ptr 1 0)],[(0,.cells 183 (dw T r1)),(1,.cells 51 (cellsE (.mk 1 0 0 s [])))],2⟩,(aj [(0,.id 0),(1,.id 1)] rfl ⟨aQ,trivial⟩ ⟨aB,wf0,trivial⟩),rfl,rfl,(cW ?_)⟩;exact ⟨rfl,(.mk 1 0 0 s [],r1),by simp only [kF,e1],rfl,rfl,rfl⟩
theorem aeW {p:Prop}(h:p:=by
 unfold aV at b7 ⊢;simp only [Bool.and_eq_true,decide_eq_true_eq] at b7;rw [b7.2];simp):p:=h
theorem YN {T r:List Tok} {n:Nat} {ex:Rec} (hS:iP ex) (hX:wu T n ex) (h:PSt T r) (hn:r.length≤n+1):PrX T ex r:=by
 have hlt:=lJ h.fin;have hn':r.tail.length≤n:=by omega
 by_cases hk:(bV r).kind=1
 ·exact vO (by simp only [iW,hk,if_true]) (abL h (decide_eq_true hk))
 cases b0:aV [116,114,117,101] r with
 | true=>exact vO (by simp only [iW,if_neg hk,b0,if_true]) (Zj h ⟨hk,by omega,by omega,by omega,by omega,by omega,by omega,by omega⟩ b0)
 | false =>
 cases b1:aV [102,97,108,115,101] r with
 | true=>exact vO (by simp only [iW,if_neg hk,b0,b1,Bool.false_eq_true,if_false,if_true]) (Yd h ⟨hk,fun _=>b0,by omega,by omega,by omega,by omega,by omega,by omega⟩ b1)
 | false =>
 cases b2:aV [102,97,99,116] r with
 | true=>exact vO (by simp only [iW,if_neg hk,b0,b1,b2,Bool.false_eq_true,if_false,if_true]) (YL h ⟨hk,fun _=>b0,fun _=>b1,by omega,by omega,by omega,by omega,by omega⟩ b2)
 | false =>
 cases b3:aV [114,97,116,101] r with
 | true=>exact vO (by simp only [iW,if_neg hk,b0,b1,b2,b3,Bool.false_eq_true,if_false,if_true]) (ZU h ⟨hk,fun _=>b0,fun _=>b1,fun _=>b2,by omega,by omega,by omega,by omega⟩ b3)
 | false =>
 cases b4:aV [101,118,101,114] r with
 | true=>exact vO (by simp only [iW,if_neg hk,b0,b1,b2,b3,b4,Bool.false_eq_true,if_false,if_true]) (Z8 h hS hX hn' ⟨hk,fun _=>b0,fun _=>b1,fun _=>b2,fun _=>b3,by omega,by omega,by omega⟩ b4)
 | false =>
 cases b5:aV [108,111,110,103] r with
 | true=>exact vO (by simp only [iW,if_neg hk,b0,b1,b2,b3,b4,b5,Bool.false_eq_true,if_false,if_true]) (ZG h hS hX hn' ⟨hk,fun _=>b0,fun _=>b1,fun _=>b2,fun _=>b3,fun _=>b4,by omega,by omega⟩ b5)
 | false =>
 cases b6:aV [115,111,111,110] r with
 | true=>exact vO (by simp only [iW,if_neg hk,b0,b1,b2,b3,b4,b5,b6,Bool.false_eq_true,if_false,if_true]) (aah h hS hX hn' ⟨hk,fun _=>b0,fun _=>b1,fun _=>b2,fun _=>b3,fun _=>b4,fun _=>b5,by omega⟩ b6)
 | false =>
 have hw:NoW r 7:=⟨hk,fun _=>b0,fun _=>b1,fun _=>b2,fun _=>b3,fun _=>b4,fun _=>b5,fun _=>b6⟩;cases b7:aV [109,105,110] r with
 | true =>
  have bx:aV [109,97,120] r=false:=by
   exact aeW
  exact vO (by simp only [iW,if_neg hk,b0,b1,b2,b3,b4,b5,b6,b7,bx,Bool.false_eq_true,if_false,if_true,true_or]) (ab9 h hS hX hn' hw b7 bx)
 | false =>
 cases b8:aV [109,97,120] r with
 | true=>exact vO (by simp only [iW,if_neg hk,b0,b1,b2,b3,b4,b5,b6,b7,b8,Bool.false_eq_true,if_false,if_true,or_true]) (aaF h hS hX hn' hw b7 b8)
 | false =>
 cases b9:aV [40] r with
 | true=>exact vO (by simp only [iW,if_neg hk,b0,b1,b2,b3,b4,b5,b6,b7,b8,b9,Bool.false_eq_true,if_false,if_true,or_self]) (Xe h hS hX hn' hw b7 b8 b9)
 | false=>exact vO (by simp only [iW,if_neg hk,b0,b1,b2,b3,b4,b5,b6,b7,b8,b9,Bool.false_eq_true,if_false,or_self]) (aal h hw b7 b8 b9)
theorem UL {ex:Rec} (hS:iP ex) {op:Int} {r r':List Tok} {x:Exp} (h:gU ex op r=.ok (x,r')):iw r r':=by
 unfold gU at h;split at h
 ·cases h
 ·rename_i _ _ e1;split at h
  ·cases h
  ·rename_i _ _ e2;split at h
   ·cases h
   ·rename_i _ _ e3;split at h
    ·cases h
    ·rename_i _ e4;cases h;exact (((iD e1).1.trans (aN e2)).trans (hS _ _ _ _ e3)).trans (aN e4)
theorem Y2 {ex:Rec} (hS:iP ex) {op:Int} {r r':List Tok} {x:Exp} (h:oH ex op r=.ok (x,r')):iw r r':=by
 unfold oH at h;split at h
 ·cases h
 ·rename_i _ e1;split at h
  ·cases h
  ·rename_i _ _ e2;split at h
   ·cases h
   ·rename_i _ e3;split at h
    ·cases h
    ·rename_i _ _ e4;split at h
     ·cases h
     ·rename_i _ e5;cases h;exact ((((aN e1).trans (hS _ _ _ _ e2)).trans (aN e3)).trans (hS _ _ _ _ e4)).trans (aN e5)
theorem Fb {op:Int} {r r':List Tok} {x:Exp} (h:kF op r=.ok (x,r')):iw r r':=by
 unfold kF at h;split at h
 ·cases h
 ·rename_i _ _ e1;cases h;exact wQ e1
theorem Yb {ex:Rec} (hS:iP ex) {r r':List Tok} {x:Exp} (h:rP ex r=.ok (x,r')):iw r r':=by
 unfold rP at h;split at h
 ·cases h
 ·rename_i _ _ e1;split at h
  ·cases h
  ·rename_i _ e2;cases h;exact (hS _ _ _ _ e1).trans (aN e2)
theorem Xl {p:Prop}(h:p:=by
 rename_i hk;exact (iw.tail (bf hk)).trans (UL hS h)):p:=h
theorem O8 {ex:Rec} (hS:iP ex) {r r':List Tok} {x:Exp} (h:iW ex r=.ok (x,r')):iw r r':=by
 unfold iW at h;split at h
 ·rename_i hk;cases h;exact (iw.tail aI).trans (Pj _)
 split at h
 ·rename_i hk;cases h;exact .tail (bf hk)
 split at h
 ·rename_i hk;cases h;exact .tail (bf hk)
 split at h
 ·rename_i hk;exact (iw.tail (bf hk)).trans (Fb h)
 split at h
 ·rename_i hk;exact (iw.tail (bf hk)).trans (Fb h)
 split at h
 ·exact Xl
 split at h
 ·exact Xl
 split at h
 ·exact Xl
 split at h
 ·rename_i hk;exact (iw.tail (hk.elim bf bf)).trans (Y2 hS h)
 split at h
 ·rename_i hk;exact (iw.tail (bf hk)).trans (Yb hS h)
 exact Fb h
theorem Vz {ex:Rec} (hS:iP ex) {r r':List Tok} {x:Exp} (h:zx ex r=.ok (x,r')):iw r r':=by
 unfold zx at h;split at h
 ·cases h
 ·rename_i _ _ e1;split at h
  ·cases h
  ·rename_i _ e2;split at h
   ·cases h
   ·rename_i _ _ e3;split at h
    ·cases h
    ·rename_i _ e4;split at h
     ·cases h
     ·rename_i _ _ e5;cases h;exact ((((hS _ _ _ _ e1).trans (aN e2)).trans (hS _ _ _ _ e3)).trans (aN e4)).trans (hS _ _ _ _ e5)
theorem QL {ex:Rec} (hS:iP ex) {r r':List Tok} {x:Exp} (h:notP ex r=.ok (x,r')):iw r r':=by
 unfold notP at h;split at h
 ·cases h
 ·rename_i _ _ e1;cases h;exact hS _ _ _ _ e1
theorem Gj {ex:Rec} (hS:iP ex) {form:Int} {r r':List Tok} {x:Exp} {o:Int} (h:yR ex form r=.ok ((x,o),r')):iw r r'∧0≤o∧o≤7:=by
 unfold yR at h;split at h
 ·rename_i hk;split at h
  ·cases h
  ·rename_i e1;cases h;exact ⟨(iw.tail (bf hk.2)).trans (Vz hS e1),by omega,by omega⟩
 split at h
 ·rename_i hk;split at h
  ·cases h
  ·rename_i e1;cases h;exact ⟨(iw.tail (bf hk.2)).trans (QL hS e1),by omega,by omega⟩
 split at h
 ·cases h
 ·rename_i e1;cases h;exact ⟨O8 hS e1,by omega,by omega⟩
theorem DV {X:Type} (p:X→Bool) (d:X):∀ l:List X,dN p l<0∨((dN p l).toNat<l.length∧p (l.getD (dN p l).toNat d)=true)
 | []=>.inl (by simp [dN])
 | x::l=>by
  cases hx:p x with
  | true=>exact .inr ⟨by simp [dN,hx],by simp [dN,hx]⟩
  | false =>
   rcases DV p d l with h | ⟨h1,h2⟩
   ·exact .inl (by simp [dN,hx,h])
   ·by_cases hneg:dN p l<0
    ·exact .inl (by simp [dN,hx,hneg])
    ·have e:dN p (x::l)=dN p l+1:=by simp [dN,hx,hneg]
     have e':(dN p l+1).toNat=(dN p l).toNat+1:=by omega
     rw [e,e'];exact .inr ⟨by simpa using h1,by simpa using h2⟩
theorem H8 {r:List Tok} (h:¬ iE r<0):(iE r).toNat<m_.length∧aV (opAt (iE r)).text r=true:=by
 rcases DV (fun o:Opr=>aV o.text r) o0 m_ with h' | h'
 ·exact (h h').elim
 ·exact h'
theorem QH {i:Nat} (h:i<m_.length):1≤(m_.getD i o0).form∧(m_.getD i o0).form≤6:=by
 have:∀ i,i<8→1≤(m_.getD i o0).form∧(m_.getD i o0).form≤6:=by decide
 exact this i h
theorem Pg {ex:Rec} (hS:iP ex) {form:Int}:∀ (f:Nat) (e:Exp) (own:Int) (r:List Tok) (x:Exp) (r':List Tok),kZ ex form f e own r=.ok (x,r')→iw r r'
 | 0,e,own,r,x,r',h=>by cases h;exact .refl _
 | f+1,e,own,r,x,r',h=>by
  unfold kZ at h;split at h
  ·cases h;exact .refl _
  ·rename_i hn;dsimp only at h;split at h
   ·cases h;exact .refl _
   ·split at h
    ·cases h
    ·rename_i _ _ e1;exact ((iw.tail (bf (H8 hn).2)).trans (hS _ _ _ _ e1)).trans (Pg hS f _ _ _ _ _ h)
theorem aaN {ex:Rec} (hS:iP ex):iP (yH ex):=by
 intro form r x r' h;unfold yH at h;split at h
 ·cases h
 ·rename_i _ _ _ e1;exact (Gj hS e1).1.trans (Pg hS _ _ _ _ _ _ h)
theorem xM:∀ n:Nat,iP (xX n)
 | 0=>fun form r x r' h=>by cases h
 | n+1=>aaN (xM n)
theorem Lp {ex:Rec} (hS:iP ex) {form:Int}:∀ (f f':Nat) (e:Exp) (own:Int) (r:List Tok),Fin1 r→r.length≤f→r.length≤f'→kZ ex form f e own r=kZ ex form f' e own r
 | 0,f',e,own,r,h,h1,h2=>by have:=List.length_pos_iff.2 h.ne;omega
 | f+1,0,e,own,r,h,h1,h2=>by have:=List.length_pos_iff.2 h.ne;omega
 | f+1,f'+1,e,own,r,h,h1,h2=>by
  unfold kZ;split
  ·rfl
  ·rename_i hn;dsimp only;split
   ·rfl
   ·split
    ·rfl
    ·rename_i y r' e1;have hs:=(iw.tail (bf (H8 hn).2)).trans (hS _ _ _ _ e1);have hl:=(hS _ _ _ _ e1).le;have ht:=lJ h;exact Lp hS f f' _ _ _ (hs.2 h) aI aI
abbrev PfX (T:List Tok) (form:Int) (r:List Tok) (s:Except Er ((Exp×Int)×List Tok)):Prop :=
 RX 240 [.ptr 0 0,.int .i64 form] [cu T r] 1 s (fun v=>[iJ v.1.1,.int .i64 v.1.2]) (fun v=>[cu T v.2]) (fun v=>[.cells 51 (cellsE v.1.1)])
def lq (o:Int) (s:Ps Exp):Except Er ((Exp×Int)×List Tok):=match s with
 | .error e=>.error e
 | .ok (x,r)=>.ok ((x,o),r)
theorem afN {T r:List Tok} (h:PSt T r) {n:Nat} {ex:Rec} (hS:iP ex) (hX:wu T n ex) (hn:r.tail.length≤n) {form:Int} (hf:decide (form=0)=true) (hb:aV [105,102] r=true):PfX T form r (lq 0 (zx ex r.tail)):=by
 have q0:=h.tail (bf hb);refine xO (dV (fun ch=>∃ er,lq 0 (zx ex r.tail)=.error er∧ch=dP er) 1 42 [0,1,4,5,6,7,13,35]) Tryz.func240 ?_;conv=>whnf
 rw [hf];refine cR ((qW h hb)) [0] (cW ?_);refine gT (cW ?_);rcases e1:ex 0 r.tail with e | ⟨x,r1⟩
 ·exact CallG.stop rfl (aG (bK (hX 0 r.tail (by omega) (by omega) q0 hn) e1) [0] rfl rfl rfl ab0) (fun ch hc=>⟨e,by simp only [lq,zx,e1],hc⟩)
 refine cR (bG (hX 0 r.tail aI aI q0 hn) e1) [0] (cW ?_);have s1:=hS _ _ _ _ e1;rcases e2:aT [116,104,101,110] r1 with e | r2
 ·exact CallG.stop rfl (aG (bK (bQ (q0.to s1) [116,104,101,110]) e2) [0,4] rfl rfl rfl ab0) (fun ch hc=>⟨e,by simp only [lq,zx,e1,e2],hc⟩)
 refine cR (bG (bQ (q0.to s1) [116,104,101,110]) e2) [0,4] (cW ?_);have s2:=s1.trans (aN e2);rcases e3:ex 0 r2 with e | ⟨y,r3⟩
 ·exact CallG.stop rfl (aG (bK (hX 0 r2 (by omega) (by omega) (q0.to s2) (Nat.le_trans s2.le hn)) e3) [0] rfl rfl rfl ab0) (fun ch hc=>⟨e,by simp only [lq,zx,e1,e2,e3],hc⟩)
 refine cR (bG (hX 0 r2 aI aI (q0.to s2) (Nat.le_trans s2.le hn)) e3) [0] (cW ?_);have s3:=s2.trans (hS _ _ _ _ e3);rcases e4:aT [101,108,115,101] r3 with e | r4
 ·exact CallG.stop rfl (aG (bK (bQ (q0.to s3) [101,108,115,101]) e4) [0,7] rfl rfl rfl ab0) (fun ch hc=>⟨e,by simp only [lq,zx,e1,e2,e3,e4],hc⟩)
 refine cR (bG (bQ (q0.to s3) [101,108,115,101]) e4) [0,7] (cW ?_);have s4:=s3.trans (aN e4);rcases e5:ex 0 r4 with e | ⟨z,r5⟩
 ·refine DrawG.effp ad0 3 (cW ?_);exact .mk [0] _ (aG ((bK (hX 0 r4 (by omega) (by omega) (q0.to s4) (Nat.le_trans s4.le hn)) e5)) [0] rfl rfl rfl ab0) ((fun ch hc=>⟨e,by simp only [lq,zx,e1,e2,e3,e4,e5],hc⟩)) ⟨by kernel_rfl,by kernel_rfl⟩
 refine .eff ad0 (cW ?_);refine cR ((bG (hX 0 r4 aI aI (q0.to s4) (Nat.le_trans s4.le hn)) e5)) [0] (cW ?_);refine ⟨by kernel_rfl,(cW (cW ?_))⟩;refine ⟨⟨[(4,.ptr 1 0),(5,.int .i64 0)],[(0,.cells 183 (dw T r5)),(1,.cells 51 (cellsE (.mk 15 0 0 [] [x,y,z])))],2⟩,(dY [9]).trans (aj [(0,.id 0),(1,.id 1)] rfl ⟨aQ,ah,trivial⟩ ⟨aB,⟨_,rfl,.cells _ _ _ _ rfl (by repeat (first | exact .nil | refine .cons (by first | exact .base (.tree _ _ rfl rfl) | exact .base (.own _ _ rfl) | exact .base (.ptr _ _ _ rfl) | exact .base (.map _ _ rfl) | exact .base (.nilown _ rfl) | exact .fn _ _ _ _ _ .nil vJ | exact .base (.tree _ _ (Qz 15 0 0 [] x y z) rfl) | exact .base (.leT _ _ (Qz 15 0 0 [] x y z) rfl)) ?_)) rfl⟩,trivial⟩),rfl,rfl,?_⟩;conv=>whnf
 exact ⟨rfl,((.mk 15 0 0 [] [x,y,z],0),r5),by simp only [lq,zx,e1,e2,e3,e4,e5],rfl,rfl,rfl⟩
theorem ahN {p:Prop}(h:p:=by
 conv=>whnf
 refine gF (cW ?_);rw [hg];refine cR ((qW h hb)) [0] (cW ?_);refine gT (cW ?_);rcases e1:ex 3 r.tail with e | ⟨x,r1⟩
 ·exact CallG.stop rfl (aG (bK (hX 3 r.tail (by omega) (by omega) q0 hn) e1) [0] rfl rfl rfl ab0) (fun ch hc=>⟨e,by simp only [lq,notP,e1],hc⟩)
 refine cR (bG (hX 3 r.tail aI aI q0 hn) e1) [0] (cW ?_);refine ⟨⟨[(4,.ptr 1 0),(5,.int .i64 3)],[(0,.cells 183 (dw T r1)),(1,.cells 51 (cellsE (.mk 12 0 0 [] [x])))],2⟩,(dY [3]).trans (aj [(0,.id 0),(1,.id 1)] rfl ⟨aQ,ah,trivial⟩ ⟨aB,⟨_,rfl,.cells _ _ _ _ rfl (by repeat (first | exact .nil | refine .cons (by first | exact .base (.tree _ _ rfl rfl) | exact .base (.own _ _ rfl) | exact .base (.ptr _ _ _ rfl) | exact .base (.map _ _ rfl) | exact .base (.nilown _ rfl) | exact .fn _ _ _ _ _ .nil vJ | exact .base (.tree _ _ (args1 12 0 0 [] x) rfl) | exact .base (.leT _ _ (args1 12 0 0 [] x) rfl)) ?_)) rfl⟩,trivial⟩),rfl,rfl,?_⟩;conv=>whnf
 exact ⟨rfl,((.mk 12 0 0 [] [x],3),r1),by simp only [lq,notP,e1],rfl,rfl,rfl⟩):p:=h
theorem abS {T r:List Tok} (h:PSt T r) {n:Nat} {ex:Rec} (hS:iP ex) (hX:wu T n ex) (hn:r.tail.length≤n) {form:Int} (hf:(decide (form=0)&&aV [105,102] r)=false) (hg:decide (form≤3)=true) (hb:aV [110,111,116] r=true):PfX T form r (lq 3 (notP ex r.tail)):=by
 have q0:=h.tail (bf hb);cases hb0:decide (form=0) with
 | true =>
  have hi:aV [105,102] r=false:=by simpa [hb0] using hf
  refine xO (dV (fun ch=>∃ er,lq 3 (notP ex r.tail)=.error er∧ch=dP er) 1 42 [0,1,4,5,6,7,13,35]) Tryz.func240 ?_;conv=>whnf
  rw [hb0];refine cR ((dA h hi)) [0] ?_;exact ahN
 | false =>
  refine xO (dV (fun ch=>∃ er,lq 3 (notP ex r.tail)=.error er∧ch=dP er) 1 42 [0,1,4,5,6,7,13,35]) Tryz.func240 ?_;conv=>whnf
  rw [hb0];refine cF [.rop (dw T r),.str [105,102]] [.val (.bool false)] ?_;exact ahN
theorem ag6 {p:Prop}(h:p:=by
 conv=>whnf
 refine gF (cW ?_);rcases e1:iW ex r with e | ⟨x,r1⟩
 ·exact CallG.stop rfl (aG (bK (YN hS hX h hn) e1) [0] rfl rfl rfl ab0) (fun ch hc=>⟨e,by simp only [lq,e1],hc⟩)
 refine cR (bG (YN hS hX h hn) e1) [0] (cW ?_);refine ⟨⟨[(4,.ptr 1 0),(5,.int .i64 7)],[(0,.cells 183 (dw T r1)),(1,.cells 51 (cellsE x))],2⟩,(aj [(0,.id 0),(1,.id 1)] rfl ⟨aQ,ah,trivial⟩ ⟨aB,aB,trivial⟩),rfl,rfl,(cW ?_)⟩;exact ⟨rfl,((x,7),r1),by simp only [lq],rfl,rfl,rfl⟩):p:=h
theorem adF {p:Prop}(h:p:=by
 conv=>whnf
 refine gF (cW ?_);rw [hg3];refine cR ((dA h hb)) [0] ?_;exact ag6):p:=h
theorem YG {T r:List Tok} (h:PSt T r) {n:Nat} {ex:Rec} (hS:iP ex) (hX:wu T n ex) (hn:r.length≤n+1) {form:Int} (hf:(decide (form=0)&&aV [105,102] r)=false) (hg:(decide (form≤3)&&aV [110,111,116] r)=false):PfX T form r (lq 7 (iW ex r)):=by
 cases hb0:decide (form=0) with
 | true =>
  have hi:aV [105,102] r=false:=by simpa [hb0] using hf
  have hg3:decide (form≤3)=true:=by have:=of_decide_eq_true hb0;exact decide_eq_true (by omega)
  have hb:aV [110,111,116] r=false:=by simpa [hg3] using hg
  refine xO (dV (fun ch=>∃ er,lq 7 (iW ex r)=.error er∧ch=dP er) 1 42 [0,1,4,5,6,7,13,35]) Tryz.func240 ?_;conv=>whnf
  rw [hb0];refine cR ((dA h hi)) [0] ?_;exact adF
 | false =>
  cases hg3:decide (form≤3) with
  | true =>
   have hb:aV [110,111,116] r=false:=by simpa [hg3] using hg
   refine xO (dV (fun ch=>∃ er,lq 7 (iW ex r)=.error er∧ch=dP er) 1 42 [0,1,4,5,6,7,13,35]) Tryz.func240 ?_;conv=>whnf
   rw [hb0];refine cF [.rop (dw T r),.str [105,102]] [.val (.bool false)] ?_;exact adF
  | false =>
   refine xO (dV (fun ch=>∃ er,lq 7 (iW ex r)=.error er∧ch=dP er) 1 42 [0,1,4,5,6,7,13,35]) Tryz.func240 ?_;conv=>whnf
   rw [hb0];refine cF [.rop (dw T r),.str [105,102]] [.val (.bool false)] (cW ?_);refine gF (cW ?_);rw [hg3];refine cF [.rop (dw T r),.str [110,111,116]] [.val (.bool false)] ?_;exact ag6
theorem abY (ex:Rec) (form:Int) (r:List Tok):yR ex form r=if (decide (form=0)&&aV [105,102] r)=true then lq 0 (zx ex r.tail) else if (decide (form≤3)&&aV [110,111,116] r)=true then lq 3 (notP ex r.tail) else lq 7 (iW ex r):=by
 unfold yR;simp only [Bool.and_eq_true,decide_eq_true_eq];split
 ·try (cases zx ex r.tail<;>rfl)
 split
 ·try (cases notP ex r.tail<;>rfl)
 ·try (cases iW ex r<;>rfl)
theorem YX {T r:List Tok} (h:PSt T r) {n:Nat} {ex:Rec} (hS:iP ex) (hX:wu T n ex) (hn:r.length≤n+1) (form:Int):PfX T form r (yR ex form r):=by
 have hlt:=lJ h.fin;have hn':r.tail.length≤n:=by omega
 rw [abY];cases h1:(decide (form=0)&&aV [105,102] r) with
 | true =>
  have h1':=h1;simp only [Bool.and_eq_true] at h1';exact afN h hS hX hn' h1'.1 h1'.2
 | false =>
  cases h2:(decide (form≤3)&&aV [110,111,116] r) with
  | true =>
   have h2':=h2;simp only [Bool.and_eq_true] at h2';exact abS h hS hX hn' h1 h2'.1 h2'.2
  | false=>exact YG h hS hX hn h1 h2
theorem ahv {T r:List Tok} (h:PSt T r) (o:Opr):ak Tryz.prog 243 [Kv o,.rop [.rop (dw T r)]] (.bool (aV o.text r)):=by
 have hi:=zZ h o.text;refine aO (au 8 [0,1,2,3]) Tryz.func243 ?_;conv=>whnf
 refine cO (fun _=>hi) (cW ?_);rfl
theorem find_ok {T r:List Tok} (h:PSt T r):ak Tryz.prog 241 [.sl 3 Kv o0 m_,.fn (.func 243) [] [.rop [.rop (dw T r)]]] (.int .i64 (iE r)) :=
 afo m_ 243 [.rop (dw T r)] (fun o=>aV o.text r) (fun o _=>ahv h o) (by decide) rfl
theorem Xx {ex:Rec} {form:Int} {f:Nat} {e:Exp} {own:Int} {r:List Tok} (h:¬ iE r<0) (hc:¬ ((opAt (iE r)).form<form∨own<(opAt (iE r)).form∨own=4∧(opAt (iE r)).form=4)) :
  kZ ex form (f+1) e own r=match ex ((opAt (iE r)).form+1) r.tail with
    | .error e=>.error e
    | .ok (y,r')=>kZ ex form f (.mk (opAt (iE r)).op 0 0 [] [e,y]) (opAt (iE r)).form r':=by
 rw [kZ,if_neg h];dsimp only;rw [if_neg hc];try (cases ex ((opAt (iE r)).form+1) r.tail<;>rfl)
theorem WG {ex:Rec} {form:Int} {f:Nat} {e:Exp} {own:Int} {r:List Tok} (h:iE r<0):kZ ex form (f+1) e own r=.ok (e,r):=by
 rw [kZ,if_pos h]
theorem Xv {ex:Rec} {form:Int} {f:Nat} {e:Exp} {own:Int} {r:List Tok} (h:¬ iE r<0) (hc:(opAt (iE r)).form<form∨own<(opAt (iE r)).form∨own=4∧(opAt (iE r)).form=4):kZ ex form (f+1) e own r=.ok (e,r):=by
 rw [kZ,if_neg h];dsimp only;rw [if_pos hc]
theorem Tn {p:Prop} (h:p:=by rcases List.mem_singleton.1 hr with rfl;rfl):p:=h
theorem aiR {T:List Tok} {n:Nat} {ex:Rec} (hS:iP ex) (hX:wu T n ex):wu T (n+1) (yH ex):=by
 intro form r hf0 hf7 h hn;refine xO (dV (fun ch=>∃ er,yH ex form r=.error er∧ch=dP er) 1 64 [0,1,2,4,5,6,7,8,19,43]) Tryz.func202 ?_;conv=>whnf
 rcases e1:yR ex form r with e | ⟨⟨x0,o0'⟩,r0⟩
 ·exact CallG.stop rfl (aG (bK (YX h hS hX hn form) e1) [0] rfl rfl rfl ab0) (fun ch hc=>⟨e,by simp only [yH,e1],hc⟩)
 refine cR (bG (YX h hS hX hn form) e1) [0] (cW ?_);obtain ⟨s0,ho0,ho7⟩:=Gj hS e1;have hx0:yH ex form r=kZ ex form r0.length x0 o0' r0:=by simp only [yH,e1]
 refine dO (dV _ _ _ _) (fun s:(Exp×Int)×List Tok=>PSt T s.2∧s.2.length≤n+1∧(0≤s.1.2∧s.1.2≤7)∧yH ex form r=kZ ex form s.2.length s.1.1 s.1.2 s.2) (fun s=>s.2.length) (fun s=>⟨[(1,.int .i64 form),(2,.ptr 1 0),(4,.ptr 2 0),(5,.ptr 3 0),(6,.int .i64 (s.1.2))],[(0,.cells 183 (dw T (s.2))),(1,.cells 147 [.ptr 0 0]),(2,.cells 51 [.int .i64 0,.int .i64 0,.int .i64 0,.str [],.nils]),(3,.cells 51 (cellsE (s.1.1)))],4⟩) ((x0,o0'),r0) ⟨h.to s0,Nat.le_trans s0.le hn,⟨ho0,ho7⟩,hx0⟩ ((aj [(0,.id 0),(1,.id 1),(2,.id 2),(3,.id 4)] rfl ⟨ah,aQ,aQ,aQ,ah,trivial⟩ ⟨aB,aB,aB,aB,trivial⟩)) ?_;rintro ⟨⟨e,own⟩,q⟩ ⟨hq,hqn,⟨hw0,hw7⟩,hsp⟩;dsimp only at hq hqn hw0 hw7 hsp ⊢;have hio:=find_ok hq;have hqp:=hq.pos;conv=>whnf
 refine cO (fun _=>aaw) (cW ?_);refine .one _ _ _ (fun _=>hio) (.cons (lS rfl) (.cons (.fn _ _ _ _ _ _ _ .nil (.cons (.box 1 0 147 [.ptr 0 0] [.rop (dw T q)] [0] rfl (.cons (t:=[0]) (t':=[]) (.box 0 0 183 (dw T q) (dw T q) [] rfl (.cons (t:=[]) (t':=[]) (Bor.same _ rfl) (.cons (t:=[]) (t':=[]) (Bor.same _ rfl) .nil)) (dZ rfl)) .nil) (dZ rfl)) .nil)) .nil)) (.inr fun r hr=>Tn) (.inl rfl) (cW ?_);obtain ⟨f,hqf⟩:∃ f,q.length=f+1:=⟨q.length-1,by omega⟩;rw [hqf] at hsp;refine ⟨fun h0=>?_,fun h0=>?_⟩
 ·have h0:=of_decide_eq_true h0;conv=>whnf
  refine ⟨⟨[(4,.ptr 1 0)],[(0,.cells 183 (dw T q)),(1,.cells 51 (cellsE e))],2⟩,(aj [(0,.id 0),(1,.id 2)] rfl ⟨aQ,trivial⟩ ⟨aB,aB,trivial⟩),rfl,rfl,(cW ?_)⟩;exact ⟨rfl,(e,q),by rw [hsp,WG h0],rfl,rfl,rfl⟩
 have h0:=of_decide_eq_false h0;obtain ⟨hlt,hop⟩:=H8 h0;obtain ⟨hx1,hx6⟩:=QH hlt;have hge:0≤iE q:=by omega
 have hlt':iE q<8:=by have:m_.length=8:=rfl;omega
 have hoa:opAt (iE q)=m_.getD (iE q).toNat o0:=rfl;rw [← hoa] at hx1 hx6;conv=>whnf
 refine cO (fun _=>aaw) (cW ?_);refine iO (cW ?_);refine And.intro rfl (cW ?_);rw [← hoa];have hdec:(decide ((opAt (iE q)).form<form)||decide (own<(opAt (iE q)).form)||decide (own=4)&&decide ((opAt (iE q)).form=4))=decide ((opAt (iE q)).form<form∨own<(opAt (iE q)).form∨own=4∧(opAt (iE q)).form=4):=by
  simp only [Bool.decide_or,Bool.decide_and,Bool.or_assoc]
 rw [hdec];refine ⟨fun hc=>?_,fun hc=>?_⟩
 ·have hc:=of_decide_eq_true hc;conv=>whnf
  refine ⟨⟨[(4,.ptr 1 0)],[(0,.cells 183 (dw T q)),(1,.cells 51 (cellsE e))],2⟩,(aj [(0,.id 0),(1,.id 2)] rfl ⟨aQ,trivial⟩ ⟨aB,aB,trivial⟩),rfl,rfl,(cW ?_)⟩;exact ⟨rfl,(e,q),by rw [hsp,Xv h0 hc],rfl,rfl,rfl⟩
 have hc:=of_decide_eq_false hc;rw [Xx h0 hc] at hsp;have hat:=hq.at
 have hqle:=hq.le;have hbig:=hq.big;have qt:=hq.tail (bf hop);have htl:=lJ hq.fin;conv=>whnf
 refine iO (cW ?_);rw [hat];conv=>whnf
 rcases e2:ex ((opAt (iE q)).form+1) q.tail with er | ⟨y,q2⟩
 ·rw [e2] at hsp;refine DrawG.effp ad0 7 (cW ?_);refine iO (cW ?_);exact .mk [0] _ (aG ((bK (hX _ q.tail aI aI qt aI) e2)) [0] rfl rfl rfl ab0) ((fun ch hc=>⟨er,hsp,hc⟩)) ⟨by kernel_rfl,by kernel_rfl⟩
 rw [e2] at hsp;refine .eff ad0 (cW ?_);refine iO (cW ?_);refine cR ((bG (hX _ q.tail aI aI qt aI) e2)) [0] (cW ?_);refine ⟨by kernel_rfl,(cW (cW ?_))⟩;have hq2:=qt.to (hS _ _ _ _ e2);have hl2:=(hS _ _ _ _ e2).le;exact ⟨((.mk (opAt (iE q)).op 0 0 [] [e,y],(opAt (iE q)).form),q2),⟨hq2,(by show q2.length≤n+1;omega),⟨(by show 0≤(opAt (iE q)).form;omega),(by show (opAt (iE q)).form≤7;omega)⟩,(by rw [hsp];exact Lp hS _ _ _ _ _ hq2.fin (by omega) (Nat.le_refl _))⟩,(by show q2.length<q.length;omega),(dY [6]).trans (aj [(0,.id 0),(1,.id 1),(2,.id 2),(3,.id 3)] rfl ⟨ah,aQ,aQ,aQ,ah,trivial⟩ ⟨aB,aB,aB,⟨_,rfl,.cells _ _ _ _ rfl (by repeat (first | exact .nil | refine .cons (by first | exact .base (.tree _ _ rfl rfl) | exact .base (.own _ _ rfl) | exact .base (.ptr _ _ _ rfl) | exact .base (.map _ _ rfl) | exact .base (.nilown _ rfl) | exact .fn _ _ _ _ _ .nil vJ | exact .base (.tree _ _ (args2 (opAt (iE q)).op 0 0 [] e y) rfl) | exact .base (.leT _ _ (args2 (opAt (iE q)).op 0 0 [] e y) rfl)) ?_)) rfl⟩,trivial⟩)⟩
theorem QI (T:List Tok):∀ n:Nat,wu T n (xX n)
 | 0=>fun form r _ _ h hn=>by have:=h.pos;omega
 | n+1=>aiR (xM n) (QI T n)
inductive WfE:Exp→Prop
 | num (n u:Int) (h0:0≤n) (h1:n≤1000000000000000) (hu:0≤u∧u≤3):WfE (.mk 0 n u [] [])
 | boo (n:Int) (h:n=0∨n=1):WfE (.mk 0 n 4 [] [])
 | name (op:Int) (s:List UInt8) (ho:op=1∨op=2∨op=3) (hn:nameB s=true) (hl:s.length≤9223372036854775807):WfE (.mk op 0 0 s [])
 | within (op n:Int) (x:Exp) (ho:op=16∨op=17∨op=18) (hn:1≤n∧n≤1000) (hx:WfE x):WfE (.mk op n 0 [] [x])
 | not (x:Exp) (hx:WfE x):WfE (.mk 12 0 0 [] [x])
 | pair (op:Int) (x y:Exp) (ho:4≤op∧op≤14∧op≠12) (hx:WfE x) (hy:WfE y):WfE (.mk op 0 0 [] [x,y])
 | cond (x y z:Exp) (hx:WfE x) (hy:WfE y) (hz:WfE z):WfE (.mk 15 0 0 [] [x,y,z])
theorem BG {p:Prop} (h:p:=by show dG 0;unfold dG;omega):p:=h
theorem EP {p:Prop} (h:p:=by show ([]:List Exp).length≤_;simp):p:=h
theorem N7 {p:Prop} (h:p:=by show ([]:List UInt8).length≤_;simp):p:=h
theorem Nz {p:Prop} (h:p:=by show [x].length≤_;simp):p:=h
theorem aa2 {p:Prop} (h:p:=by show dG op;unfold dG;omega):p:=h
theorem aa7 {p:Prop} (h:p:=by show dG n;unfold dG;omega):p:=h
theorem aa5 {p:Prop} (h:p:=by show [x,y,z].length≤_;simp):p:=h
theorem WfE.okE {e:Exp} (h:WfE e):OkE e:=by
 induction h with
 | num n u h0 h1 hu=>exact .mk BG aa7 (by show dG u;unfold dG;omega) N7 EP (fun a ha=>by cases ha)
 | boo n h=>exact .mk BG aa7 (by show dG 4;unfold dG;omega) N7 EP (fun a ha=>by cases ha)
 | name op s ho hn hl=>exact .mk aa2 BG BG hl EP (fun a ha=>by cases ha)
 | within op n x ho hn hx ih=>exact .mk aa2 aa7 BG N7 Nz (fun a ha=>by have ha:a∈[x]:=ha;simp at ha;subst ha;exact ih)
 | not x hx ih=>exact .mk (by show dG 12;unfold dG;omega) BG BG N7 Nz (fun a ha=>by have ha:a∈[x]:=ha;simp at ha;subst ha;exact ih)
 | pair op x y ho hx hy ihx ihy=>exact .mk aa2 BG BG N7 (by show [x,y].length≤_;simp) (fun a ha=>by have ha:a∈[x,y]:=ha;simp at ha;rcases ha with rfl | rfl<;>assumption)
 | cond x y z hx hy hz ihx ihy ihz=>exact .mk (by show dG 15;unfold dG;omega) BG BG N7 aa5 (fun a ha=>by have ha:a∈[x,y,z]:=ha;simp at ha;rcases ha with rfl | rfl | rfl<;>assumption)
theorem KP (e:Exp):jP e=pR e.args+1:=by cases e;simp only [jP,Exp.args]
theorem Py:∀ (l:List Exp) (x:Exp),pR (l++[x])=max (pR l) (jP x)
 | [],x=>by simp only [List.nil_append,pR];omega
 | y::l,x=>by rw [List.cons_append,pR,pR,Py l x];omega
theorem BJ:∀ {l:List Exp} {x:Exp},x∈l→jP x≤pR l
 | y::l,x,h=>by
  rw [pR];rcases List.mem_cons.1 h with rfl | h
  ·omega
  ·have:=BJ h;omega
theorem Hu:∀ (l:List Exp) (k:Nat),pR (l.take k)≤pR l
 | [],k=>by simp
 | y::l,0=>by simp [pR]
 | y::l,k+1=>by rw [List.take_succ_cons,pR,pR];have:=Hu l k;omega
theorem aeT {p:Prop}(h:p:=by
 have hd:=of_decide_eq_false hd;have hke:k=e.args.length:=by omega
 rw [hke,List.take_length];conv=>whnf
 refine iO (cW ?_);rw [he];rfl):p:=h
theorem agD {p:Prop} (h:p:=by rw [wM (d:=Es) hlt,Py];show max _ _=((max _ (jP (Qv e k)):Nat):Int);omega):p:=h
theorem o_ (e:Exp) (ha:e.args.length≤1000) (hb:jP e≤10000000000000) (h:∀ a∈e.args,ak Tryz.prog 203 [iJ a] (.int .i64 (jP a:Nat))):ak Tryz.prog 203 [iJ e] (.int .i64 (jP e:Nat)):=by
 have hal:=PK e;have he:=KP e;refine aO (au 20 [0,1,2,3,5,7,8,9,10]) Tryz.func203 ?_;conv=>whnf
 refine dO (au _ _) (fun k:Nat=>k≤e.args.length) (fun k=>e.args.length-k) (fun k=>⟨[(3,.int .i64 (pR (e.args.take k):Nat)),(7,.lsl 5 (jO e)),(8,.int .i64 (e.args.length:Nat)),(9,.int .i64 (k:Nat))],[],0⟩) 0 (by show 0≤_;omega) ((aj [] rfl ⟨ah,ah,.base (.tree _ _ (congrArg (fun n:Nat=>AV.int .i64 (n:Int)) hal) rfl),ah,trivial⟩ trivial)) ?_;intro k hk;have hk:k≤e.args.length:=hk;conv=>whnf
 refine ⟨fun hd=>?_,fun hd=>?_⟩
 ·have hd:=of_decide_eq_true hd;have hlt:k<e.args.length:=by omega
  have hek:(k:Int).toNat=k:=Int.toNat_natCast k;have hm:Qv e k∈e.args:=KT hlt;have hrec:=h _ hm;have h1:=BJ hm;have h2:=Hu e.args k;conv=>whnf
  refine iO (cW ?_);refine And.intro rfl (cW ?_);rw [hek,O_ e hlt];conv=>whnf
  refine cO (fun _=>hrec) (cW ?_);refine iO (cW ?_);exact ⟨k+1,hlt,(by show e.args.length-(k+1)<e.args.length-k;omega),(aj [] rfl ⟨.base (.tree _ _ (congrArg (AV.int .i64) agD) rfl),ah,ah,ah,trivial⟩ trivial)⟩
 ·exact aeT
theorem Zz {e:Exp} (hw:WfE e) (hb:jP e≤10000000000000):ak Tryz.prog 203 [iJ e] (.int .i64 (jP e:Nat)):=by
 have up:∀ (e:Exp),jP e≤10000000000000→∀ a∈e.args,jP a≤10000000000000:=fun e he a ha=>by
  have:=BJ ha;rw [KP] at he;omega
 induction hw with
 | num n u h0 h1 hu=>exact o_ _ EP hb (fun a ha=>by cases ha)
 | boo n h=>exact o_ _ EP hb (fun a ha=>by cases ha)
 | name op s ho hn hl=>exact o_ _ EP hb (fun a ha=>by cases ha)
 | within op n x ho hn hx ih=>exact o_ _ Nz hb (fun a ha=>by have hl:=up _ hb a ha;have ha:a∈[x]:=ha;simp at ha;subst ha;exact ih hl)
 | not x hx ih=>exact o_ _ Nz hb (fun a ha=>by have hl:=up _ hb a ha;have ha:a∈[x]:=ha;simp at ha;subst ha;exact ih hl)
 | pair op x y ho hx hy ihx ihy=>exact o_ _ (by show [x,y].length≤_;simp) hb (fun a ha=>by have hl:=up _ hb a ha;have ha:a∈[x,y]:=ha;simp at ha;rcases ha with rfl | rfl<;>first | exact ihx hl | exact ihy hl)
 | cond x y z hx hy hz ihx ihy ihz=>exact o_ _ aa5 hb (fun a ha=>by have hl:=up _ hb a ha;have ha:a∈[x,y,z]:=ha;simp at ha;rcases ha with rfl | rfl | rfl<;>first | exact ihx hl | exact ihy hl | exact ihz hl)
def Made (r:List Tok) (x:Exp) (r':List Tok):Prop:=WfE x∧jP x+r'.length≤r.length
def RecM (T:List Tok) (ex:Rec):Prop:=∀ form r x r',PSt T r→ex form r=.ok (x,r')→Made r x r'
theorem PSt.tl {T r:List Tok} (h:PSt T r):r.tail.length+1=r.length:=by have:=h.pos;rw [List.length_tail];omega
theorem uj {T:List Tok} {s:List UInt8} {r r':List Tok} (h:PSt T r) (e:aT s r=.ok r'):r'.length+1=r.length:=by
 unfold aT at e;split at e
 ·cases e;exact h.tl
 ·cases e
theorem VP {T:List Tok} {a b n:Int} {r r':List Tok} (h:PSt T r) (e:iV a b r=.ok (n,r')):r'.length+1=r.length∧a≤n∧n≤b:=by
 unfold iV at e;split at e
 ·cases e
 ·split at e
  ·rename_i hr;cases e;exact ⟨h.tl,hr⟩
  ·cases e
theorem acB {T:List Tok} {s:List UInt8} {r r':List Tok} (h:PSt T r) (e:nameP r=.ok (s,r')):r'.length+1=r.length∧nameB s=true∧s.length≤4000:=by
 unfold nameP at e;split at e
 ·rename_i hr;cases e;unfold mD at hr;simp only [Bool.and_eq_true,decide_eq_true_eq] at hr;exact ⟨h.tl,hr.2,h.tlen⟩
 ·cases e
theorem aaV (r:List Tok):(jM r).2.length≤r.length∧0≤(jM r).1∧(jM r).1≤3:=by
 refine ⟨(Pj r).le,?_⟩;unfold jM;repeat' split
 all_goals simp
theorem XP (op n u:Int) (s:List UInt8):jP (.mk op n u s [])=1:=by simp [jP,pR]
theorem ag9 (op n u:Int) (s:List UInt8) (x:Exp):jP (.mk op n u s [x])=jP x+1:=by simp [jP,pR]
theorem ah5 (op n u:Int) (s:List UInt8) (x y:Exp):jP (.mk op n u s [x,y])=max (jP x) (jP y)+1:=by simp [jP,pR]
theorem ajM (op n u:Int) (s:List UInt8) (x y z:Exp):jP (.mk op n u s [x,y,z])=max (jP x) (max (jP y) (jP z))+1:=by simp [jP,pR]
theorem DN {T:List Tok} {op:Int} (ho:op=1∨op=2∨op=3) {r r':List Tok} {x:Exp} (h:PSt T r) (e:kF op r=.ok (x,r')):Made r x r':=by
 unfold kF at e;split at e
 ·cases e
 ·rename_i s r1 e1;cases e;obtain ⟨h1,h2,h3⟩:=acB h e1;exact ⟨.name op s ho h2 (by omega),by rw [XP];omega⟩
theorem Ua {T:List Tok} {ex:Rec} (hS:iP ex) (hM:RecM T ex) {op:Int} (ho:op=16∨op=17∨op=18) {r r':List Tok} {x:Exp} (h:PSt T r) (e:gU ex op r=.ok (x,r')):Made r x r':=by
 unfold gU at e;split at e
 ·cases e
 ·rename_i n r1 e1;split at e
  ·cases e
  ·rename_i r2 e2;split at e
   ·cases e
   ·rename_i y r3 e3;split at e
    ·cases e
    ·rename_i r4 e4;cases e;have q1:=h.to (iD e1).1;have q2:=q1.to (aN e2);have q3:=q2.to (hS _ _ _ _ e3);obtain ⟨l1,n1,n2⟩:=VP h e1;have l2:=uj q1 e2;obtain ⟨w3,l3⟩:=hM _ _ _ _ q2 e3;have l4:=uj q3 e4;exact ⟨.within op n y ho ⟨n1,n2⟩ w3,by rw [ag9];omega⟩
theorem X_ {T:List Tok} {ex:Rec} (hS:iP ex) (hM:RecM T ex) {op:Int} (ho:4≤op∧op≤14∧op≠12) {r r':List Tok} {x:Exp} (h:PSt T r) (e:oH ex op r=.ok (x,r')):Made r x r':=by
 unfold oH at e;split at e
 ·cases e
 ·rename_i r1 e1;split at e
  ·cases e
  ·rename_i y r2 e2;split at e
   ·cases e
   ·rename_i r3 e3;split at e
    ·cases e
    ·rename_i z r4 e4;split at e
     ·cases e
     ·rename_i r5 e5;cases e;have q1:=h.to (aN e1);have q2:=q1.to (hS _ _ _ _ e2);have q3:=q2.to (aN e3);have q4:=q3.to (hS _ _ _ _ e4);have l1:=uj h e1;obtain ⟨w2,l2⟩:=hM _ _ _ _ q1 e2;have l3:=uj q2 e3;obtain ⟨w4,l4⟩:=hM _ _ _ _ q3 e4;have l5:=uj q4 e5;exact ⟨.pair op y z ho w2 w4,by rw [ah5];omega⟩
theorem UD {T:List Tok} {ex:Rec} (hS:iP ex) (hM:RecM T ex) {r r':List Tok} {x:Exp} (h:PSt T r) (e:rP ex r=.ok (x,r')):Made r x r':=by
 unfold rP at e;split at e
 ·cases e
 ·rename_i y r1 e1;split at e
  ·cases e
  ·rename_i r2 e2;cases e;have q1:=h.to (hS _ _ _ _ e1);obtain ⟨w1,l1⟩:=hM _ _ _ _ h e1;have l2:=uj q1 e2;exact ⟨w1,by omega⟩
theorem Made.more {r0 r r':List Tok} {x:Exp} (h:Made r x r') (hl:r.length≤r0.length):Made r0 x r':=⟨h.1,Nat.le_trans h.2 hl⟩
theorem X4 {p:Prop}(h:p:=by
 rename_i hk;exact (Ua hS hM (by omega) (h.tail (bf hk)) e).more (by omega)):p:=h
theorem V8 {T:List Tok} {ex:Rec} (hS:iP ex) (hM:RecM T ex) {r r':List Tok} {x:Exp} (h:PSt T r) (e:iW ex r=.ok (x,r')):Made r x r':=by
 have htl:=h.tl;unfold iW at e;split at e
 ·cases e;obtain ⟨u1,u2,u3⟩:=aaV r.tail;obtain ⟨_,n1,n2⟩:=h.txt _ h.hd;exact ⟨.num _ _ n1 n2 ⟨u2,u3⟩,by rw [XP];omega⟩
 split at e
 ·cases e;exact ⟨.boo 1 (.inr rfl),by rw [XP];omega⟩
 split at e
 ·cases e;exact ⟨.boo 0 (.inl rfl),by rw [XP];omega⟩
 split at e
 ·rename_i hk;exact (DN (by omega) (h.tail (bf hk)) e).more (by omega)
 split at e
 ·rename_i hk;exact (DN (by omega) (h.tail (bf hk)) e).more (by omega)
 split at e
 ·exact X4
 split at e
 ·exact X4
 split at e
 ·exact X4
 split at e
 ·rename_i hk;exact (X_ hS hM (by split<;>omega) (h.tail (hk.elim bf bf)) e).more (by omega)
 split at e
 ·rename_i hk;exact (UD hS hM (h.tail (bf hk)) e).more (by omega)
 exact DN aI h e
theorem Xa {T:List Tok} {ex:Rec} (hS:iP ex) (hM:RecM T ex) {form:Int} {r r':List Tok} {x:Exp} {o:Int} (h:PSt T r) (e:yR ex form r=.ok ((x,o),r')):Made r x r':=by
 have htl:=h.tl;unfold yR at e;split at e
 ·rename_i hk;have q:=h.tail (bf hk.2);split at e
  ·cases e
  ·rename_i x1 r1 e0;cases e;unfold zx at e0;split at e0
   ·cases e0
   ·rename_i y r1 e1;split at e0
    ·cases e0
    ·rename_i r2 e2;split at e0
     ·cases e0
     ·rename_i z r3 e3;split at e0
      ·cases e0
      ·rename_i r4 e4;split at e0
       ·cases e0
       ·rename_i u r5 e5;cases e0;have q1:=q.to (hS _ _ _ _ e1);have q2:=q1.to (aN e2);have q3:=q2.to (hS _ _ _ _ e3);have q4:=q3.to (aN e4);obtain ⟨w1,l1⟩:=hM _ _ _ _ q e1;have l2:=uj q1 e2;obtain ⟨w3,l3⟩:=hM _ _ _ _ q2 e3;have l4:=uj q3 e4;obtain ⟨w5,l5⟩:=hM _ _ _ _ q4 e5;exact ⟨.cond y z u w1 w3 w5,by rw [ajM];omega⟩
 split at e
 ·rename_i hk;have q:=h.tail (bf hk.2);split at e
  ·cases e
  ·rename_i x1 r1 e0;cases e;unfold notP at e0;split at e0
   ·cases e0
   ·rename_i y r1 e1;cases e0;obtain ⟨w1,l1⟩:=hM _ _ _ _ q e1;exact ⟨.not y w1,by rw [ag9];omega⟩
 split at e
 ·cases e
 ·rename_i x1 r1 e0;cases e;exact V8 hS hM h e0
theorem ahA {i:Nat} (h:i<m_.length):4≤(m_.getD i o0).op∧(m_.getD i o0).op≤14∧(m_.getD i o0).op≠12:=by
 have:∀ i,i<8→4≤(m_.getD i o0).op∧(m_.getD i o0).op≤14∧(m_.getD i o0).op≠12:=by decide
 exact this i h
theorem Le {T:List Tok} {ex:Rec} (hS:iP ex) (hM:RecM T ex) {form:Int}:∀ (f:Nat) (e0:Exp) (own:Int) (r0 r:List Tok) (x:Exp) (r':List Tok),PSt T r→Made r0 e0 r→kZ ex form f e0 own r=.ok (x,r')→Made r0 x r'
 | 0,e0,own,r0,r,x,r',hp,hm,h=>by cases h;exact hm
 | f+1,e0,own,r0,r,x,r',hp,hm,h=>by
  unfold kZ at h;split at h
  ·cases h;exact hm
  ·rename_i hn;dsimp only at h;split at h
   ·cases h;exact hm
   ·split at h
    ·cases h
    ·rename_i y r1 e1;obtain ⟨hlt,hop⟩:=H8 hn;have q:=hp.tail (bf hop);have htl:=hp.tl;obtain ⟨w1,l1⟩:=hM _ _ _ _ q e1;have l2:=hm.2;exact Le hS hM f _ _ r0 r1 _ _ (q.to (hS _ _ _ _ e1)) ⟨.pair _ _ _ (ahA hlt) hm.1 w1,by rw [ah5];omega⟩ h
theorem aaj {T:List Tok} {ex:Rec} (hS:iP ex) (hM:RecM T ex):RecM T (yH ex):=by
 intro form r x r' h e;unfold yH at e;split at e
 ·cases e
 ·rename_i y o r1 e1;exact Le hS hM _ _ _ r r1 _ _ (h.to (Gj hS e1).1) (Xa hS hM h e1) e
theorem H9 (T:List Tok):∀ n:Nat,RecM T (xX n)
 | 0=>fun form r x r' _ h=>by cases h
 | n+1=>aaj (xM n) (H9 T n)
def jd (s:List UInt8) (r:List Tok):Ps Exp :=
 match xX r.length 0 r with
 | .error e=>.error e
 | .ok (x,r1)=>if aV s r1=false then jm 12 r1 else if ((jP x:Nat):Int)≤12 then .ok (x,r1.tail) else jm 6 r1
def gK (s:List UInt8) (a b:Int) (r:List Tok):Ps Int :=
 match aT s r with
 | .error e=>.error e
 | .ok r1=>match iV a b r1 with
  | .error e=>.error e
  | .ok (n,r2)=>match aT [59] r2 with
   | .error e=>.error e
   | .ok r3=>.ok (n,r3)
def jI (s:List UInt8) (a n0:Int) (r:List Tok):Ps Int:=if aV s r=true then gK s 0 a r else .ok (n0,r)
theorem qM {T r:List Tok} (h:PSt T r) (e:Int):jo Tryz.prog 172 [.ptr 0 0,.bool true,.int .i64 e] [cu T r] 1 (fun vs bs es=>vs=[]∧bs=[cu T r]∧es=[]):=bG (rU h true e) rfl
theorem Ah {T r:List Tok} (h:PSt T r) (e:Int):wE Tryz.prog 172 [.ptr 0 0,.bool false,.int .i64 e] [cu T r] 1 (fun _ _ _=>False) (fun ch=>ch=dP ((bV r).pos,e)):=bK (rU h false e) rfl
theorem Sv {p:Prop}(h:p:=by
 exact CallG.stop rfl (aG (Ah hq 6) [0] rfl rfl rfl ab0) ((fun ch hc=>⟨_,hs,hc⟩))):p:=h
theorem aev {p:Prop}(h:p:=by
 exact CallG.stop rfl (aG (Ah hq 12) [0] rfl rfl rfl ab0) ((fun ch hc=>⟨_,hs,hc⟩))):p:=h
theorem Bg {T r:List Tok} (h:PSt T r) (s:List UInt8):RX 167 [.ptr 0 0,.str s] [cu T r] 1 (jd s r) (fun v=>[iJ v.1]) (fun v=>[cu T v.2]) (fun v=>[.cells 51 (cellsE v.1)]):=by
 refine xO (dV (fun ch=>∃ er,jd s r=.error er∧ch=dP er) 1 26 [0,1,4,5]) Tryz.func167 ?_;conv=>whnf
 rcases e1:xX r.length 0 r with e | ⟨x,r1⟩
 ·exact CallG.stop rfl (aG (bK (QI T r.length 0 r (by omega) (by omega) h (Nat.le_refl _)) e1) [0] rfl rfl rfl ab0) (fun ch hc=>⟨e,by simp only [jd,e1],hc⟩)
 refine cR (bG (QI T r.length 0 r aI aI h (Nat.le_refl _)) e1) [0] (cW ?_);have hq:=h.to (xM _ _ _ _ _ e1);obtain ⟨hw,hl⟩:=H9 T _ _ _ _ _ h e1;have hbig:=h.big;have hle:=h.le;have hi:=zZ hq s;have hv:=Zz hw (by omega);have hat:=hq.at
 have hqp:=hq.pos;have hqle:=hq.le;refine cO (fun _=>hi) (cW ?_);cases hb:aV s r1 with
 | false =>
  have hs:jd s r=.error ((bV r1).pos,12):=by simp only [jd,e1,hb,if_true,jm]
  exact aev
 | true =>
  refine cR ((qM hq 12)) [0] (cW ?_);refine cO (fun _=>hv) (cW ?_);cases h12:decide (((jP x:Nat):Int)≤12) with
  | false =>
   have hs:jd s r=.error ((bV r1).pos,6):=by simp only [jd,e1,hb,Bool.true_eq_false,if_false,if_neg (of_decide_eq_false h12),jm]
   exact Sv
  | true =>
   refine cR ((qM hq 6)) [0] (cW ?_);refine iO (cW ?_);rw [hat];refine ⟨⟨[(4,.ptr 1 0)],[(0,.cells 183 (dw T (r1.tail))),(1,.cells 51 (cellsE x))],2⟩,(aj [(0,.id 0),(1,.id 1)] rfl ⟨aQ,trivial⟩ ⟨aB,aB,trivial⟩),rfl,rfl,(cW ?_)⟩;exact ⟨rfl,(x,r1.tail),by simp only [jd,e1,hb,Bool.true_eq_false,if_false,if_pos (of_decide_eq_true h12)],rfl,rfl,rfl⟩
theorem oZ {T r:List Tok} (h:PSt T r) (s:List UInt8) (a b:Int):RX 160 [.ptr 0 0,.str s,.int .i64 a,.int .i64 b] [cu T r] 1 (gK s a b r) (fun v=>[.int .i64 v.1]) (fun v=>[cu T v.2]) (fun _=>[]):=by
 refine xO (dV (fun ch=>∃ er,gK s a b r=.error er∧ch=dP er) 1 22 [0,1,2,3,8,9]) Tryz.func160 ?_;conv=>whnf
 rcases e1:aT s r with e | r1
 ·exact CallG.stop rfl (aG (bK (bQ h s) e1) [0,1] rfl rfl rfl ab0) (fun ch hc=>⟨e,by simp only [gK,e1],hc⟩)
 refine cR (bG (bQ h s) e1) [0,1] (cW ?_);have q1:=h.to (aN e1);rcases e2:iV a b r1 with e | ⟨n,r2⟩
 ·exact CallG.stop rfl (aG (bK (sK q1 a b) e2) [0] rfl rfl rfl ab0) (fun ch hc=>⟨e,by simp only [gK,e1,e2],hc⟩)
 refine cR (bG (sK q1 a b) e2) [0] (cW ?_);have q2:=q1.to (iD e2).1;rcases e3:aT [59] r2 with e | r3
 ·exact CallG.stop rfl (aG (bK (bQ q2 [59]) e3) [0,2] rfl rfl rfl ab0) (fun ch hc=>⟨e,by simp only [gK,e1,e2,e3],hc⟩)
 refine cR (bG (bQ q2 [59]) e3) [0,2] (cW ?_);refine ⟨⟨[(8,.int .i64 n)],[(0,.cells 183 (dw T r3))],1⟩,(aj [(0,.id 0)] rfl ⟨ah,trivial⟩ ⟨aB,trivial⟩),rfl,rfl,(cW ?_)⟩;exact ⟨rfl,(n,r3),by simp only [gK,e1,e2,e3],rfl,rfl,rfl⟩
theorem AZ {T r:List Tok} (h:PSt T r) (s:List UInt8) (a n0:Int):RX 170 [.ptr 0 0,.str s,.int .i64 a,.int .i64 n0] [cu T r] 1 (jI s a n0 r) (fun v=>[.int .i64 v.1]) (fun v=>[cu T v.2]) (fun _=>[]):=by
 have hi:=zZ h s;cases hb:aV s r with
 | false =>
  rw [hb] at hi;refine xO (dV (fun ch=>∃ er,jI s a n0 r=.error er∧ch=dP er) 1 18 [0,1,2,3,8,12]) Tryz.func170 ?_;conv=>whnf
  refine cO (fun _=>hi) (cW ?_);refine gT (cW ?_);refine ⟨_,Wk.refl _,rfl,rfl,(cW ?_)⟩;exact ⟨rfl,(n0,r),by simp only [jI,hb,Bool.false_eq_true,if_false],rfl,rfl,rfl⟩
 | true =>
  rw [hb] at hi;refine xO (dV (fun ch=>∃ er,jI s a n0 r=.error er∧ch=dP er) 1 18 [0,1,2,3,8,12]) Tryz.func170 ?_;conv=>whnf
  refine cO (fun _=>hi) (cW ?_);refine gF (cW ?_);rcases e1:gK s 0 a r with e | ⟨n,r1⟩
  ·exact CallG.stop rfl (aG (bK (oZ h s 0 a) e1) [0] rfl rfl rfl ab0) (fun ch hc=>⟨e,by simp only [jI,hb,if_true,e1],hc⟩)
  refine cR (bG (oZ h s 0 a) e1) [0] (cW ?_);refine ⟨_,Wk.refl _,rfl,rfl,(cW ?_)⟩;exact ⟨rfl,(n,r1),by simp only [jI,hb,if_true,e1],rfl,rfl,rfl⟩
def iQ (least:Int) (r:List Tok):Ps Int :=
 match iV 0 1000000000000000 r with
 | .error e=>.error e
 | .ok (y,r1)=>match aT [45] r1 with
  | .error e=>.error e
  | .ok r2=>match iV 0 1000000000000000 r2 with
   | .error e=>.error e
   | .ok (m,r3)=>match aT [45] r3 with
    | .error e=>.error e
    | .ok r4=>if (bV r4).kind≠1 then jm 12 r4
     else if (dayOf y m (bV r4).n).2≠0 then jm 23 r4
     else if least<(dayOf y m (bV r4).n).1 then .ok ((dayOf y m (bV r4).n).1,r4.tail)
     else jm 3 r4
theorem D7 {T r:List Tok} (h:PSt T r) (least:Int):RX 161 [.ptr 0 0,.int .i64 least] [cu T r] 1 (iQ least r) (fun v=>[.int .i64 v.1]) (fun v=>[cu T v.2]) (fun _=>[]):=by
 refine xO (dV (fun ch=>∃ er,iQ least r=.error er∧ch=dP er) 1 52 [0,1,4,5,6,7,8,9]) Tryz.func161 ?_;conv=>whnf
 rcases e1:iV 0 1000000000000000 r with e | ⟨y,r1⟩
 ·exact CallG.stop rfl (aG (bK (sK h 0 1000000000000000) e1) [0] rfl rfl rfl ab0) (fun ch hc=>⟨e,by simp only [iQ,e1],hc⟩)
 refine cR (bG (sK h 0 1000000000000000) e1) [0] (cW ?_);have q1:=h.to (iD e1).1;obtain ⟨_,y0,y1⟩:=VP h e1;rcases e2:aT [45] r1 with e | r2
 ·exact CallG.stop rfl (aG (bK (bQ q1 [45]) e2) [0,1] rfl rfl rfl ab0) (fun ch hc=>⟨e,by simp only [iQ,e1,e2],hc⟩)
 refine cR (bG (bQ q1 [45]) e2) [0,1] (cW ?_);have q2:=q1.to (aN e2);rcases e3:iV 0 1000000000000000 r2 with e | ⟨m,r3⟩
 ·exact CallG.stop rfl (aG (bK (sK q2 0 1000000000000000) e3) [0] rfl rfl rfl ab0) (fun ch hc=>⟨e,by simp only [iQ,e1,e2,e3],hc⟩)
 refine cR (bG (sK q2 0 1000000000000000) e3) [0] (cW ?_);have q3:=q2.to (iD e3).1;rcases e4:aT [45] r3 with e | r4
 ·exact CallG.stop rfl (aG (bK (bQ q3 [45]) e4) [0,2] rfl rfl rfl ab0) (fun ch hc=>⟨e,by simp only [iQ,e1,e2,e3,e4],hc⟩)
 refine cR (bG (bQ q3 [45]) e4) [0,2] (cW ?_);have q4:=q3.to (aN e4);have hx:=jh q4;obtain ⟨_,n0,n1⟩:=q4.txt _ q4.hd;have hd:=abu y m (bV r4).n y0 y1 (by omega);have hat:=q4.at
 have hqp:=q4.pos;have hqle:=q4.le;have hbig:=h.big;refine cO (fun _=>hx) (cW ?_);cases hk:decide ((bV r4).kind=1) with
 | false =>
  have hs:iQ least r=.error ((bV r4).pos,12):=by simp only [iQ,e1,e2,e3,e4,jm,ne_eq,of_decide_eq_false hk,not_false_eq_true,if_true]
  exact CallG.stop rfl (aG (Ah q4 12) [0] rfl rfl rfl ab0) ((fun ch hc=>⟨_,hs,hc⟩))
 | true =>
  have hk':=of_decide_eq_true hk;refine cR ((qM q4 12)) [0] (cW ?_);unfold NY at hd;refine cO (fun _=>hd) (cW ?_);cases h0:decide ((dayOf y m (bV r4).n).2=0) with
  | false =>
   have hs:iQ least r=.error ((bV r4).pos,23):=by simp only [iQ,e1,e2,e3,e4,jm,ne_eq,hk',not_true_eq_false,if_false,of_decide_eq_false h0,not_false_eq_true,if_true]
   exact CallG.stop rfl (aG (Ah q4 23) [0] rfl rfl rfl ab0) ((fun ch hc=>⟨_,hs,hc⟩))
  | true =>
   have h0':=of_decide_eq_true h0;refine cR ((qM q4 23)) [0] (cW ?_);cases hl:decide (least<(dayOf y m (bV r4).n).1) with
   | false =>
    have hs:iQ least r=.error ((bV r4).pos,3):=by simp only [iQ,e1,e2,e3,e4,jm,ne_eq,hk',not_true_eq_false,if_false,h0',of_decide_eq_false hl]
    exact CallG.stop rfl (aG (Ah q4 3) [0] rfl rfl rfl ab0) ((fun ch hc=>⟨_,hs,hc⟩))
   | true =>
    have hs:iQ least r=.ok ((dayOf y m (bV r4).n).1,r4.tail):=by simp only [iQ,e1,e2,e3,e4,jm,ne_eq,hk',not_true_eq_false,if_false,h0',of_decide_eq_true hl,if_true]
    refine cR ((qM q4 3)) [0] (cW ?_);refine iO (cW ?_);rw [hat];refine ⟨⟨[(4,.int .i64 ((dayOf y m (bV r4).n).1))],[(0,.cells 183 (dw T (r4.tail)))],1⟩,(aj [(0,.id 0)] rfl ⟨ah,trivial⟩ ⟨aB,trivial⟩),rfl,rfl,(cW ?_)⟩;exact ⟨rfl,((dayOf y m (bV r4).n).1,r4.tail),hs,rfl,rfl,rfl⟩
def qU (s:List UInt8) (ws:List (List UInt8)) (r:List Tok):Ps Int :=
 match aT s r with
 | .error e=>.error e
 | .ok r1=>if dN (fun w=>aV w r1) ws<0 then jm 12 r1
  else match aT [59] r1.tail with
   | .error e=>.error e
   | .ok r2=>.ok (dN (fun w=>aV w r1) ws,r2)
theorem ain {T r:List Tok} (h:PSt T r) (ws:List (List UInt8)) (hl:ws.length≤1000):jo Tryz.prog 199 [.sl 1 encS [] ws,.fn (.func 196) [.ptr 0 0] []] [cu T r] 1
  (fun vs bs es=>vs=[.int .i64 (dN (fun w=>aV w r) ws)]∧bs=[cu T (if dN (fun w=>aV w r) ws<0 then r else r.tail)]∧es=[]):=by
 refine rO (aJ 1 19 [0,1,4,5,7,8,9,16]) Tryz.func199 ?_;conv=>whnf
 refine dO (aJ _ _ _) (fun k:Nat=>k≤ws.length∧∀ j,j<k→aV (ws.getD j []) r=false) (fun k=>ws.length-k) (fun k=>⟨[(0,.sl 1 encS [] ws),(1,.fn (.func 196) [.ptr 0 0] []),(7,.int .i64 (ws.length:Nat)),(8,.int .i64 (k:Nat))],[(0,.cells 183 (dw T r))],1⟩) 0 ⟨by show 0≤_;omega,fun j hj=>by omega⟩ ((aj [(0,.id 0)] rfl ⟨ah,.fn _ _ _ _ _ (.cons (.ptr _ _ _ rfl) .nil) .nil,ah,ah,trivial⟩ ⟨aB,trivial⟩)) ?_;intro k ⟨hk,hP⟩;have hk:k≤ws.length:=hk;conv=>whnf
 refine ⟨fun hd=>?_,fun hd=>?_⟩
 ·have hd:=of_decide_eq_true hd;have hlt:k<ws.length:=by omega
  have hek:(k:Int).toNat=k:=Int.toNat_natCast k;conv=>whnf
  refine iO (cW ?_);refine And.intro rfl (cW ?_);rw [hek];cases hb:aV (ws.getD k []) r with
  | true =>
   have hi:dN (fun w=>aV w r) ws=k:=AA (d:=[]) hlt hP hb;rw [hi];refine cR ((qW h hb)) [0] (cW ?_);refine gT (cW ?_);refine ⟨⟨[(4,.int .i64 (k:Nat))],[(0,.cells 183 (dw T r.tail))],1⟩,(aj [(0,.id 0)] rfl ⟨ah,trivial⟩ ⟨aB,trivial⟩),rfl,rfl,(cW ?_)⟩;exact ⟨rfl,rfl,(by rw [if_neg (by omega)];rfl),rfl⟩
  | false =>
   refine cR ((dA h hb)) [0] (cW ?_);refine gF (cW ?_);refine iO (cW ?_);exact ⟨k+1,⟨hlt,fun j hj=>(by
    by_cases e:j=k
    ·rw [e];exact hb
    ·exact hP j (by omega))⟩,acG,(aj [(0,.id 0)] rfl ⟨ah,.fn _ _ _ _ _ (.cons (.ptr _ _ _ rfl) .nil) .nil,ah,ah,trivial⟩ ⟨aB,trivial⟩)⟩
 ·have hd:=of_decide_eq_false hd;have hke:k=ws.length:=by omega
  have hi:dN (fun w=>aV w r) ws=-1:=zG (d:=[]) (fun j hj=>hP j (by omega));rw [hi];conv=>whnf
  refine ⟨⟨[(4,.int .i64 (-1))],[(0,.cells 183 (dw T r))],1⟩,(aj [(0,.id 0)] rfl ⟨ah,trivial⟩ ⟨aB,trivial⟩),rfl,rfl,(cW ?_)⟩;exact ⟨rfl,rfl,(by rw [if_pos (by omega)];rfl),rfl⟩
theorem Qd {T r:List Tok} (h:PSt T r) (s:List UInt8) (ws:List (List UInt8)) (hl:ws.length≤1000):RX 163 [.ptr 0 0,.str s,.sl 1 encS [] ws] [cu T r] 1 (qU s ws r) (fun v=>[.int .i64 v.1]) (fun v=>[cu T v.2]) (fun _=>[]):=by
 refine xO (dV (fun ch=>∃ er,qU s ws r=.error er∧ch=dP er) 1 24 [0,1,2,6,7]) Tryz.func163 ?_;conv=>whnf
 rcases e1:aT s r with e | r1
 ·exact CallG.stop rfl (aG (bK (bQ h s) e1) [0,1] rfl rfl rfl ab0) (fun ch hc=>⟨e,by simp only [qU,e1],hc⟩)
 refine cR (bG (bQ h s) e1) [0,1] (cW ?_);have q1:=h.to (aN e1);have hh:=ain q1 ws hl;have hge:=NS (fun w=>aV w r1) ws;cases hi:decide (0≤dN (fun w=>aV w r1) ws) with
 | false =>
  have hi':=of_decide_eq_false hi;rw [if_pos (by omega)] at hh;have hs:qU s ws r=.error ((bV r1).pos,12):=by simp only [qU,e1,jm];rw [if_pos (by omega)]
  refine cR (hh) [0] (cW ?_);rw [hi];exact CallG.stop rfl (aG (Ah q1 12) [0] rfl rfl rfl ab0) ((fun ch hc=>⟨_,hs,hc⟩))
 | true =>
  have hi':=of_decide_eq_true hi;rw [if_neg (by omega)] at hh;have hlt:=DV (fun w=>aV w r1) [] ws;have hb:aV (ws.getD (dN (fun w=>aV w r1) ws).toNat []) r1=true:=by
   rcases hlt with hlt | hlt
   ·omega
   ·exact hlt.2
  have q2:=q1.tail (bf hb);have hs:qU s ws r=match aT [59] r1.tail with
   | .error e=>.error e
   | .ok r2=>.ok (dN (fun w=>aV w r1) ws,r2):=by simp only [qU,e1];rw [if_neg (by omega)]
  refine cR (hh) [0] (cW ?_);rw [hi];refine cR ((qM q2 12)) [0] (cW ?_);rcases e2:aT [59] r1.tail with e | r2
  ·exact CallG.stop rfl (aG (bK (bQ q2 [59]) e2) [0,2] rfl rfl rfl ab0) (fun ch hc=>⟨e,by simp only [hs,e2],hc⟩)
  refine cR (bG (bQ q2 [59]) e2) [0,2] (cW ?_);refine ⟨⟨[(6,.int .i64 (dN (fun w=>aV w r1) ws))],[(0,.cells 183 (dw T r2))],1⟩,(aj [(0,.id 0)] rfl ⟨ah,trivial⟩ ⟨aB,trivial⟩),rfl,rfl,(cW ?_)⟩;exact ⟨rfl,(dN (fun w=>aV w r1) ws,r2),by simp only [hs,e2],rfl,rfl,rfl⟩
def gI (names:List (List UInt8)) (r:List Tok):Ps (List UInt8) :=
 if mD r=false then jm 12 r else if (bV r).text∈names then jm 5 r else .ok ((bV r).text,r.tail)
theorem Ba {T r:List Tok} (h:PSt T r) (names:List (List UInt8)) (hl:names.length≤1000):RX 201 [.ptr 0 0,.own 1] [cu T r,.row 9 1 encS [] names] 2 (gI names r) (fun v=>[.str v.1]) (fun v=>[cu T v.2,.row 9 1 encS [] names]) (fun _=>[]):=by
 have hn:=named_ok h;have hx:=jh h;have hc:=Js names (bV r).text (by omega);cases hb:mD r with
 | false =>
  rw [hb] at hn;have hs:gI names r=.error ((bV r).pos,12):=by simp only [gI,hb,if_true,jm]
  refine xO (dV (fun ch=>∃ er,gI names r=.error er∧ch=dP er) 2 19 [0,1,4]) Tryz.func201 ?_;conv=>whnf
  refine cO (fun _=>hn) (cW ?_);exact CallG.stop rfl (aG (Ah h 12) [0] rfl rfl rfl ab0) ((fun ch hc=>⟨_,hs,hc⟩))
 | true =>
  have hnm:nameP r=.ok ((bV r).text,r.tail):=by simp only [nameP,hb,if_true]
  rw [hb] at hn;cases hm:decide ((bV r).text∈names) with
  | true =>
   rw [hm] at hc;have hs:gI names r=.error ((bV r).pos,5):=by simp only [gI,hb,Bool.true_eq_false,if_false,of_decide_eq_true hm,if_true,jm]
   refine xO (dV (fun ch=>∃ er,gI names r=.error er∧ch=dP er) 2 19 [0,1,4]) Tryz.func201 ?_;conv=>whnf
   refine cO (fun _=>hn) (cW ?_);refine cR ((qM h 12)) [0] (cW ?_);refine cO (fun _=>hx) (cW ?_);refine cO (fun _=>hc) (cW ?_);exact CallG.stop rfl (aG (Ah h 5) [0] rfl rfl rfl ab0) ((fun ch hc=>⟨_,hs,hc⟩))
  | false =>
   rw [hm] at hc;have hs:gI names r=.ok ((bV r).text,r.tail):=by simp only [gI,hb,Bool.true_eq_false,if_false,of_decide_eq_false hm]
   refine xO (dV (fun ch=>∃ er,gI names r=.error er∧ch=dP er) 2 19 [0,1,4]) Tryz.func201 ?_;conv=>whnf
   refine cO (fun _=>hn) (cW ?_);refine cR ((qM h 12)) [0] (cW ?_);refine cO (fun _=>hx) (cW ?_);refine cO (fun _=>hc) (cW ?_);refine cR ((qM h 5)) [0] (cW ?_);refine cR ((bG (vF h) hnm)) [0] (cW ?_);refine ⟨_,Wk.refl _,rfl,rfl,(cW ?_)⟩;exact ⟨rfl,((bV r).text,r.tail),hs,rfl,rfl,rfl⟩
abbrev tZ (x:Ind) (ca l cv fv cl:AV):List AV:=[.str x.name,.str x.issuer,.int .i64 x.face,.int .i64 x.frm,.int .i64 x.to,.int .i64 x.every,.int .i64 x.count,.int .i64 x.adjust,.int .i64 x.record,.int .i64 x.rank,
 l,.int .i64 x.coupon.op,.int .i64 x.coupon.n,.int .i64 x.coupon.unit,.str x.coupon.s,ca,.int .i64 x.cap,cv,fv,.int .i64 x.cross,cl,.int .i64 x.notice,.int .i64 x.sink,.int .i64 x.majority,.int .i64 x.fast]
def mV:Nat→List LetE→List Tok→Ps (List LetE)
 | 0,ls,r=>.ok (ls,r)
 | f+1,ls,r =>
  if aV [108,101,116] r=false then .ok (ls,r)
  else if ¬ (ls.length:Int)<20 then jm 6 r
  else match gI (ls.map LetE.name) r.tail with
   | .error e=>.error e
   | .ok (s,r1)=>match aT [61] r1 with
    | .error e=>.error e
    | .ok r2=>match jd [59] r2 with
     | .error e=>.error e
     | .ok (x,r3)=>mV f (ls++[⟨s,x⟩]) r3
theorem kM {names:List (List UInt8)} {r r':List Tok} {s:List UInt8} (h:gI names r=.ok (s,r')):iw r r':=by
 unfold gI at h;split at h
 ·cases h
 ·rename_i hb;split at h
  ·cases h
  ·exact wQ (s:=s) (by unfold nameP;rw [if_pos Gs];exact h)
theorem lV {s:List UInt8} {r r':List Tok} {x:Exp} (h:jd s r=.ok (x,r')):iw r r':=by
 unfold jd at h;split at h
 ·cases h
 ·rename_i y r1 e1;split at h
  ·cases h
  ·rename_i hb;split at h
   ·cases h;exact (xM _ _ _ _ _ e1).trans (.tail (bf Gs))
   ·cases h
theorem XB {p:Prop}(h:p:=by
 rw [Int.toNat_natCast,List.getD_eq_getElem?_getD,List.getElem?_append_right (by omega),hnl,Nat.sub_self];rfl):p:=h
theorem VZ {p:Prop}(h:p:=by
 conv=>whnf
 exact ⟨rfl,(ls,q),hs,rfl,rfl,rfl⟩):p:=h
theorem XQ {p:Prop} (h:p:=by rw [List.map_append];rfl):p:=h
theorem Xz {p:Prop} (h:p:=by first | exact .row _ _ _ _ _ _ _ rfl XQ | exact .lstrow _ _ _ _ _ _ _ rfl XQ | exact .nilrow _ _ _ _ _ XQ | exact .truncrow _ _ _ _ _ _ _ _ rfl (by omega) XQ):p:=h
theorem JG {p:Prop} (h:p:=by show (ls++[_]).length≤20;rw [List.length_append];show ls.length+1≤20;omega):p:=h
theorem ahQ {p:Prop} (h:p:=by show ((List.map LetE.name ls).length+1)*16≤140737488355328;rw [hnl];omega):p:=h
theorem YA {T r:List Tok} (h:PSt T r) (x:Ind):RX 166 [.ptr 0 0,.ptr 1 0] [cu T r,.cells 56 (tZ x .nils .nils .nils .nils .nils)] 2 (mV r.length [] r) (fun _=>[]) (fun v=>[cu T v.2,.cells 56 (tZ x .nils (.sl 6 mY l0 v.1) .nils .nils .nils)]) (fun _=>[]):=by
 refine xO (dV (fun ch=>∃ er,mV r.length [] r=.error er∧ch=dP er) 2 46 [0,1,4,6]) Tryz.func166 ?_;conv=>whnf
 refine dO (dV _ _ _ _) (fun s:Nat×(List LetE×List Tok)=>PSt T s.2.2∧s.2.2.length≤s.1∧s.2.1.length≤20∧mV r.length [] r=mV s.1 s.2.1 s.2.2) (fun s=>s.1) (fun s=>⟨[(0,.ptr 0 0),(1,.ptr 1 0),(4,.own 2)],[(0,.cells 183 (dw T (s.2.2))),(1,.cells 56 (tZ x .nils (.own 3) .nils .nils .nils)),(2,.row 9 1 encS [] ((s.2.1).map LetE.name)),(3,.row 223 6 mY l0 (s.2.1))],4⟩) (r.length,([],r)) ⟨h,Nat.le_refl _,by simp,rfl⟩ ((aj [(0,.id 0),(1,.id 1),(2,.nil),(3,.nil)] rfl ⟨aQ,aQ,kX,trivial⟩ ⟨aB,aB,⟨_,rfl,jA⟩,⟨_,rfl,jA⟩,trivial⟩)) ?_;rintro ⟨f,ls,q⟩ ⟨hq,hqf,hls,hsp⟩;dsimp only at hq hqf hls hsp ⊢;obtain ⟨f,rfl⟩:∃ g,f=g+1:=⟨f-1,by have:=hq.pos;omega⟩;have hi:=zZ hq [108,101,116];cases hb:aV [108,101,116] q with
 | false =>
  rw [hb] at hi;conv=>whnf
  refine cO (fun _=>hi) (cW ?_);refine gF (cW ?_);have hs:mV r.length [] r=.ok (ls,q):=by rw [hsp,mV,if_pos hb]
  refine ⟨⟨[(0,.ptr 0 0)],[(0,.cells 183 (dw T q)),(1,.cells 56 (tZ x .nils (.sl 6 mY l0 ls) .nils .nils .nils))],2⟩,(dY [3]).trans (aj [(0,.id 0),(1,.id 1)] rfl ⟨aQ,trivial⟩ ⟨aB,aB,trivial⟩),rfl,rfl,?_⟩;exact VZ
 | true =>
  rw [hb] at hi;have q1:=hq.tail (bf hb);have hat:=hq.at
  have hqp:=hq.pos;have hqle:=hq.le;have hbig:=hq.big;have hnl:(ls.map LetE.name).length=ls.length:=List.length_map ..;conv=>whnf
  refine cO (fun _=>hi) (cW ?_);refine gT (cW ?_);cases h20:decide ((ls.length:Int)<20) with
  | false =>
   have hs:mV r.length [] r=.error ((bV q).pos,6):=by rw [hsp,mV,if_neg (by simp [hb]),if_pos (of_decide_eq_false h20)];rfl
   rw [hnl,h20];exact Sv
  | true =>
   have h20':=of_decide_eq_true h20;have hs:mV r.length [] r=match gI (ls.map LetE.name) q.tail with
    | .error e=>.error e
    | .ok (s,r1)=>match aT [61] r1 with
     | .error e=>.error e
     | .ok r2=>match jd [59] r2 with
      | .error e=>.error e
      | .ok (x,r3)=>mV f (ls++[⟨s,x⟩]) r3:=by rw [hsp,mV,if_neg (by simp [hb]),if_neg (by omega)]
   rw [hnl,h20];refine cR ((qM hq 6)) [0] (cW ?_);refine iO (cW ?_);rw [hat];conv=>whnf
   rcases e1:gI (ls.map LetE.name) q.tail with e | ⟨s,r1⟩
   ·exact CallG.stop rfl (aG (bK (Ba q1 (ls.map LetE.name) (by omega)) e1) [0,2] rfl rfl rfl ab0) (fun ch hc=>⟨e,by simp only [hs,e1],hc⟩)
   refine cR (bG (Ba q1 (ls.map LetE.name) aI) e1) [0,2] (cW ?_);refine And.intro rfl (cW ?_);refine And.intro ⟨rfl,rfl⟩ (And.intro ahQ (cW ?_));refine Exists.intro s (And.intro rfl (cW ?_));have q2:=q1.to (kM e1);rcases e2:aT [61] r1 with e | r2
   ·exact CallG.stop rfl (aG (bK (bQ q2 [61]) e2) [0,6] rfl rfl rfl ab0) (fun ch hc=>⟨e,by simp only [hs,e1,e2],hc⟩)
   refine cR (bG (bQ q2 [61]) e2) [0,6] (cW ?_);have q3:=q2.to (aN e2);have hnl2:((List.map LetE.name ls++[s]).length:Int)=ls.length+1:=by rw [List.length_append,hnl];rfl
   have hgs:(List.map LetE.name ls++[s]).getD ((ls.length:Nat):Int).toNat []=s:=by
    exact XB
   have hlt2:((ls.length:Nat):Int).toNat<(List.map LetE.name ls++[s]).length:=by rw [Int.toNat_natCast,List.length_append,hnl];exact Nat.lt_succ_self _
   have hm1:((ls.length:Nat):Int)+1-1=(ls.length:Nat):=by omega
   rcases e3:jd [59] r2 with e | ⟨y,r3⟩
   ·refine DrawG.effp ad0 12 (cW ?_);rw [hnl2];refine iO (cW ?_);rw [hm1];refine iO (cW ?_);rw [hgs];refine And.intro hlt2 (And.intro rfl (cW ?_));exact .mk [0] _ (aG ((bK (Bg q3 [59]) e3)) [0] rfl rfl rfl ab0) ((fun ch hc=>⟨e,by simp only [hs,e1,e2,e3],hc⟩)) ⟨by kernel_rfl,by kernel_rfl⟩
   refine .eff ad0 (cW ?_);rw [hnl2];refine iO (cW ?_);rw [hm1];refine iO (cW ?_);rw [hgs];refine And.intro hlt2 (And.intro rfl (cW ?_));refine cR ((bG (Bg q3 [59]) e3)) [0] (cW ?_);refine And.intro rfl (cW ?_);refine And.intro ⟨rfl,rfl⟩ (And.intro (by show (ls.length+1)*80≤140737488355328;omega) (cW ?_));refine Exists.intro ⟨s,y⟩ (And.intro rfl (cW ?_));refine ⟨by kernel_rfl,(cW (cW ?_))⟩;have q4:=q3.to (lV e3);have hl4:r3.length≤f:=by
    have a:=((iw.refl _).trans (kM e1)).le;have b:=(aN e2).le;have c:=(lV e3).le;have d:=hq.tl;omega
   exact ⟨(f,(ls++[⟨s,y⟩],r3)),⟨q4,hl4,JG,(by simp only [hs,e1,e2,e3])⟩,Nat.lt_succ_self f,(aj [(0,.id 0),(1,.id 1),(2,.id 5),(3,.id 9)] rfl ⟨aQ,aQ,kX,trivial⟩ ⟨aB,aB,⟨_,rfl,Xz⟩,⟨_,rfl,jA⟩,trivial⟩)⟩
def mQ:Nat→List Cov→List Tok→Ps (List Cov)
 | 0,ls,r=>.ok (ls,r)
 | f+1,ls,r =>
  if aV [99,111,118,101,110,97,110,116] r=false then .ok (ls,r)
  else if ¬ (ls.length:Int)<20 then jm 6 r
  else match gI (ls.map Cov.name) r.tail with
   | .error e=>.error e
   | .ok (s,r1)=>match aT [109,117,115,116] r1 with
    | .error e=>.error e
    | .ok r2=>match jd [103,114,97,99,101] r2 with
     | .error e=>.error e
     | .ok (x,r3)=>match iV 0 1000 r3 with
      | .error e=>.error e
      | .ok (n,r4)=>match aT [59] r4 with
       | .error e=>.error e
       | .ok r5=>mQ f (ls++[⟨s,x,n⟩]) r5
theorem aia {p:Prop} (h:p:=by show ((List.map Cov.name ls).length+1)*16≤140737488355328;rw [hnl];omega):p:=h
theorem Zp {T r:List Tok} (h:PSt T r) (x:Ind):RX 168 [.ptr 0 0,.ptr 1 0] [cu T r,.cells 56 (tZ x (.lsl 5 (jO x.coupon)) (.sl 6 mY l0 x.lets) .nils .nils .nils)] 2 (mQ r.length [] r) (fun _=>[]) (fun v=>[cu T v.2,.cells 56 (tZ x (.lsl 5 (jO x.coupon)) (.sl 6 mY l0 x.lets) (.sl 7 pJ c0 v.1) .nils .nils)]) (fun _=>[]):=by
 refine xO (dV (fun ch=>∃ er,mQ r.length [] r=.error er∧ch=dP er) 2 54 [0,1,4,5,7]) Tryz.func168 ?_;conv=>whnf
 refine dO (dV _ _ _ _) (fun s:Nat×(List Cov×List Tok)=>PSt T s.2.2∧s.2.2.length≤s.1∧s.2.1.length≤20∧mQ r.length [] r=mQ s.1 s.2.1 s.2.2) (fun s=>s.1) (fun s=>⟨[(0,.ptr 0 0),(1,.ptr 1 0),(4,.own 2)],[(0,.cells 183 (dw T (s.2.2))),(1,.cells 56 (tZ x (.lsl 5 (jO x.coupon)) (.sl 6 mY l0 x.lets) (.own 3) .nils .nils)),(2,.row 9 1 encS [] ((s.2.1).map Cov.name)),(3,.row 227 7 pJ c0 (s.2.1))],4⟩) (r.length,([],r)) ⟨h,Nat.le_refl _,by simp,rfl⟩ ((aj [(0,.id 0),(1,.id 1),(2,.nil),(3,.nil)] rfl ⟨aQ,aQ,kX,trivial⟩ ⟨aB,aB,⟨_,rfl,jA⟩,⟨_,rfl,jA⟩,trivial⟩)) ?_;rintro ⟨f,ls,q⟩ ⟨hq,hqf,hls,hsp⟩;dsimp only at hq hqf hls hsp ⊢;obtain ⟨f,rfl⟩:∃ g,f=g+1:=⟨f-1,by have:=hq.pos;omega⟩;have hi:=zZ hq [99,111,118,101,110,97,110,116];cases hb:aV [99,111,118,101,110,97,110,116] q with
 | false =>
  rw [hb] at hi;conv=>whnf
  refine cO (fun _=>hi) (cW ?_);refine gF (cW ?_);have hs:mQ r.length [] r=.ok (ls,q):=by rw [hsp,mQ,if_pos hb]
  refine ⟨⟨[(0,.ptr 0 0)],[(0,.cells 183 (dw T q)),(1,.cells 56 (tZ x (.lsl 5 (jO x.coupon)) (.sl 6 mY l0 x.lets) (.sl 7 pJ c0 ls) .nils .nils))],2⟩,(dY [3]).trans (aj [(0,.id 0),(1,.id 1)] rfl ⟨aQ,trivial⟩ ⟨aB,aB,trivial⟩),rfl,rfl,?_⟩;exact VZ
 | true =>
  rw [hb] at hi;have q1:=hq.tail (bf hb);have hat:=hq.at
  have hqp:=hq.pos;have hqle:=hq.le;have hbig:=hq.big;have hnl:(ls.map Cov.name).length=ls.length:=List.length_map ..;conv=>whnf
  refine cO (fun _=>hi) (cW ?_);refine gT (cW ?_);cases h20:decide ((ls.length:Int)<20) with
  | false =>
   have hs:mQ r.length [] r=.error ((bV q).pos,6):=by rw [hsp,mQ,if_neg (by simp [hb]),if_pos (of_decide_eq_false h20)];rfl
   rw [hnl,h20];exact Sv
  | true =>
   have h20':=of_decide_eq_true h20;have hs:mQ r.length [] r=match gI (ls.map Cov.name) q.tail with
    | .error e=>.error e
    | .ok (s,r1)=>match aT [109,117,115,116] r1 with
     | .error e=>.error e
     | .ok r2=>match jd [103,114,97,99,101] r2 with
      | .error e=>.error e
      | .ok (x,r3)=>match iV 0 1000 r3 with
       | .error e=>.error e
       | .ok (n,r4)=>match aT [59] r4 with
        | .error e=>.error e
        | .ok r5=>mQ f (ls++[⟨s,x,n⟩]) r5:=by rw [hsp,mQ,if_neg (by simp [hb]),if_neg (by omega)]
   rw [hnl,h20];refine cR ((qM hq 6)) [0] (cW ?_);refine iO (cW ?_);rw [hat];conv=>whnf
   rcases e1:gI (ls.map Cov.name) q.tail with e | ⟨s,r1⟩
   ·exact CallG.stop rfl (aG (bK (Ba q1 (ls.map Cov.name) (by omega)) e1) [0,2] rfl rfl rfl ab0) (fun ch hc=>⟨e,by simp only [hs,e1],hc⟩)
   refine cR (bG (Ba q1 (ls.map Cov.name) aI) e1) [0,2] (cW ?_);refine And.intro rfl (cW ?_);refine And.intro ⟨rfl,rfl⟩ (And.intro aia (cW ?_));refine Exists.intro s (And.intro rfl (cW ?_));have q2:=q1.to (kM e1);rcases e2:aT [109,117,115,116] r1 with e | r2
   ·exact CallG.stop rfl (aG (bK (bQ q2 [109,117,115,116]) e2) [0,6] rfl rfl rfl ab0) (fun ch hc=>⟨e,by simp only [hs,e1,e2],hc⟩)
   refine cR (bG (bQ q2 [109,117,115,116]) e2) [0,6] (cW ?_);have q3:=q2.to (aN e2);have hnl2:((List.map Cov.name ls++[s]).length:Int)=ls.length+1:=by rw [List.length_append,hnl];rfl
   have hgs:(List.map Cov.name ls++[s]).getD ((ls.length:Nat):Int).toNat []=s:=by
    exact XB
   have hlt2:((ls.length:Nat):Int).toNat<(List.map Cov.name ls++[s]).length:=by rw [Int.toNat_natCast,List.length_append,hnl];exact Nat.lt_succ_self _
   have hm1:((ls.length:Nat):Int)+1-1=(ls.length:Nat):=by omega
   rcases e3:jd [103,114,97,99,101] r2 with e | ⟨y,r3⟩
   ·refine DrawG.effp ad0 7 (cW ?_);rw [hnl2];refine iO (cW ?_);rw [hm1];refine iO (cW ?_);rw [hgs];refine And.intro hlt2 (And.intro rfl (cW ?_));exact .mk [0] _ (aG ((bK (Bg q3 [103,114,97,99,101]) e3)) [0] rfl rfl rfl ab0) ((fun ch hc=>⟨e,by simp only [hs,e1,e2,e3],hc⟩)) ⟨by kernel_rfl,by kernel_rfl⟩
   refine .eff ad0 (cW ?_);rw [hnl2];refine iO (cW ?_);rw [hm1];refine iO (cW ?_);rw [hgs];refine And.intro hlt2 (And.intro rfl (cW ?_));refine cR ((bG (Bg q3 [103,114,97,99,101]) e3)) [0] (cW ?_);refine ⟨by kernel_rfl,(cW (cW ?_))⟩;have q4:=q3.to (lV e3);rcases e4:iV 0 1000 r3 with e | ⟨n,r4⟩
   ·exact CallG.stop rfl (aG (bK (sK q4 0 1000) e4) [0] rfl rfl rfl ab0) (fun ch hc=>⟨e,by simp only [hs,e1,e2,e3,e4],hc⟩)
   refine cR (bG (sK q4 0 1000) e4) [0] (cW ?_);have q5:=q4.to (iD e4).1;rcases e5:aT [59] r4 with e | r5
   ·exact CallG.stop rfl (aG (bK (bQ q5 [59]) e5) [0,9] rfl rfl rfl ab0) (fun ch hc=>⟨e,by simp only [hs,e1,e2,e3,e4,e5],hc⟩)
   refine cR (bG (bQ q5 [59]) e5) [0,9] (cW ?_);have q6:=q5.to (aN e5);refine .eff ad0 (cW ?_);refine And.intro rfl (cW ?_);refine And.intro ⟨rfl,rfl⟩ (And.intro (by show (ls.length+1)*88≤140737488355328;omega) (cW ?_));refine Exists.intro ⟨s,y,n⟩ (And.intro rfl (cW ?_));refine ⟨by kernel_rfl,(cW (cW ?_))⟩;have hl4:r5.length≤f:=by
    have a:=((iw.refl _).trans (kM e1)).le;have b:=(aN e2).le;have c:=(lV e3).le;have c4:=(iD e4).1.le;have c5:=(aN e5).le;have d:=hq.tl;omega
   exact ⟨(f,(ls++[⟨s,y,n⟩],r5)),⟨q6,hl4,JG,(by simp only [hs,e1,e2,e3,e4,e5])⟩,Nat.lt_succ_self f,(aj [(0,.id 0),(1,.id 1),(2,.id 5),(3,.id 11)] rfl ⟨aQ,aQ,kX,trivial⟩ ⟨aB,aB,⟨_,rfl,Xz⟩,⟨_,rfl,jA⟩,trivial⟩)⟩
def um:Nat→List (List UInt8)→List Tok→Ps (List (List UInt8))
 | 0,ls,r=>.ok (ls,r)
 | f+1,ls,r =>
  if ls.length=0∨aV [59] r=false then
   if mD r=false then jm 12 r
   else if ¬ (ls.length:Int)<20 then jm 6 r
   else match gI ls r with
    | .error e=>.error e
    | .ok (s,r1)=>um f (ls++[s]) r1
  else .ok (ls,r)
def oO (r:List Tok):Ps (List (List UInt8)) :=
 if aV [102,97,118,111,117,114] r=false then .ok ([],r)
 else match um r.tail.length [] r.tail with
  | .error e=>.error e
  | .ok (ls,r1)=>match aT [59] r1 with
   | .error e=>.error e
   | .ok r2=>.ok (ls,r2)
def ku:Nat→List CallE→List Tok→Ps (List CallE)
 | 0,ls,r=>.ok (ls,r)
 | f+1,ls,r =>
  if aV [99,97,108,108] r=false then .ok (ls,r)
  else if ¬ (ls.length:Int)<20 then jm 6 r
  else match iQ (-1) r.tail with
   | .error e=>.error e
   | .ok (d,r1)=>match aT [97,116] r1 with
    | .error e=>.error e
    | .ok r2=>match iV 0 10000 r2 with
     | .error e=>.error e
     | .ok (n,r3)=>match aT [59] r3 with
      | .error e=>.error e
      | .ok r4=>ku f (ls++[⟨d,n⟩]) r4
theorem qC {least d:Int} {r r':List Tok} (h:iQ least r=.ok (d,r')):iw r r':=by
 unfold iQ at h;split at h
 ·cases h
 rename_i e1;split at h
 ·cases h
 rename_i e2;split at h
 ·cases h
 rename_i e3;split at h
 ·cases h
 rename_i e4;split at h
 ·cases h
 rename_i hk;split at h
 ·cases h
 split at h
 ·cases h;exact ((((iD e1).1.trans (aN e2)).trans (iD e3).1).trans (aN e4)).trans (.tail aI)
 ·cases h
theorem Xw {p:Prop} (h:p:=by show (ls.length+1)*16≤140737488355328;omega):p:=h
theorem VH {T r:List Tok} (h:PSt T r) (x:Ind):RX 171 [.ptr 0 0,.ptr 1 0] [cu T r,.cells 56 (tZ x (.lsl 5 (jO x.coupon)) (.sl 6 mY l0 x.lets) (.sl 7 pJ c0 x.cov) (.sl 1 encS [] x.favour) .nils)] 2 (ku r.length [] r) (fun _=>[]) (fun v=>[cu T v.2,.cells 56 (tZ x (.lsl 5 (jO x.coupon)) (.sl 6 mY l0 x.lets) (.sl 7 pJ c0 x.cov) (.sl 1 encS [] x.favour) (.sl 2 zH k0 v.1))]) (fun _=>[]):=by
 refine xO (dV (fun ch=>∃ er,ku r.length [] r=.error er∧ch=dP er) 2 44 [0,1,4,6]) Tryz.func171 ?_;conv=>whnf
 refine dO (dV _ _ _ _) (fun s:Nat×(List CallE×List Tok)=>PSt T s.2.2∧s.2.2.length≤s.1∧s.2.1.length≤20∧ku r.length [] r=ku s.1 s.2.1 s.2.2) (fun s=>s.1) (fun s=>⟨[(0,.ptr 0 0),(1,.ptr 1 0)],[(0,.cells 183 (dw T (s.2.2))),(1,.cells 56 (tZ x (.lsl 5 (jO x.coupon)) (.sl 6 mY l0 x.lets) (.sl 7 pJ c0 x.cov) (.sl 1 encS [] x.favour) (.own 2))),(2,.row 229 2 zH k0 (s.2.1))],3⟩) (r.length,([],r)) ⟨h,Nat.le_refl _,by simp,rfl⟩ ((aj [(0,.id 0),(1,.id 1),(2,.nil)] rfl ⟨aQ,aQ,trivial⟩ ⟨aB,aB,⟨_,rfl,jA⟩,trivial⟩)) ?_;rintro ⟨f,ls,q⟩ ⟨hq,hqf,hls,hsp⟩;dsimp only at hq hqf hls hsp ⊢;obtain ⟨f,rfl⟩:∃ g,f=g+1:=⟨f-1,by have:=hq.pos;omega⟩;have hi:=zZ hq [99,97,108,108];cases hb:aV [99,97,108,108] q with
 | false =>
  rw [hb] at hi;conv=>whnf
  refine cO (fun _=>hi) (cW ?_);refine gF (cW ?_);have hs:ku r.length [] r=.ok (ls,q):=by rw [hsp,ku,if_pos hb]
  refine ⟨⟨[(0,.ptr 0 0)],[(0,.cells 183 (dw T q)),(1,.cells 56 (tZ x (.lsl 5 (jO x.coupon)) (.sl 6 mY l0 x.lets) (.sl 7 pJ c0 x.cov) (.sl 1 encS [] x.favour) (.sl 2 zH k0 ls)))],2⟩,(dY [2]).trans (aj [(0,.id 0),(1,.id 1)] rfl ⟨aQ,trivial⟩ ⟨aB,aB,trivial⟩),rfl,rfl,?_⟩;exact VZ
 | true =>
  rw [hb] at hi;have q1:=hq.tail (bf hb);have hat:=hq.at
  have hqp:=hq.pos;have hqle:=hq.le;have hbig:=hq.big;conv=>whnf
  refine cO (fun _=>hi) (cW ?_);refine gT (cW ?_);cases h20:decide ((ls.length:Int)<20) with
  | false =>
   have hs:ku r.length [] r=.error ((bV q).pos,6):=by rw [hsp,ku,if_neg (by simp [hb]),if_pos (of_decide_eq_false h20)];rfl
   exact Sv
  | true =>
   have h20':=of_decide_eq_true h20;have hs:ku r.length [] r=match iQ (-1) q.tail with
    | .error e=>.error e
    | .ok (d,r1)=>match aT [97,116] r1 with
     | .error e=>.error e
     | .ok r2=>match iV 0 10000 r2 with
      | .error e=>.error e
      | .ok (n,r3)=>match aT [59] r3 with
       | .error e=>.error e
       | .ok r4=>ku f (ls++[⟨d,n⟩]) r4:=by rw [hsp,ku,if_neg (by simp [hb]),if_neg (by omega)]
   refine cR ((qM hq 6)) [0] (cW ?_);refine iO (cW ?_);rw [hat];conv=>whnf
   rcases e1:iQ (-1) q.tail with e | ⟨d,r1⟩
   ·exact CallG.stop rfl (aG (bK (D7 q1 (-1)) e1) [0] rfl rfl rfl ab0) (fun ch hc=>⟨e,by simp only [hs,e1],hc⟩)
   refine cR (bG (D7 q1 (-1)) e1) [0] (cW ?_);have q2:=q1.to (qC e1);rcases e2:aT [97,116] r1 with e | r2
   ·exact CallG.stop rfl (aG (bK (bQ q2 [97,116]) e2) [0,4] rfl rfl rfl ab0) (fun ch hc=>⟨e,by simp only [hs,e1,e2],hc⟩)
   refine cR (bG (bQ q2 [97,116]) e2) [0,4] (cW ?_);have q3:=q2.to (aN e2);rcases e3:iV 0 10000 r2 with e | ⟨n,r3⟩
   ·exact CallG.stop rfl (aG (bK (sK q3 0 10000) e3) [0] rfl rfl rfl ab0) (fun ch hc=>⟨e,by simp only [hs,e1,e2,e3],hc⟩)
   refine cR (bG (sK q3 0 10000) e3) [0] (cW ?_);have q4:=q3.to (iD e3).1;rcases e4:aT [59] r3 with e | r4
   ·exact CallG.stop rfl (aG (bK (bQ q4 [59]) e4) [0,5] rfl rfl rfl ab0) (fun ch hc=>⟨e,by simp only [hs,e1,e2,e3,e4],hc⟩)
   refine cR (bG (bQ q4 [59]) e4) [0,5] (cW ?_);have q5:=q4.to (aN e4);refine .eff ad0 (cW ?_);refine And.intro rfl (cW ?_);refine And.intro ⟨rfl,rfl⟩ (And.intro Xw (cW ?_));refine Exists.intro ⟨d,n⟩ (And.intro rfl (cW ?_));refine ⟨by kernel_rfl,(cW (cW ?_))⟩;have hl4:r4.length≤f:=by
    have a:=(qC e1).le;have b:=(aN e2).le;have c:=(iD e3).1.le;have c4:=(aN e4).le;have d:=hq.tl;omega
   exact ⟨(f,(ls++[⟨d,n⟩],r4)),⟨q5,hl4,JG,(by simp only [hs,e1,e2,e3,e4])⟩,Nat.lt_succ_self f,(aj [(0,.id 0),(1,.id 1),(2,.id 7)] rfl ⟨aQ,aQ,trivial⟩ ⟨aB,aB,⟨_,rfl,jA⟩,trivial⟩)⟩
theorem agn {f:Nat} {ls:List (List UInt8)} {r:List Tok} (hg:ls.length=0∨aV [59] r=false) (hn:mD r=true) (h20:(ls.length:Int)<20):um (f+1) ls r=match gI ls r with
  | .error e=>.error e
  | .ok (s,r1)=>um f (ls++[s]) r1:=by
 rw [um,if_pos hg,if_neg (by simp [hn]),if_neg (by omega)]
theorem Zx {T:List Tok} {names:List (List UInt8)} {r r':List Tok} {s:List UInt8} (hp:PSt T r) (h:gI names r=.ok (s,r')):r'.length+1=r.length:=by
 unfold gI at h;split at h
 ·cases h
 ·split at h
  ·cases h
  ·cases h;exact hp.tl
def Dz (s:Ps (List (List UInt8))):Ps (List (List UInt8)):=match s with
 | .error e=>.error e
 | .ok (ls,r1)=>match aT [59] r1 with
  | .error e=>.error e
  | .ok r2=>.ok (ls,r2)
theorem zt8 {p:Prop}(h:p:=by
 conv=>whnf
 refine gT (cW ?_);cases hn:mD q with
 | false =>
  have hs:oO r=.error ((bV q).pos,12):=by rw [hsp,um,if_pos hg,if_pos hn];rfl
  have hnm:=named_ok hq;rw [hn] at hnm;refine cO (fun _=>hnm) (cW ?_);exact aev
 | true =>
  have hnm:=named_ok hq;rw [hn] at hnm;refine cO (fun _=>hnm) (cW ?_);refine cR ((qM hq 12)) [0] (cW ?_);cases h20:decide ((ls.length:Int)<20) with
  | false =>
   have hs:oO r=.error ((bV q).pos,6):=by rw [hsp,um,if_pos hg,if_neg (by simp [hn]),if_pos (of_decide_eq_false h20)];rfl
   exact Sv
  | true =>
   have h20':=of_decide_eq_true h20;have hs:oO r=Dz (match gI ls q with
    | .error e=>.error e
    | .ok (s,r1)=>um f (ls++[s]) r1):=by rw [hsp,agn hg hn h20']
   refine cR ((qM hq 6)) [0] (cW ?_);rcases e1:gI ls q with e | ⟨s,r1⟩
   ·have hs':oO r=.error e:=by rw [hs,e1];rfl
    refine DrawG.effp ad0 10 (cW ?_);exact .mk [0,2] _ (aG ((bK (Ba hq ls aI) e1)) [0,2] rfl rfl rfl ab0) ((fun ch hc=>⟨e,hs',hc⟩)) ⟨by kernel_rfl,by kernel_rfl⟩
   have hs':oO r=Dz (um f (ls++[s]) r1):=by rw [hs,e1]
   have q2:=hq.to (kM e1);have hl2:=Zx hq e1;refine .eff ad0 (cW ?_);refine cR ((bG (Ba hq ls aI) e1)) [0,2] (cW ?_);refine And.intro rfl (cW ?_);refine And.intro ⟨rfl,rfl⟩ (And.intro Xw (cW ?_));refine Exists.intro s (And.intro rfl (cW ?_));refine ⟨by kernel_rfl,(cW (cW ?_))⟩;exact ⟨(f,(ls++[s],r1)),⟨q2,(by show r1.length≤f;omega),JG,hs'⟩,Nat.lt_succ_self f,(aj [(0,.id 0),(1,.id 1),(2,.id 4)] rfl ⟨aQ,aQ,trivial⟩ ⟨aB,aB,⟨_,rfl,jA⟩,trivial⟩)⟩):p:=h
theorem aeJ {T r:List Tok} (h:PSt T r) (x:Ind):RX 169 [.ptr 0 0,.ptr 1 0] [cu T r,.cells 56 (tZ x (.lsl 5 (jO x.coupon)) (.sl 6 mY l0 x.lets) (.sl 7 pJ c0 x.cov) .nils .nils)] 2 (oO r) (fun _=>[]) (fun v=>[cu T v.2,.cells 56 (tZ x (.lsl 5 (jO x.coupon)) (.sl 6 mY l0 x.lets) (.sl 7 pJ c0 x.cov) (.sl 1 encS [] v.1) .nils)]) (fun _=>[]):=by
 cases hb:aV [102,97,118,111,117,114] r with
 | false =>
  have hs:oO r=.ok ([],r):=by rw [oO,if_pos hb]
  refine xO (dV (fun ch=>∃ er,oO r=.error er∧ch=dP er) 2 48 [0,1,6,17]) Tryz.func169 ?_;conv=>whnf
  refine cR ((dA h hb)) [0] (cW ?_);refine gT (cW ?_);refine ⟨⟨[(0,.ptr 0 0)],[(0,.cells 183 (dw T r)),(1,.cells 56 (tZ x (.lsl 5 (jO x.coupon)) (.sl 6 mY l0 x.lets) (.sl 7 pJ c0 x.cov) (.sl 1 encS [] (([]:List (List UInt8)))) .nils))],2⟩,(aj [(0,.id 0),(1,.id 1)] rfl ⟨aQ,trivial⟩ ⟨aB,⟨_,rfl,.cells _ _ _ _ rfl (by repeat (first | exact .nil | refine .cons (by first | exact .base (.tree _ _ rfl rfl) | exact .base (.own _ _ rfl) | exact .base (.ptr _ _ _ rfl) | exact .base (.map _ _ rfl) | exact .base (.nilown _ rfl) | exact .fn _ _ _ _ _ .nil vJ | exact .base (.tree _ _ (g_.nils_sl 1 encS []) rfl) | exact .base (.leT _ _ (g_.nils_sl 1 encS []) rfl)) ?_)) rfl⟩,trivial⟩),rfl,rfl,?_⟩;conv=>whnf
  exact ⟨rfl,([],r),hs,rfl,rfl,rfl⟩
 | true =>
  have h1:=h.tail (bf hb);have hs0:oO r=Dz (um r.tail.length [] r.tail):=by
   rw [oO,if_neg (by simp [hb])];unfold Dz;try (cases um r.tail.length [] r.tail<;>rfl)
  refine xO (dV (fun ch=>∃ er,oO r=.error er∧ch=dP er) 2 48 [0,1,6,17]) Tryz.func169 ?_;conv=>whnf
  refine cR ((qW h hb)) [0] (cW ?_);refine gF (cW ?_);refine dO (dV _ _ _ _) (fun s:Nat×(List (List UInt8)×List Tok)=>PSt T s.2.2∧s.2.2.length≤s.1∧s.2.1.length≤20∧oO r=Dz (um s.1 s.2.1 s.2.2)) (fun s=>s.1) (fun s=>⟨[(0,.ptr 0 0),(1,.ptr 1 0)],[(0,.cells 183 (dw T (s.2.2))),(1,.cells 56 (tZ x (.lsl 5 (jO x.coupon)) (.sl 6 mY l0 x.lets) (.sl 7 pJ c0 x.cov) (.own 2) .nils)),(2,.row 9 1 encS [] (s.2.1))],3⟩) (r.tail.length,([],r.tail)) ⟨h1,Nat.le_refl _,by simp,hs0⟩ ((aj [(0,.id 0),(1,.id 1),(2,.nil)] rfl ⟨aQ,aQ,trivial⟩ ⟨aB,aB,⟨_,rfl,jA⟩,trivial⟩)) ?_;rintro ⟨f,ls,q⟩ ⟨hq,hqf,hls,hsp⟩;dsimp only at hq hqf hls hsp ⊢;obtain ⟨f,rfl⟩:∃ g,f=g+1:=⟨f-1,by have:=hq.pos;omega⟩;cases h0:decide ((ls.length:Int)=0) with
  | true =>
   have hg:ls.length=0∨aV [59] q=false:=.inl (by have:=of_decide_eq_true h0;omega);conv=>whnf
   rw [h0];refine cF [.rop (dw T q),.str [59]] [.val (.bool false)] ?_;exact zt8
  | false =>
   have h0':=of_decide_eq_false h0;cases h59:aV [59] q with
   | false =>
    have hg:ls.length=0∨aV [59] q=false:=.inr h59;conv=>whnf
    rw [h0];refine cO (fun _=>(J3 hq h59)) ?_;exact zt8
   | true =>
    have hs:oO r=Dz (.ok (ls,q)):=by rw [hsp,um,if_neg (fun hc=>hc.elim (fun h=>by omega) (fun h=>by rw [h59] at h;cases h))]
    conv=>whnf
    rw [h0];refine cO (fun _=>(WV hq h59)) (cW ?_);refine gF (cW ?_);rcases e2:aT [59] q with e | r2
    ·exact CallG.stop rfl (aG (bK (bQ hq [59]) e2) [0,3] rfl rfl rfl ab0) (fun ch hc=>⟨e,by simp only [hs,Dz,e2],hc⟩)
    refine cR (bG (bQ hq [59]) e2) [0,3] (cW ?_);refine ⟨⟨[(0,.ptr 0 0)],[(0,.cells 183 (dw T r2)),(1,.cells 56 (tZ x (.lsl 5 (jO x.coupon)) (.sl 6 mY l0 x.lets) (.sl 7 pJ c0 x.cov) (.sl 1 encS [] ls) .nils))],2⟩,(dY [2]).trans (aj [(0,.id 0),(1,.id 1)] rfl ⟨aQ,trivial⟩ ⟨aB,aB,trivial⟩),rfl,rfl,(cW ?_)⟩;exact ⟨rfl,(ls,r2),by simp only [hs,Dz,e2],rfl,rfl,rfl⟩
theorem bI {ε α β:Type} (a:α) (f:α→Except ε β):(Except.ok a >>= f)=f a:=rfl
theorem bJ {ε α β:Type} (e:ε) (f:α→Except ε β):((Except.error e:Except ε α) >>= f)=.error e:=rfl
theorem kD {s:List UInt8} {a b n:Int} {r r':List Tok} (h:gK s a b r=.ok (n,r')):iw r r':=by
 unfold gK at h;split at h
 ·cases h
 rename_i e1;split at h
 ·cases h
 rename_i e2;split at h
 ·cases h
 rename_i e3;cases h;exact ((aN e1).trans (iD e2).1).trans (aN e3)
theorem uq {s:List UInt8} {a n0 n:Int} {r r':List Tok} (h:jI s a n0 r=.ok (n,r')):iw r r':=by
 unfold jI at h;split at h
 ·exact kD h
 ·cases h;exact .refl _
theorem EK {s:List UInt8} {ws:List (List UInt8)} {n:Int} {r r':List Tok} (h:qU s ws r=.ok (n,r')):iw r r':=by
 unfold qU at h;split at h
 ·cases h
 rename_i r1 e1;split at h
 ·cases h
 rename_i hi;split at h
 ·cases h
 rename_i e2;cases h;have hlt:=DV (fun w=>aV w r1) [] ws;have hb:aV (ws.getD (dN (fun w=>aV w r1) ws).toNat []) r1=true:=by
  rcases hlt with hlt | hlt
  ·exact (hi hlt).elim
  ·exact hlt.2
 exact ((aN e1).trans (.tail (bf hb))).trans (aN e2)
theorem GH:∀ (f:Nat) {ls ls':List LetE} {r r':List Tok},mV f ls r=.ok (ls',r')→iw r r'
 | 0,ls,ls',r,r',h=>by cases h;exact .refl _
 | f+1,ls,ls',r,r',h=>by
  unfold mV at h;split at h
  ·cases h;exact .refl _
  rename_i hb;split at h
  ·cases h
  split at h
  ·cases h
  rename_i e1;split at h
  ·cases h
  rename_i e2;split at h
  ·cases h
  rename_i e3;exact ((((iw.tail (bf Gs)).trans (kM e1)).trans (aN e2)).trans (lV e3)).trans (GH f h)
theorem GR:∀ (f:Nat) {ls ls':List Cov} {r r':List Tok},mQ f ls r=.ok (ls',r')→iw r r'
 | 0,ls,ls',r,r',h=>by cases h;exact .refl _
 | f+1,ls,ls',r,r',h=>by
  unfold mQ at h;split at h
  ·cases h;exact .refl _
  rename_i hb;split at h
  ·cases h
  split at h
  ·cases h
  rename_i e1;split at h
  ·cases h
  rename_i e2;split at h
  ·cases h
  rename_i e3;split at h
  ·cases h
  rename_i e4;split at h
  ·cases h
  rename_i e5;exact ((((((iw.tail (bf Gs)).trans (kM e1)).trans (aN e2)).trans (lV e3)).trans (iD e4).1).trans (aN e5)).trans (GR f h)
theorem FD:∀ (f:Nat) {ls ls':List CallE} {r r':List Tok},ku f ls r=.ok (ls',r')→iw r r'
 | 0,ls,ls',r,r',h=>by cases h;exact .refl _
 | f+1,ls,ls',r,r',h=>by
  unfold ku at h;split at h
  ·cases h;exact .refl _
  rename_i hb;split at h
  ·cases h
  split at h
  ·cases h
  rename_i e1;split at h
  ·cases h
  rename_i e2;split at h
  ·cases h
  rename_i e3;split at h
  ·cases h
  rename_i e4;exact (((((iw.tail (bf Gs)).trans (qC e1)).trans (aN e2)).trans (iD e3).1).trans (aN e4)).trans (FD f h)
theorem TR:∀ (f:Nat) {ls ls':List (List UInt8)} {r r':List Tok},um f ls r=.ok (ls',r')→iw r r'
 | 0,ls,ls',r,r',h=>by cases h;exact .refl _
 | f+1,ls,ls',r,r',h=>by
  unfold um at h;split at h
  ·split at h
   ·cases h
   split at h
   ·cases h
   split at h
   ·cases h
   rename_i e1;exact (kM e1).trans (TR f h)
  ·cases h;exact .refl _
theorem SE {ls:List (List UInt8)} {r r':List Tok} (h:oO r=.ok (ls,r')):iw r r':=by
 unfold oO at h;split at h
 ·cases h;exact .refl _
 rename_i hb;split at h
 ·cases h
 rename_i e1;split at h
 ·cases h
 rename_i e2;cases h;exact ((iw.tail (bf Gs)).trans (TR _ e1)).trans (aN e2)
def bP (r:List Tok):Except Er (Ind×List Tok):=do
 let r ← aT [105,115,115,117,101] r
 let (name,r) ← nameP r
 let r ← aT [111,102] r
 let (issuer,r) ← nameP r
 let r ← aT [59] r
 let (face,r) ← gK [102,97,99,101] 1 1000000000000000 r
 let r ← aT [102,114,111,109] r
 let (frm,r) ← iQ (-1) r
 let r ← aT [116,111] r
 let (to,r) ← iQ frm r
 let r ← aT [101,118,101,114,121] r
 let (every,r) ← iV 1 120 r
 let r ← dI [[109,111,110,116,104,115],[59]] r
 let (count,r) ← qU [99,111,117,110,116] sF r
 let (adjust,r) ← qU [97,100,106,117,115,116] r_ r
 let (record,r) ← gK [114,101,99,111,114,100] 0 100 r
 let (rank,r) ← gK [114,97,110,107] 0 9 r
 let (lets,r) ← mV r.length [] r
 let r ← aT [99,111,117,112,111,110] r
 let (coupon,r) ← jd [59] r
 let (cap,r) ← gK [99,97,112] 0 10000 r
 let (cov,r) ← mQ r.length [] r
 let (favour,r) ← oO r
 let (cross,r) ← jI [99,114,111,115,115] 1000000000000000 (-1) r
 let (calls,r) ← ku r.length [] r
 let (notice,r) ← jI [110,111,116,105,99,101] 1000 0 r
 let (sink,r) ← jI [115,105,110,107] 1000 0 r
 let (majority,r) ← gK [109,97,106,111,114,105,116,121] 1 1000 r
 let (fast,r) ← gK [102,97,115,116] 1 1000 r
 if (bV r).kind=3 then .ok (⟨name,issuer,face,frm,to,every,count,adjust,record,rank,lets,coupon,cap,cov,favour,cross,calls,notice,sink,majority,fast⟩,r) else jm 12 r
theorem adM {T r:List Tok} (h:PSt T r):RX 119 [.ptr 0 0] [cu T r] 1 (bP r) (fun v=>[N8 v.1]) (fun v=>[cu T v.2]) (fun v=>[.cells 56 (su v.1)]):=by
 refine xO (dV (fun ch=>∃ er,bP r=.error er∧ch=dP er) 1 98 [0,2,3]) Tryz.func119 ?_;conv=>whnf
 rcases e1:aT [105,115,115,117,101] r with e | r1
 ·exact CallG.stop rfl (aG (bK (bQ h [105,115,115,117,101]) e1) [0,3] rfl rfl rfl ab0) (fun ch hc=>⟨e,by simp only [bP,bI,bJ,e1],hc⟩)
 refine cR (bG (bQ h [105,115,115,117,101]) e1) [0,3] (cW ?_);have q1:=PSt.to h (aN e1);rcases e2:nameP r1 with e | ⟨nm,r2⟩
 ·exact CallG.stop rfl (aG (bK (vF q1) e2) [0] rfl rfl rfl ab0) (fun ch hc=>⟨e,by simp only [bP,e1,bI,bJ,e2],hc⟩)
 refine cR (bG (vF q1) e2) [0] (cW ?_);have q2:=PSt.to q1 (wQ e2);rcases e3:aT [111,102] r2 with e | r3
 ·exact CallG.stop rfl (aG (bK (bQ q2 [111,102]) e3) [0,4] rfl rfl rfl ab0) (fun ch hc=>⟨e,by simp only [bP,e1,e2,bI,bJ,e3],hc⟩)
 refine cR (bG (bQ q2 [111,102]) e3) [0,4] (cW ?_);have q3:=PSt.to q2 (aN e3);rcases e4:nameP r3 with e | ⟨iss,r4⟩
 ·exact CallG.stop rfl (aG (bK (vF q3) e4) [0] rfl rfl rfl ab0) (fun ch hc=>⟨e,by simp only [bP,e1,e2,e3,bI,bJ,e4],hc⟩)
 refine cR (bG (vF q3) e4) [0] (cW ?_);have q4:=PSt.to q3 (wQ e4);rcases e5:aT [59] r4 with e | r5
 ·exact CallG.stop rfl (aG (bK (bQ q4 [59]) e5) [0,5] rfl rfl rfl ab0) (fun ch hc=>⟨e,by simp only [bP,e1,e2,e3,e4,bI,bJ,e5],hc⟩)
 refine cR (bG (bQ q4 [59]) e5) [0,5] (cW ?_);have q5:=PSt.to q4 (aN e5);rcases e6:gK [102,97,99,101] 1 1000000000000000 r5 with e | ⟨face,r6⟩
 ·exact CallG.stop rfl (aG (bK (oZ q5 [102,97,99,101] 1 1000000000000000) e6) [0] rfl rfl rfl ab0) (fun ch hc=>⟨e,by simp only [bP,e1,e2,e3,e4,e5,bI,bJ,e6],hc⟩)
 refine cR (bG (oZ q5 [102,97,99,101] 1 1000000000000000) e6) [0] (cW ?_);have q6:=PSt.to q5 (kD e6);rcases e7:aT [102,114,111,109] r6 with e | r7
 ·exact CallG.stop rfl (aG (bK (bQ q6 [102,114,111,109]) e7) [0,6] rfl rfl rfl ab0) (fun ch hc=>⟨e,by simp only [bP,e1,e2,e3,e4,e5,e6,bI,bJ,e7],hc⟩)
 refine cR (bG (bQ q6 [102,114,111,109]) e7) [0,6] (cW ?_);have q7:=PSt.to q6 (aN e7);rcases e8:iQ (-1) r7 with e | ⟨frm,r8⟩
 ·exact CallG.stop rfl (aG (bK (D7 q7 (-1)) e8) [0] rfl rfl rfl ab0) (fun ch hc=>⟨e,by simp only [bP,e1,e2,e3,e4,e5,e6,e7,bI,bJ,e8],hc⟩)
 refine cR (bG (D7 q7 (-1)) e8) [0] (cW ?_);have q8:=PSt.to q7 (qC e8);rcases e9:aT [116,111] r8 with e | r9
 ·exact CallG.stop rfl (aG (bK (bQ q8 [116,111]) e9) [0,7] rfl rfl rfl ab0) (fun ch hc=>⟨e,by simp only [bP,e1,e2,e3,e4,e5,e6,e7,e8,bI,bJ,e9],hc⟩)
 refine cR (bG (bQ q8 [116,111]) e9) [0,7] (cW ?_);have q9:=PSt.to q8 (aN e9);rcases e10:iQ frm r9 with e | ⟨tto,r10⟩
 ·exact CallG.stop rfl (aG (bK (D7 q9 frm) e10) [0] rfl rfl rfl ab0) (fun ch hc=>⟨e,by simp only [bP,e1,e2,e3,e4,e5,e6,e7,e8,e9,bI,bJ,e10],hc⟩)
 refine cR (bG (D7 q9 frm) e10) [0] (cW ?_);have q10:=PSt.to q9 (qC e10);rcases e11:aT [101,118,101,114,121] r10 with e | r11
 ·exact CallG.stop rfl (aG (bK (bQ q10 [101,118,101,114,121]) e11) [0,8] rfl rfl rfl ab0) (fun ch hc=>⟨e,by simp only [bP,e1,e2,e3,e4,e5,e6,e7,e8,e9,e10,bI,bJ,e11],hc⟩)
 refine cR (bG (bQ q10 [101,118,101,114,121]) e11) [0,8] (cW ?_);have q11:=PSt.to q10 (aN e11);rcases e12:iV 1 120 r11 with e | ⟨every,r12⟩
 ·exact CallG.stop rfl (aG (bK (sK q11 1 120) e12) [0] rfl rfl rfl ab0) (fun ch hc=>⟨e,by simp only [bP,e1,e2,e3,e4,e5,e6,e7,e8,e9,e10,e11,bI,bJ,e12],hc⟩)
 refine cR (bG (sK q11 1 120) e12) [0] (cW ?_);have q12:=PSt.to q11 ((iD e12).1);rcases e13:dI [[109,111,110,116,104,115],[59]] r12 with e | r13
 ·exact CallG.stop rfl (aG (bK (SB q12 [[109,111,110,116,104,115],[59]] (by simp)) e13) [0,9] rfl rfl rfl ab0) (fun ch hc=>⟨e,by simp only [bP,e1,e2,e3,e4,e5,e6,e7,e8,e9,e10,e11,e12,bI,bJ,e13],hc⟩)
 refine cR (bG (SB q12 [[109,111,110,116,104,115],[59]] (by simp)) e13) [0,9] (cW ?_);have q13:=PSt.to q12 (LG e13);refine cO (fun _=>ahp) (cW ?_);rcases e14:qU [99,111,117,110,116] sF r13 with e | ⟨count,r14⟩
 ·exact CallG.stop rfl (aG (bK (Qd q13 [99,111,117,110,116] sF (by decide)) e14) [0] rfl rfl rfl ab0) (fun ch hc=>⟨e,by simp only [bP,e1,e2,e3,e4,e5,e6,e7,e8,e9,e10,e11,e12,e13,bI,bJ,e14],hc⟩)
 refine cR (bG (Qd q13 [99,111,117,110,116] sF bT) e14) [0] (cW ?_);have q14:=PSt.to q13 (EK e14);refine cO (fun _=>ag5) (cW ?_);rcases e15:qU [97,100,106,117,115,116] r_ r14 with e | ⟨adjust,r15⟩
 ·exact CallG.stop rfl (aG (bK (Qd q14 [97,100,106,117,115,116] r_ (by decide)) e15) [0] rfl rfl rfl ab0) (fun ch hc=>⟨e,by simp only [bP,e1,e2,e3,e4,e5,e6,e7,e8,e9,e10,e11,e12,e13,e14,bI,bJ,e15],hc⟩)
 refine cR (bG (Qd q14 [97,100,106,117,115,116] r_ bT) e15) [0] (cW ?_);have q15:=PSt.to q14 (EK e15);rcases e16:gK [114,101,99,111,114,100] 0 100 r15 with e | ⟨record,r16⟩
 ·exact CallG.stop rfl (aG (bK (oZ q15 [114,101,99,111,114,100] 0 100) e16) [0] rfl rfl rfl ab0) (fun ch hc=>⟨e,by simp only [bP,e1,e2,e3,e4,e5,e6,e7,e8,e9,e10,e11,e12,e13,e14,e15,bI,bJ,e16],hc⟩)
 refine cR (bG (oZ q15 [114,101,99,111,114,100] 0 100) e16) [0] (cW ?_);have q16:=PSt.to q15 (kD e16);rcases e17:gK [114,97,110,107] 0 9 r16 with e | ⟨rank,r17⟩
 ·exact CallG.stop rfl (aG (bK (oZ q16 [114,97,110,107] 0 9) e17) [0] rfl rfl rfl ab0) (fun ch hc=>⟨e,by simp only [bP,e1,e2,e3,e4,e5,e6,e7,e8,e9,e10,e11,e12,e13,e14,e15,e16,bI,bJ,e17],hc⟩)
 refine cR (bG (oZ q16 [114,97,110,107] 0 9) e17) [0] (cW ?_);have q17:=PSt.to q16 (kD e17);rcases e18:mV r17.length [] r17 with e | ⟨lets,r18⟩
 ·exact CallG.stop rfl (aG (bK (YA q17 ⟨nm,iss,face,frm,tto,every,count,adjust,record,rank,[],Es,0,[],[],0,[],0,0,0,0⟩) e18) [0,2] rfl rfl rfl ab0) (fun ch hc=>⟨e,by simp only [bP,e1,e2,e3,e4,e5,e6,e7,e8,e9,e10,e11,e12,e13,e14,e15,e16,e17,bI,bJ,e18],hc⟩)
 refine cR (bG (YA q17 ⟨nm,iss,face,frm,tto,every,count,adjust,record,rank,[],Es,0,[],[],0,[],0,0,0,0⟩) e18) [0,2] (cW ?_);have q18:=PSt.to q17 (GH _ e18);rcases e19:aT [99,111,117,112,111,110] r18 with e | r19
 ·exact CallG.stop rfl (aG (bK (bQ q18 [99,111,117,112,111,110]) e19) [0,10] rfl rfl rfl ab0) (fun ch hc=>⟨e,by simp only [bP,e1,e2,e3,e4,e5,e6,e7,e8,e9,e10,e11,e12,e13,e14,e15,e16,e17,e18,bI,bJ,e19],hc⟩)
 refine cR (bG (bQ q18 [99,111,117,112,111,110]) e19) [0,10] (cW ?_);have q19:=PSt.to q18 (aN e19);rcases e20:jd [59] r19 with e | ⟨coupon,r20⟩
 ·exact CallG.stop rfl (aG (bK (Bg q19 [59]) e20) [0] rfl rfl rfl ab0) (fun ch hc=>⟨e,by simp only [bP,e1,e2,e3,e4,e5,e6,e7,e8,e9,e10,e11,e12,e13,e14,e15,e16,e17,e18,e19,bI,bJ,e20],hc⟩)
 refine cR (bG (Bg q19 [59]) e20) [0] (cW ?_);have q20:=PSt.to q19 (lV e20);rcases e21:gK [99,97,112] 0 10000 r20 with e | ⟨cap,r21⟩
 ·exact CallG.stop rfl (aG (bK (oZ q20 [99,97,112] 0 10000) e21) [0] rfl rfl rfl ab0) (fun ch hc=>⟨e,by simp only [bP,e1,e2,e3,e4,e5,e6,e7,e8,e9,e10,e11,e12,e13,e14,e15,e16,e17,e18,e19,e20,bI,bJ,e21],hc⟩)
 refine cR (bG (oZ q20 [99,97,112] 0 10000) e21) [0] (cW ?_);have q21:=PSt.to q20 (kD e21);rcases e22:mQ r21.length [] r21 with e | ⟨cov,r22⟩
 ·exact CallG.stop rfl (aG (bK (Zp q21 ⟨nm,iss,face,frm,tto,every,count,adjust,record,rank,lets,coupon,cap,[],[],0,[],0,0,0,0⟩) e22) [0,2] rfl rfl rfl ab0) (fun ch hc=>⟨e,by simp only [bP,e1,e2,e3,e4,e5,e6,e7,e8,e9,e10,e11,e12,e13,e14,e15,e16,e17,e18,e19,e20,e21,bI,bJ,e22],hc⟩)
 refine cR (bG (Zp q21 ⟨nm,iss,face,frm,tto,every,count,adjust,record,rank,lets,coupon,cap,[],[],0,[],0,0,0,0⟩) e22) [0,2] (cW ?_);have q22:=PSt.to q21 (GR _ e22);rcases e23:oO r22 with e | ⟨favour,r23⟩
 ·exact CallG.stop rfl (aG (bK (aeJ q22 ⟨nm,iss,face,frm,tto,every,count,adjust,record,rank,lets,coupon,cap,cov,[],0,[],0,0,0,0⟩) e23) [0,2] rfl rfl rfl ab0) (fun ch hc=>⟨e,by simp only [bP,e1,e2,e3,e4,e5,e6,e7,e8,e9,e10,e11,e12,e13,e14,e15,e16,e17,e18,e19,e20,e21,e22,bI,bJ,e23],hc⟩)
 refine cR (bG (aeJ q22 ⟨nm,iss,face,frm,tto,every,count,adjust,record,rank,lets,coupon,cap,cov,[],0,[],0,0,0,0⟩) e23) [0,2] (cW ?_);have q23:=PSt.to q22 (SE e23);rcases e24:jI [99,114,111,115,115] 1000000000000000 (-1) r23 with e | ⟨cross,r24⟩
 ·exact CallG.stop rfl (aG (bK (AZ q23 [99,114,111,115,115] 1000000000000000 (-1)) e24) [0] rfl rfl rfl ab0) (fun ch hc=>⟨e,by simp only [bP,e1,e2,e3,e4,e5,e6,e7,e8,e9,e10,e11,e12,e13,e14,e15,e16,e17,e18,e19,e20,e21,e22,e23,bI,bJ,e24],hc⟩)
 refine cR (bG (AZ q23 [99,114,111,115,115] 1000000000000000 (-1)) e24) [0] (cW ?_);have q24:=PSt.to q23 (uq e24);rcases e25:ku r24.length [] r24 with e | ⟨calls,r25⟩
 ·exact CallG.stop rfl (aG (bK (VH q24 ⟨nm,iss,face,frm,tto,every,count,adjust,record,rank,lets,coupon,cap,cov,favour,cross,[],0,0,0,0⟩) e25) [0,2] rfl rfl rfl ab0) (fun ch hc=>⟨e,by simp only [bP,e1,e2,e3,e4,e5,e6,e7,e8,e9,e10,e11,e12,e13,e14,e15,e16,e17,e18,e19,e20,e21,e22,e23,e24,bI,bJ,e25],hc⟩)
 refine cR (bG (VH q24 ⟨nm,iss,face,frm,tto,every,count,adjust,record,rank,lets,coupon,cap,cov,favour,cross,[],0,0,0,0⟩) e25) [0,2] (cW ?_);have q25:=PSt.to q24 (FD _ e25);rcases e26:jI [110,111,116,105,99,101] 1000 0 r25 with e | ⟨notice,r26⟩
 ·exact CallG.stop rfl (aG (bK (AZ q25 [110,111,116,105,99,101] 1000 0) e26) [0] rfl rfl rfl ab0) (fun ch hc=>⟨e,by simp only [bP,e1,e2,e3,e4,e5,e6,e7,e8,e9,e10,e11,e12,e13,e14,e15,e16,e17,e18,e19,e20,e21,e22,e23,e24,e25,bI,bJ,e26],hc⟩)
 refine cR (bG (AZ q25 [110,111,116,105,99,101] 1000 0) e26) [0] (cW ?_);have q26:=PSt.to q25 (uq e26);rcases e27:jI [115,105,110,107] 1000 0 r26 with e | ⟨sink,r27⟩
 ·exact CallG.stop rfl (aG (bK (AZ q26 [115,105,110,107] 1000 0) e27) [0] rfl rfl rfl ab0) (fun ch hc=>⟨e,by simp only [bP,e1,e2,e3,e4,e5,e6,e7,e8,e9,e10,e11,e12,e13,e14,e15,e16,e17,e18,e19,e20,e21,e22,e23,e24,e25,e26,bI,bJ,e27],hc⟩)
 refine cR (bG (AZ q26 [115,105,110,107] 1000 0) e27) [0] (cW ?_);have q27:=PSt.to q26 (uq e27);rcases e28:gK [109,97,106,111,114,105,116,121] 1 1000 r27 with e | ⟨majority,r28⟩
 ·exact CallG.stop rfl (aG (bK (oZ q27 [109,97,106,111,114,105,116,121] 1 1000) e28) [0] rfl rfl rfl ab0) (fun ch hc=>⟨e,by simp only [bP,e1,e2,e3,e4,e5,e6,e7,e8,e9,e10,e11,e12,e13,e14,e15,e16,e17,e18,e19,e20,e21,e22,e23,e24,e25,e26,e27,bI,bJ,e28],hc⟩)
 refine cR (bG (oZ q27 [109,97,106,111,114,105,116,121] 1 1000) e28) [0] (cW ?_);have q28:=PSt.to q27 (kD e28);rcases e29:gK [102,97,115,116] 1 1000 r28 with e | ⟨fast,r29⟩
 ·exact CallG.stop rfl (aG (bK (oZ q28 [102,97,115,116] 1 1000) e29) [0] rfl rfl rfl ab0) (fun ch hc=>⟨e,by simp only [bP,e1,e2,e3,e4,e5,e6,e7,e8,e9,e10,e11,e12,e13,e14,e15,e16,e17,e18,e19,e20,e21,e22,e23,e24,e25,e26,e27,e28,bI,bJ,e29],hc⟩)
 refine cR (bG (oZ q28 [102,97,115,116] 1 1000) e29) [0] (cW ?_);have q29:=PSt.to q28 (kD e29);have hn:=jh q29;refine cO (fun _=>hn) (cW ?_);cases hk:decide ((bV r29).kind=3) with
 | false =>
  have hs:bP r=.error ((bV r29).pos,12):=by simp only [bP,e1,e2,e3,e4,e5,e6,e7,e8,e9,e10,e11,e12,e13,e14,e15,e16,e17,e18,e19,e20,e21,e22,e23,e24,e25,e26,e27,e28,e29,bI,bJ,of_decide_eq_false hk,if_false,jm]
  exact CallG.stop rfl (aG (Ah q29 12) [0] rfl rfl rfl ab0) ((fun ch hc=>⟨_,hs,hc⟩))
 | true =>
  have hs:bP r=.ok (⟨nm,iss,face,frm,tto,every,count,adjust,record,rank,lets,coupon,cap,cov,favour,cross,calls,notice,sink,majority,fast⟩,r29):=by simp only [bP,e1,e2,e3,e4,e5,e6,e7,e8,e9,e10,e11,e12,e13,e14,e15,e16,e17,e18,e19,e20,e21,e22,e23,e24,e25,e26,e27,e28,e29,bI,bJ,of_decide_eq_true hk,if_true]
  refine cR ((qM q29 12)) [0] (cW ?_);refine ⟨⟨[(2,.ptr 1 0)],[(0,.cells 183 (dw T r29)),(1,.cells 56 (su ((⟨nm,iss,face,frm,tto,every,count,adjust,record,rank,lets,coupon,cap,cov,favour,cross,calls,notice,sink,majority,fast⟩:Ind))))],2⟩,(aj [(0,.id 0),(1,.id 1)] rfl ⟨aQ,trivial⟩ ⟨aB,aB,trivial⟩),rfl,rfl,(cW ?_)⟩;exact ⟨rfl,(⟨nm,iss,face,frm,tto,every,count,adjust,record,rank,lets,coupon,cap,cov,favour,cross,calls,notice,sink,majority,fast⟩,r29),hs,rfl,rfl,rfl⟩
def xP (s p:List UInt8):Bool:=decide (p.length≤s.length)&&decide (s.take p.length=p)
theorem Xh (s p:List UInt8) (hs:s.length≤9223372036854775807):ak Tryz.prog 250 [.str s,.str p] (.bool (xP s p)):=by
 unfold xP;cases hb:decide (p.length≤s.length) with
 | true =>
  have hle:=of_decide_eq_true hb;have h1:decide (((p.length:Nat):Int)≤((s.length:Nat):Int))=true:=decide_eq_true (by omega);refine aO (au 18 [0,1,4]) Tryz.func250 ?_;conv=>whnf
  rw [h1];refine And.intro (fun _=>⟨by omega,by omega⟩) (cW ?_);have hc:cut none (some (.int .i64 p.length)) s 0 p.length=s.take p.length:=by
   unfold cut;simp
  show [AR.val (AV.bool (true&&decide (cut none (some (.int .i64 p.length)) s 0 p.length=p)))]=_;rw [hc]
 | false =>
  have hle:=of_decide_eq_false hb;have h1:decide (((p.length:Nat):Int)≤((s.length:Nat):Int))=false:=decide_eq_false (by omega);refine aO (au 18 [0,1,4]) Tryz.func250 ?_;conv=>whnf
  rw [h1];refine And.intro (fun h=>(by cases h)) (cW ?_);rfl
theorem E_ {p:Prop}(h:p:=by
 conv=>whnf
 refine cO (fun _=>h) (cW ?_);rfl):p:=h
theorem aag (s p:List UInt8) (hs:s.length≤9223372036854775807):ak Tryz.prog 236 [.str s,.str p] (.bool (xP s p)):=by
 have h:=Xh s p hs;refine aO (au 8 [0,1,4]) Tryz.func236 ?_;exact E_
def jv (s:List UInt8):Int:=s.foldl (fun n c=>10*n+((c.toNat:Int)-48)) 0
def GN (s:List UInt8):Bool:=decide (s≠[])&&decide (dQ dH s=s.length)&&!(decide ((s.getD 0 0).toNat=48)&&decide (s≠[48]))&&decide (s.length≤16)
def qj (s:List UInt8):Option Int:=if GN s=true∧jv s≤1000000000000000 then some (jv s) else none
def NC:Option Int→List AR
 | some n=>[.val (.int .i64 n),.val (.bool true)]
 | none=>[.val (.int .i64 0),.val (.bool false)]
theorem Ib (l:List UInt8) (c:UInt8):jv (l++[c])=10*jv l+((c.toNat:Int)-48):=by simp [jv]
theorem VU:∀ (l:List UInt8) (a:Int),0≤a→(∀ c∈l,dH (c.toNat:Int)=true)→0≤l.foldl (fun n c=>10*n+((c.toNat:Int)-48)) a∧l.foldl (fun n c=>10*n+((c.toNat:Int)-48)) a<(a+1)*10 ^ l.length
 | [],a,ha,_=>by simp;omega
 | c::l,a,ha,h=>by
  have h2:=h c (by simp);unfold dH at h2;simp only [Bool.and_eq_true,decide_eq_true_eq] at h2;have h1:=VU l (10*a+((c.toNat:Int)-48)) (by omega) fun x hx=>h x (by simp [hx])
  rw [List.foldl_cons,List.length_cons,Int.pow_succ];refine ⟨h1.1,Int.lt_of_lt_of_le h1.2 ?_⟩;have h3:(10*a+((c.toNat:Int)-48)+1)≤(a+1)*10:=by omega
  have h4:(0:Int)≤10 ^ l.length:=Int.pow_nonneg (by omega);have h5:=Int.mul_le_mul_of_nonneg_right h3 h4;rw [Int.mul_assoc,Int.mul_comm 10 (10 ^ l.length)] at h5;exact h5
theorem J8 (l:List UInt8) (h:∀ c∈l,dH (c.toNat:Int)=true):0≤jv l∧jv l<10 ^ l.length:=by
 have:=VU l 0 (by omega) h;simpa [jv] using this
theorem XR {p:Prop} (h:p:=by rw [List.length_take];omega):p:=h
theorem afk (s:List UInt8) (hs:s.length≤9223372036854775807):bM Tryz.prog 235 [.str s] (fun rs=>rs=NC (qj s)):=by
 have hsp:=Ei s 232 _ digit_ok hs;have hpos:s≠[]→0<s.length:=fun h=>List.length_pos_iff.2 h
 have e4:decide (s=(⟨#[]⟩:ByteArray).data.toList)=decide (s=[]):=rfl;have e5:decide (s=(⟨#[48]⟩:ByteArray).data.toList)=decide (s=[48]):=rfl;have e3:decide ((dQ dH s:Int)=(s.length:Int))=decide (dQ dH s=s.length):=by
  by_cases h:dQ dH s=s.length
  ·simp [h]
  ·simp [h];omega
 have e6:decide (16<(s.length:Int))=!decide (s.length≤16):=by
  by_cases h:s.length≤16
  ·simp [h];omega
  ·simp [h];omega
 have e7:decide (((s.getD 0 0).toNat:Int)=48)=decide ((s.getD 0 0).toNat=48):=by
  generalize (s.getD 0 0).toNat=z;by_cases h:z=48
  ·simp [h]
  ·simp [h];omega
 have hN:GN s=(!decide (s=[])&&decide (dQ dH s=s.length)&&!(decide ((s.getD 0 0).toNat=48)&&!decide (s=[48]))&&decide (s.length≤16)):=by
  unfold GN;simp
 refine aO (au 46 [0,2,3,4,5,28,30,31,32,44]) Tryz.func235 ?_;conv=>whnf
 refine cO (fun _=>hsp) (cW ?_);refine And.intro (fun h=>⟨by omega,by
  have h2:s≠[]:=fun e=>(by subst e;cases h)
  have:=hpos h2;omega⟩) ?_
 conv=>whnf
 rw [e4,e3,e5,e6,show (Int.toNat 0)=0 from rfl,e7];have hcond:(decide (s=[])||!decide (dQ dH s=s.length)||decide ((s.getD 0 0).toNat=48)&&!decide (s=[48])||!decide (s.length≤16))=!GN s:=by
  rw [hN];generalize decide (s=[])=a;generalize decide (dQ dH s=s.length)=b;generalize decide ((s.getD 0 0).toNat=48)=c;generalize decide (s=[48])=d;generalize decide (s.length≤16)=f;revert a b c d f;decide
 rw [hcond];cases hg:GN s with
 | false =>
  have hr:qj s=none:=by unfold qj;rw [if_neg (by simp [hg])]
  rw [hr];refine gT (cW ?_);rfl
 | true =>
  rw [hg] at hN;have hN':=hN.symm;simp only [Bool.and_eq_true,decide_eq_true_eq] at hN';have hspan:=hN'.1.1.2;have h16:=hN'.2;have hall:∀ k,k<s.length→dH ((s.getD k 0).toNat:Int)=true:=fun k hk=>vU (by rw [hspan];exact hk)
  have htk:∀ k,k≤s.length→0≤jv (s.take k)∧jv (s.take k)<10 ^ 16:=by
   intro k hk;have h1:=J8 (s.take k) (fun c hc=>by
    obtain ⟨i,hi,he⟩:=List.mem_iff_getElem.1 hc;have hik:i<s.length:=by rw [List.length_take] at hi;omega
    have:=hall i hik;rw [List.getD_eq_getElem?_getD,List.getElem?_eq_getElem hik] at this;rw [← he,List.getElem_take];exact this)
   refine ⟨h1.1,Int.lt_of_lt_of_le h1.2 ?_⟩;have h2:(10:Nat) ^ (s.take k).length≤10 ^ 16:=Nat.pow_le_pow_right (by omega) XR
   exact_mod_cast h2
  refine gF (cW ?_);refine aX (au _ _) s.length (fun _=>True) (fun k=>⟨[(0,.str s),(2,.int .i64 0),(3,.bool false),(4,.int .i64 (jv (s.take k))),(30,.int .i64 (s.length:Nat)),(31,.int .i64 (k:Nat))],[],0⟩) trivial ((aj [] rfl ⟨ah,ah,ah,ah,ah,ah,trivial⟩ trivial)) ?_;intro k hk _;have hv:=htk k hk;conv=>whnf
  refine ⟨fun hd=>?_,fun hd=>?_⟩
  ·have hd:=of_decide_eq_true hd;have hlt:k<s.length:=by omega
   have hek:(k:Int).toNat=k:=Int.toNat_natCast k;have hdig:=hall k hlt;unfold dH at hdig;simp only [Bool.and_eq_true,decide_eq_true_eq] at hdig;have hv2:=htk (k+1) hlt;conv=>whnf
   refine iO (cW ?_);refine iO (cW ?_);rw [hek];have hw:IntKind.u8.wrap (((s.getD k 0).toNat:Int)-48)=((s.getD k 0).toNat:Int)-48:=IntWalk.u8_in _ (by omega);rw [hw];refine iO (cW ?_);refine iO (cW ?_);refine iO (cW ?_);refine ⟨k+1,⟨hlt,trivial⟩,abp,(aj [] rfl ⟨ah,ah,ah,.base (.tree _ _ (congrArg (AV.int .i64) (by rw [wM (d:=0) hlt,Ib])) rfl),ah,ah,trivial⟩ trivial)⟩
  ·have hd:=of_decide_eq_false hd;have hke:k=s.length:=by omega
   rw [hke,List.take_length];rw [hke,List.take_length] at hv;conv=>whnf
   refine ⟨fun hm=>?_,fun hm=>?_⟩
   ·have hm:=of_decide_eq_true hm;have hr:qj s=none:=by unfold qj;rw [if_neg (by omega)]
    rw [hr];conv=>whnf
    rfl
   ·have hm:=of_decide_eq_false hm;have hr:qj s=some (jv s):=by unfold qj;rw [if_pos ⟨hg,by omega⟩]
    rw [hr];conv=>whnf
    rfl
def jD (s:List UInt8):List UInt8:=s.take (dQ (fun c=>iI c||dH c) s)
def ru (s:List UInt8):List UInt8:=s.take (dQ dH s)
def nextR (s:List UInt8):Except Int Tok :=
 if iI ((s.getD 0 0).toNat:Int)=true then
  if sQ (jD s)=true then .ok ⟨0,jD s,0,0⟩ else .error 11
 else if dH ((s.getD 0 0).toNat:Int)=true then
  match qj (ru s) with
  | some n=>.ok ⟨1,ru s,n,0⟩
  | none=>.error 3
 else match signs.find? (xP s) with
  | some p=>.ok ⟨2,p,0,0⟩
  | none=>.error 10
def Yr:Except Int Tok→List AR
 | .ok t=>[.val (yQ t),.val (.int .i64 0)]
 | .error e=>[.val (yQ t0),.val (.int .i64 e)]
theorem VW {α:Type _} {p:α→Bool} {d:α}:∀ {l:List α} {k:Nat},k<l.length→(∀ j,j<k→p (l.getD j d)=false)→p (l.getD k d)=true→l.find? p=some (l.getD k d)
 | [],k,h,_,_=>by simp at h
 | x::l,0,_,_,hp=>by
  have hp:p x=true:=hp;rw [List.find?_cons_of_pos hp];rfl
 | x::l,k+1,h,hj,hp=>by
  have h0:p x=false:=hj 0 (by omega);rw [List.find?_cons_of_neg (by rw [h0];simp)];exact VW (l:=l) (k:=k) oz (fun j hjk=>hj (j+1) (by omega)) hp
theorem Vg {α:Type _} {p:α→Bool} {d:α}:∀ {l:List α},(∀ j,j<l.length→p (l.getD j d)=false)→l.find? p=none
 | [],_=>rfl
 | x::l,h=>by
  have h0:p x=false:=h 0 (by simp);rw [List.find?_cons_of_neg (by rw [h0];simp)];exact Vg (l:=l) fun j hj=>h (j+1) ni
theorem ZE (cs:Array Value) (h:cs=(signs.map fun s=>Value.string ⟨s.toArray⟩).toArray):cs.size=(signs.map fun s=>AV.str s).length∧∀ (S:Blocks) (w:World) (j:Nat) (c:Value) (a:AV),cs[j]?=some c→(signs.map fun s=>AV.str s)[j]?=some a→RelT S w c a:=by
 subst h;refine ⟨by simp,fun S w j c a h1 h2=>?_⟩;simp only [List.getElem?_toArray,List.getElem?_map,Option.map_eq_some_iff] at h1 h2;obtain ⟨x,hx,rfl⟩:=h1;obtain ⟨y,hy,rfl⟩:=h2;rw [hx] at hy;cases hy;exact .str _ _ rfl
theorem Qh {p:Prop}(h:p:=by
 conv=>whnf
 refine gT (cW ?_);rfl):p:=h
theorem agP (s:List UInt8) (hne:s≠[]) (hs:s.length≤4000):bM Tryz.prog 195 [.str s] (fun rs=>rs=Yr (nextR s)):=by
 have hpos:0<s.length:=List.length_pos_iff.2 hne;have hsp1:=Ei s 234 _ abN (by omega);have hsp2:=Ei s 232 _ digit_ok (by omega);have hle1:=lK (fun c=>iI c||dH c) s;have hle2:=lK dH s;have hw:=VQ (jD s) (by unfold jD;rw [List.length_take];omega);have hn:=afk (ru s) (by unfold ru;rw [List.length_take];omega);refine aO (au 54 [0,2,3,4,5,6,7,9,10,20,24,38,43,44,45,49]) Tryz.func195 ?_;conv=>whnf
 refine iO (cW ?_);refine cO (fun _=>C9 ((s.getD 0 0).toNat:Int)) (cW ?_);refine ⟨fun hl=>?_,fun hl=>?_⟩
 ·conv=>whnf
  refine cO (fun _=>hsp1) (cW ?_);refine iO (cW ?_);refine cO (fun _=>hw) (cW ?_);have hr:nextR s=if sQ (jD s)=true then .ok ⟨0,jD s,0,0⟩ else .error 11:=by unfold nextR;rw [if_pos hl]
  rw [hr];refine ⟨fun hb=>?_,fun hb=>?_⟩
  ·have hb':sQ (jD s)=false:=by simpa using hb
   rw [hb',if_neg (by simp)];conv=>whnf
   rfl
  ·have hb':sQ (jD s)=true:=by simpa using hb
   rw [hb',if_pos rfl];conv=>whnf
   rfl
 conv=>whnf
 refine iO (cW ?_);refine cO (fun _=>digit_ok ((s.getD 0 0).toNat:Int)) (cW ?_);refine ⟨fun hd=>?_,fun hd=>?_⟩
 ·conv=>whnf
  refine cO (fun _=>hsp2) (cW ?_);refine iO (cW ?_);have hr:nextR s=match qj (ru s) with
   | some n=>.ok ⟨1,ru s,n,0⟩
   | none=>.error 3:=by unfold nextR;rw [if_neg (by rw [hl];simp),if_pos hd]
  cases hN:qj (ru s) with
  | none =>
   rw [hN] at hn hr;unfold NC at hn;rw [hr];refine cO (fun _=>hn) ?_;exact Qh
  | some n =>
   rw [hN] at hn hr;unfold NC at hn;rw [hr];refine cO (fun _=>hn) (cW ?_);refine gF (cW ?_);rfl
 have hr:nextR s=match signs.find? (xP s) with
  | some p=>.ok ⟨2,p,0,0⟩
  | none=>.error 10:=by unfold nextR;rw [if_neg (by rw [hl];simp),if_neg (by rw [hd];simp)]
 rw [hr];conv=>whnf
 refine .arr _ (signs.map fun s=>AV.str s) _ rfl rfl rfl rfl ZE (cW ?_);refine aX (au _ _) 11 (fun k=>∀ j,j<k→xP s (signs.getD j [])=false) (fun k=>⟨[(0,.str s),(2,.ptr 0 0),(3,.int .i64 0),(43,.agg (signs.map fun s=>AV.str s)),(44,.int .i64 (k:Nat))],[(0,.cells 198 [.int .i64 0,.str [],.int .i64 0,.int .i64 0])],1⟩) mZ ((aj [(0,.id 0)] rfl ⟨ah,aQ,ah,ah,ah,trivial⟩ ⟨aB,trivial⟩)) ?_;intro k hk hP;have hlen:signs.length=11:=rfl;conv=>whnf
 refine ⟨fun hd2=>?_,fun hd2=>?_⟩
 ·have hd2:=of_decide_eq_true hd2;have hlt:k<signs.length:=by omega
  have hek:(k:Int).toNat=k:=Int.toNat_natCast k;have hp:=aag s (signs.getD k []) (by omega);conv=>whnf
  refine iO (cW ?_);have hgk:(signs.map fun s=>AV.str s).getD (k:Int).toNat .undef=.str (signs.getD k []):=by rw [hek];exact Ve signs hlt
  rw [hgk];conv=>whnf
  refine cO (fun _=>hp) (cW ?_);refine ⟨fun hq=>?_,fun hq=>?_⟩
  ·rw [VW (d:=[]) hlt hP hq];conv=>whnf
   rfl
  ·conv=>whnf
   refine iO (cW ?_);refine ⟨k+1,⟨hlt,fun j hj=>(by
    by_cases e:j=k
    ·rw [e];exact hq
    ·exact hP j (by omega))⟩,(by show 11-(k+1)<11-k;omega),(aj [(0,.id 0)] rfl ⟨ah,aQ,ah,ah,ah,trivial⟩ ⟨aB,trivial⟩)⟩
 ·have hd2:=of_decide_eq_false hd2;obtain rfl:k=11:=by omega
  rw [Vg (d:=[]) (fun j hj=>hP j (by omega))];conv=>whnf
  rfl
end Go.Proofs.YtgaallgiaachlaaGreatDoor
