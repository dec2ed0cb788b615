import Derived.Test.YtgaallgiaachlaaGreatDoorProg
import Derived.Test.YtgaallgiaachlaaGreatDoorLc
import Derived.KernelRfl
import Derived.Shelf.Strconv.Itoa3
import Derived.Shelf.Strconv.AtoiAll
import Derived.Shelf.Small.Wraps
import Derived.Shelf.Small.Strs
import Derived.Ground.NamesProg
import Derived.Lib.ItoaLen
namespace Go.Proofs.YtgaallgiaachlaaGreatDoor
open Go.Own
def signs:List (List UInt8):=[[61,61],[59],[44],[61],[60],[43],[45],[42],[47],[40],[41]]
def isErr (cs:Array Value):Prop:=∃ te pe,cs[0]?=some (.iface te pe)
instance:Tabs:=⟨fun g=>match g with
 | 0=>some fun cs=>cs=(signs.map fun s=>Value.string ⟨s.toArray⟩).toArray
 | 2=>some isErr
 | 3=>some isErr
 | 4=>some fun cs=>cs=(Lib.pow10Tab.map fun z=>Value.int .u64 z).toArray
 | _=>none⟩
def tab:Tab:=[
 (3,{ desc:=.int .i64,size:=1,bytes:=8,zero:=.int .i64 0 }),
 (4,{ desc:=.bool,size:=1,bytes:=1,zero:=.bool false }),
 (5,{ desc:=.int .u8,size:=1,bytes:=1,zero:=.int .u8 0 }),
 (9,{ desc:=.string,size:=1,bytes:=16,zero:=.string ⟨#[]⟩ }),
 (20,{ desc:=.interface #[],size:=1,bytes:=16,zero:=.nilIface }),
 (22,{ desc:=.slice 3,size:=1,bytes:=24,zero:=.slice none 0 0 }),
 (23,{ desc:=.slice 47,size:=1,bytes:=24,zero:=.slice none 0 0 }),
 (24,{ desc:=.slice 41,size:=1,bytes:=24,zero:=.slice none 0 0 }),
 (25,{ desc:=.slice 43,size:=1,bytes:=24,zero:=.slice none 0 0 }),
 (26,{ desc:=.slice 64,size:=1,bytes:=24,zero:=.slice none 0 0 }),
 (28, { desc := .struct #[⟨ "Day",3,0,false, "", "",0⟩, ⟨ "Cash",22,1,false, "", "",8⟩, ⟨ "Purses",22,2,false, "", "",32⟩, ⟨ "Outside",3,3,false, "", "",56⟩, ⟨ "Lines",23,4,false, "", "",64⟩, ⟨ "Facts",24,5,false, "", "",88⟩, ⟨ "Payments",25,6,false, "", "",112⟩, ⟨ "Proposals",26,7,false, "", "",136⟩], size := 8, bytes := 160, zero := .agg #[.int .i64 0, .slice none 0 0, .slice none 0 0, .int .i64 0, .slice none 0 0, .slice none 0 0, .slice none 0 0, .slice none 0 0] }),
 (31,{ desc:=.int .i64,size:=1,bytes:=8,zero:=.int .i64 0 }),
 (41, { desc := .struct #[⟨ "Issuer",3,0,false, "", "",0⟩, ⟨ "Name",9,1,false, "", "",8⟩, ⟨ "Period",3,2,false, "", "",24⟩, ⟨ "Value",3,3,false, "", "",32⟩, ⟨ "Day",3,4,false, "", "",40⟩], size := 5, bytes := 48, zero := .agg #[.int .i64 0, .string ⟨#[]⟩, .int .i64 0, .int .i64 0, .int .i64 0] }),
 (43, { desc := .struct #[⟨ "Issue",3,0,false, "", "",0⟩, ⟨ "Seat",3,1,false, "", "",8⟩, ⟨ "Day",3,2,false, "", "",16⟩, ⟨ "Due",3,3,false, "", "",24⟩, ⟨ "Paid",3,4,false, "", "",32⟩, ⟨ "Period",3,5,false, "", "",40⟩], size := 6, bytes := 48, zero := .agg #[.int .i64 0, .int .i64 0, .int .i64 0, .int .i64 0, .int .i64 0, .int .i64 0] }),
 (45,{ desc:=.slice 61,size:=1,bytes:=24,zero:=.slice none 0 0 }),
 (47, { desc := .struct #[⟨ "Text",9,0,false, "", "",0⟩, ⟨ "Units",22,1,false, "", "",16⟩, ⟨ "Noted",22,2,false, "", "",40⟩, ⟨ "NotedAt",3,3,false, "", "",64⟩, ⟨ "Stages",45,4,false, "", "",72⟩, ⟨ "Fast",3,5,false, "", "",96⟩, ⟨ "Called",3,6,false, "", "",104⟩, ⟨ "Price",3,7,false, "", "",112⟩, ⟨ "Ended",4,8,false, "", "",120⟩, ⟨ "Since",3,9,false, "", "",128⟩], size := 10, bytes := 136, zero := .agg #[.string ⟨#[]⟩, .slice none 0 0, .slice none 0 0, .int .i64 0, .slice none 0 0, .int .i64 0, .int .i64 0, .int .i64 0, .bool false, .int .i64 0] }),
 (48,{ desc:=.slice 223,size:=1,bytes:=24,zero:=.slice none 0 0 }),
 (49,{ desc:=.slice 51,size:=1,bytes:=24,zero:=.slice none 0 0 }),
 (51, { desc := .struct #[⟨ "Op",3,0,false, "", "",0⟩, ⟨ "N",3,1,false, "", "",8⟩, ⟨ "Unit",3,2,false, "", "",16⟩, ⟨ "S",9,3,false, "", "",24⟩, ⟨ "Args",49,4,false, "", "",40⟩], size := 5, bytes := 64, zero := .agg #[.int .i64 0, .int .i64 0, .int .i64 0, .string ⟨#[]⟩, .slice none 0 0] }),
 (52,{ desc:=.slice 227,size:=1,bytes:=24,zero:=.slice none 0 0 }),
 (53,{ desc:=.slice 9,size:=1,bytes:=24,zero:=.slice none 0 0 }),
 (54,{ desc:=.slice 229,size:=1,bytes:=24,zero:=.slice none 0 0 }),
 (56, { desc := .struct #[⟨ "Name",9,0,false, "", "",0⟩, ⟨ "Issuer",9,1,false, "", "",16⟩, ⟨ "Face",3,2,false, "", "",32⟩, ⟨ "From",3,3,false, "", "",40⟩, ⟨ "To",3,4,false, "", "",48⟩, ⟨ "Every",3,5,false, "", "",56⟩, ⟨ "Count",3,6,false, "", "",64⟩, ⟨ "Adjust",3,7,false, "", "",72⟩, ⟨ "Record",3,8,false, "", "",80⟩, ⟨ "Rank",3,9,false, "", "",88⟩, ⟨ "Lets",48,10,false, "", "",96⟩, ⟨ "Coupon",51,11,false, "", "",120⟩, ⟨ "Cap",3,16,false, "", "",184⟩, ⟨ "Covenants",52,17,false, "", "",192⟩, ⟨ "Favour",53,18,false, "", "",216⟩, ⟨ "Cross",3,19,false, "", "",240⟩, ⟨ "Calls",54,20,false, "", "",248⟩, ⟨ "Notice",3,21,false, "", "",272⟩, ⟨ "Sink",3,22,false, "", "",280⟩, ⟨ "Majority",3,23,false, "", "",288⟩, ⟨ "Fast",3,24,false, "", "",296⟩], size := 25, bytes := 304, zero := .agg #[.string ⟨#[]⟩, .string ⟨#[]⟩, .int .i64 0, .int .i64 0, .int .i64 0, .int .i64 0, .int .i64 0, .int .i64 0, .int .i64 0, .int .i64 0, .slice none 0 0, .int .i64 0, .int .i64 0, .int .i64 0, .string ⟨#[]⟩, .slice none 0 0, .int .i64 0, .slice none 0 0, .slice none 0 0, .int .i64 0, .slice none 0 0, .int .i64 0, .int .i64 0, .int .i64 0, .int .i64 0] }),
 (61, { desc := .struct #[⟨ "Stage",3,0,false, "", "",0⟩, ⟨ "Since",3,1,false, "", "",8⟩], size := 2, bytes := 16, zero := .agg #[.int .i64 0, .int .i64 0] }),
 (62,{ desc:=.slice 66,size:=1,bytes:=24,zero:=.slice none 0 0 }),
 (64, { desc := .struct #[⟨ "Issue",3,0,false, "", "",0⟩, ⟨ "Text",9,1,false, "", "",8⟩, ⟨ "Day",3,2,false, "", "",24⟩, ⟨ "Units",22,3,false, "", "",32⟩, ⟨ "Votes",62,4,false, "", "",56⟩, ⟨ "Closed",4,5,false, "", "",80⟩], size := 6, bytes := 88, zero := .agg #[.int .i64 0, .string ⟨#[]⟩, .int .i64 0, .slice none 0 0, .slice none 0 0, .bool false] }),
 (66, { desc := .struct #[⟨ "Seat",3,0,false, "", "",0⟩, ⟨ "Day",3,1,false, "", "",8⟩, ⟨ "Yes",4,2,false, "", "",16⟩], size := 3, bytes := 24, zero := .agg #[.int .i64 0, .int .i64 0, .bool false] }),
 (69,{ desc:=.pointer 155,size:=1,bytes:=8,zero:=.pointer none }),
 (84,{ desc:=.pointer 164,size:=1,bytes:=8,zero:=.pointer none }),
 (95,{ desc:=.func #[3] #[4] false,size:=1,bytes:=8,zero:=.nilFunc }),
 (96,{ desc:=.func #[22] #[4] false,size:=1,bytes:=8,zero:=.nilFunc }),
 (99,{ desc:=.func #[61] #[4] false,size:=1,bytes:=8,zero:=.nilFunc }),
 (101,{ desc:=.func #[47] #[4] false,size:=1,bytes:=8,zero:=.nilFunc }),
 (102,{ desc:=.func #[43] #[4] false,size:=1,bytes:=8,zero:=.nilFunc }),
 (103,{ desc:=.func #[66] #[4] false,size:=1,bytes:=8,zero:=.nilFunc }),
 (105,{ desc:=.func #[64] #[4] false,size:=1,bytes:=8,zero:=.nilFunc }),
 (142,{ desc:=.pointer 47,size:=1,bytes:=8,zero:=.pointer none }),
 (144,{ desc:=.pointer 64,size:=1,bytes:=8,zero:=.pointer none }),
 (147,{ desc:=.pointer 183,size:=1,bytes:=8,zero:=.pointer none }),
 (151,{ desc:=.pointer 3,size:=1,bytes:=8,zero:=.pointer none }),
 (152,{ desc:=.pointer 31,size:=1,bytes:=8,zero:=.pointer none }),
 (155, { desc := .struct #[⟨ "rest",9,0,false, "", "consol/wire",0⟩, ⟨ "bad",4,1,false, "", "consol/wire",16⟩], size := 2, bytes := 24, zero := .agg #[.string ⟨#[]⟩, .bool false] }),
 (164, { desc := .struct #[⟨ "Rest",9,0,false, "", "",0⟩, ⟨ "Bad",4,1,false, "", "",16⟩], size := 2, bytes := 24, zero := .agg #[.string ⟨#[]⟩, .bool false] }),
 (168,{ desc:=.slice 22,size:=1,bytes:=24,zero:=.slice none 0 0 }),
 (170,{ desc:=.pointer 173,size:=1,bytes:=8,zero:=.pointer none }),
 (171,{ desc:=.slice 5,size:=1,bytes:=24,zero:=.slice none 0 0 }),
 (173, { desc := .struct #[⟨ "addr",170,0,false, "", "strings",0⟩, ⟨ "buf",171,1,false, "", "strings",8⟩], size := 2, bytes := 32, zero := .agg #[.pointer none, .slice none 0 0] }),
 (175, { desc := .interface #[("Error", 77)], size := 1, bytes := 16, zero := .nilIface }),
 (179,{ desc:=.slice 198,size:=1,bytes:=24,zero:=.slice none 0 0 }),
 (183, { desc := .struct #[⟨ "l",179,0,false, "", "consol/syntax",0⟩, ⟨ "at",3,1,false, "", "consol/syntax",24⟩], size := 2, bytes := 32, zero := .agg #[.slice none 0 0, .int .i64 0] }),
 (185, { desc := .struct #[⟨ "pos",3,0,false, "", "consol/syntax",0⟩, ⟨ "err",31,1,false, "", "consol/syntax",8⟩], size := 2, bytes := 16, zero := .agg #[.int .i64 0, .int .i64 0] }),
 (194,{ desc:=.pointer 56,size:=1,bytes:=8,zero:=.pointer none }),
 (198, { desc := .struct #[⟨ "Kind",3,0,false, "", "",0⟩, ⟨ "Text",9,1,false, "", "",8⟩, ⟨ "N",3,2,false, "", "",24⟩, ⟨ "Pos",3,3,false, "", "",32⟩], size := 4, bytes := 40, zero := .agg #[.int .i64 0, .string ⟨#[]⟩, .int .i64 0, .int .i64 0] }),
 (210,{ desc:=.pointer 212,size:=1,bytes:=8,zero:=.pointer none }),
 (212, { desc := .struct #[⟨ "l",179,0,false, "", "consol/consolref12",0⟩, ⟨ "at",3,1,false, "", "consol/consolref12",24⟩, ⟨ "err",31,2,false, "", "consol/consolref12",32⟩, ⟨ "pos",3,3,false, "", "consol/consolref12",40⟩], size := 4, bytes := 48, zero := .agg #[.slice none 0 0, .int .i64 0, .int .i64 0, .int .i64 0] }),
 (213,{ desc:=.pointer 5,size:=1,bytes:=8,zero:=.pointer none }),
 (223, { desc := .struct #[⟨ "Name",9,0,false, "", "",0⟩, ⟨ "Body",51,1,false, "", "",16⟩], size := 6, bytes := 80, zero := .agg #[.string ⟨#[]⟩, .int .i64 0, .int .i64 0, .int .i64 0, .string ⟨#[]⟩, .slice none 0 0] }),
 (227, { desc := .struct #[⟨ "Name",9,0,false, "", "",0⟩, ⟨ "Must",51,1,false, "", "",16⟩, ⟨ "Grace",3,6,false, "", "",80⟩], size := 7, bytes := 88, zero := .agg #[.string ⟨#[]⟩, .int .i64 0, .int .i64 0, .int .i64 0, .string ⟨#[]⟩, .slice none 0 0, .int .i64 0] }),
 (229, { desc := .struct #[⟨ "From",3,0,false, "", "",0⟩, ⟨ "Price",3,1,false, "", "",8⟩], size := 2, bytes := 16, zero := .agg #[.int .i64 0, .int .i64 0] }),
 (241,{ desc:=.array 11 9,size:=11,bytes:=176,zero:=.agg #[.string ⟨#[]⟩,.string ⟨#[]⟩,.string ⟨#[]⟩,.string ⟨#[]⟩,.string ⟨#[]⟩,.string ⟨#[]⟩,.string ⟨#[]⟩,.string ⟨#[]⟩,.string ⟨#[]⟩,.string ⟨#[]⟩,.string ⟨#[]⟩] }),
 (246,{ desc:=.slice 248,size:=1,bytes:=24,zero:=.slice none 0 0 }),
 (248, { desc := .struct #[⟨ "text",9,0,false, "", "consol/syntax",0⟩, ⟨ "op",3,1,false, "", "consol/syntax",16⟩, ⟨ "form",3,2,false, "", "consol/syntax",24⟩], size := 3, bytes := 32, zero := .agg #[.string ⟨#[]⟩, .int .i64 0, .int .i64 0] })]
theorem tabOk:TabOk Tryz.prog tab:=tabOk_of ⟨by kernel_rfl,by kernel_rfl,by kernel_rfl,by kernel_rfl,by kernel_rfl,by kernel_rfl,by kernel_rfl,by kernel_rfl,by kernel_rfl,by kernel_rfl,by kernel_rfl,by kernel_rfl,by kernel_rfl,by kernel_rfl,by kernel_rfl,by kernel_rfl,by kernel_rfl,by kernel_rfl,by kernel_rfl,by kernel_rfl,by kernel_rfl,by kernel_rfl,by kernel_rfl,by kernel_rfl,by kernel_rfl,by kernel_rfl,by kernel_rfl,by kernel_rfl,by kernel_rfl,by kernel_rfl,by kernel_rfl,by kernel_rfl,by kernel_rfl,by kernel_rfl,by kernel_rfl,by kernel_rfl,by kernel_rfl,by kernel_rfl,by kernel_rfl,by kernel_rfl,by kernel_rfl,by kernel_rfl,by kernel_rfl,by kernel_rfl,by kernel_rfl,by kernel_rfl,by kernel_rfl,by kernel_rfl,by kernel_rfl,by kernel_rfl,by kernel_rfl,by kernel_rfl,by kernel_rfl,by kernel_rfl,by kernel_rfl,by kernel_rfl,by kernel_rfl,by kernel_rfl,by kernel_rfl,by kernel_rfl,by kernel_rfl,by kernel_rfl,trivial⟩
theorem mixed:Tryz.prog.follows .mixedOrders=true:=by kernel_rfl
noncomputable abbrev cx (N:Nat) (keep:List Nat):Cx:=⟨Tryz.prog,tab,N,keep,0,false,fun _=>False⟩
theorem cxOk (N:Nat) (keep:List Nat):CxOk (cx N keep):=⟨tabOk,mixed⟩
noncomputable abbrev cxP (pn N:Nat) (keep:List Nat):Cx:=⟨Tryz.prog,tab,N,keep,pn,false,fun _=>False⟩
theorem cxPOk (pn N:Nat) (keep:List Nat):CxOk (cxP pn N keep):=⟨tabOk,mixed⟩
noncomputable abbrev cxX (px:List PanicEntry→Prop) (pn N:Nat) (keep:List Nat):Cx:=⟨Tryz.prog,tab,N,keep,pn,false,px⟩
theorem cxXOk (px:List PanicEntry→Prop) (pn N:Nat) (keep:List Nat):CxOk (cxX px pn N keep):=⟨tabOk,mixed⟩
inductive Exp where
 | mk (op n unit:Int) (s:List UInt8) (args:List Exp)
def Exp.op:Exp→Int | .mk a _ _ _ _=>a
def Exp.n:Exp→Int | .mk _ a _ _ _=>a
def Exp.unit:Exp→Int | .mk _ _ a _ _=>a
def Exp.s:Exp→List UInt8 | .mk _ _ _ a _=>a
def Exp.args:Exp→List Exp | .mk _ _ _ _ a=>a
mutual
def encT:Exp→AV
 | .mk op n unit s args=>.agg [.int .i64 op,.int .i64 n,.int .i64 unit,.str s,.lsl 5 (encTs args)]
def encTs:List Exp→List AV
 | []=>[]
 | e::l=>encT e::encTs l
end
def argsE (e:Exp):List AV:=encTs e.args
def encE (e:Exp):AV:=.agg [.int .i64 e.op,.int .i64 e.n,.int .i64 e.unit,.str e.s,.lsl 5 (argsE e)]
theorem encT_eq (e:Exp):encT e=encE e:=by
 cases e
 rw [encT]
 rfl
theorem encTs_eq:∀ l:List Exp,encTs l=l.map encE
 | []=>by rw [encTs];rfl
 | e::l=>by rw [encTs,encT_eq,encTs_eq l];rfl
theorem argsE_eq (e:Exp):argsE e=e.args.map encE:=encTs_eq e.args
theorem argsE_len (e:Exp):(argsE e).length=e.args.length:=by rw [argsE_eq,List.length_map]
def ex0:Exp:=.mk 0 0 0 [] []
instance:Inhabited Exp:=⟨ex0⟩
theorem argsE_get (e:Exp) {k:Nat} (h:k<e.args.length):(argsE e).getD k .undef=encE (e.args.getD k ex0):=by
 rw [argsE_eq,List.getD_eq_getElem?_getD,List.getD_eq_getElem?_getD,List.getElem?_map,List.getElem?_eq_getElem h]
 rfl
def encI (n:Int):AV:=.int .i64 n
def encS (s:List UInt8):AV:=.str s
structure LetE where
 name:List UInt8
 body:Exp
def l0:LetE:=⟨[],ex0⟩
instance:Inhabited LetE:=⟨l0⟩
def encL (x:LetE):AV:=.agg [.str x.name,.int .i64 x.body.op,.int .i64 x.body.n,.int .i64 x.body.unit,.str x.body.s,.lsl 5 (argsE x.body)]
structure Cov where
 name:List UInt8
 must:Exp
 grace:Int
def c0:Cov:=⟨[],ex0,0⟩
instance:Inhabited Cov:=⟨c0⟩
def encC (x:Cov):AV:=.agg [.str x.name,.int .i64 x.must.op,.int .i64 x.must.n,.int .i64 x.must.unit,.str x.must.s,.lsl 5 (argsE x.must),.int .i64 x.grace]
structure CallE where
 a:Int
 b:Int
def k0:CallE:=⟨0,0⟩
instance:Inhabited CallE:=⟨k0⟩
def encK (x:CallE):AV:=.agg [.int .i64 x.a,.int .i64 x.b]
structure Ind where
 name:List UInt8
 issuer:List UInt8
 face:Int
 frm:Int
 to:Int
 every:Int
 count:Int
 adjust:Int
 record:Int
 rank:Int
 lets:List LetE
 coupon:Exp
 cap:Int
 cov:List Cov
 favour:List (List UInt8)
 cross:Int
 calls:List CallE
 notice:Int
 sink:Int
 majority:Int
 fast:Int
def i0:Ind:=⟨[],[],0,0,0,0,0,0,0,0,[],ex0,0,[],[],0,[],0,0,0,0⟩
instance:Inhabited Ind:=⟨i0⟩
def celX (x:Ind):List AV:=[.str x.name,.str x.issuer,.int .i64 x.face,.int .i64 x.frm,.int .i64 x.to,.int .i64 x.every,.int .i64 x.count,.int .i64 x.adjust,.int .i64 x.record,.int .i64 x.rank,
 .sl 6 encL l0 x.lets,.int .i64 x.coupon.op,.int .i64 x.coupon.n,.int .i64 x.coupon.unit,.str x.coupon.s,.lsl 5 (argsE x.coupon),.int .i64 x.cap,.sl 7 encC c0 x.cov,.sl 1 encS [] x.favour,.int .i64 x.cross,.sl 2 encK k0 x.calls,
 .int .i64 x.notice,.int .i64 x.sink,.int .i64 x.majority,.int .i64 x.fast]
def encX (x:Ind):AV:=.agg [.str x.name,.str x.issuer,.int .i64 x.face,.int .i64 x.frm,.int .i64 x.to,.int .i64 x.every,.int .i64 x.count,.int .i64 x.adjust,.int .i64 x.record,.int .i64 x.rank,
 .sl 6 encL l0 x.lets,.int .i64 x.coupon.op,.int .i64 x.coupon.n,.int .i64 x.coupon.unit,.str x.coupon.s,.lsl 5 (argsE x.coupon),.int .i64 x.cap,.sl 7 encC c0 x.cov,.sl 1 encS [] x.favour,.int .i64 x.cross,.sl 2 encK k0 x.calls,
 .int .i64 x.notice,.int .i64 x.sink,.int .i64 x.majority,.int .i64 x.fast]
structure Tok where
 kind:Int
 text:List UInt8
 n:Int
 pos:Int
deriving DecidableEq
def t0:Tok:=⟨0,[],0,0⟩
instance:Inhabited Tok:=⟨t0⟩
def encTk (t:Tok):AV:=.agg [.int .i64 t.kind,.str t.text,.int .i64 t.n,.int .i64 t.pos]
def encTks (l:List Tok):AV:=.sl 4 encTk t0 l
structure Opr where
 text:List UInt8
 op:Int
 form:Int
deriving DecidableEq
def o0:Opr:=⟨[],0,0⟩
instance:Inhabited Opr:=⟨o0⟩
def encO (o:Opr):AV:=.agg [.str o.text,.int .i64 o.op,.int .i64 o.form]
open Go.Shelf
def Tryz.itoaB_ren:Go.Shelf.Ren:=⟨fun | 171=>152 | 243=>189 | 246=>229 | 283=>261 | 284=>262 | 285=>263 | 286=>264 | 129=>275 | 317=>274 | 318=>276 | 319=>277 | 320=>278 | 337=>285 | 338=>286 | n=>n,fun | 3=>3 | 9=>9 | 2=>2 | 4=>4 | 171=>258 | 0=>0 | 53=>259 | 37=>171 | 5=>5 | 173=>262 | 212=>273 | 51=>274 | 20=>20 | 213=>275 | 46=>267 | 232=>282 | 233=>283 | n=>n,fun | 17=>4 | 18=>5 | 19=>6 | n=>n⟩
theorem zp9 {p:Prop} (h:p:=by kernel_rfl):p:=h
theorem Tryz.itoaB:Go.Proofs.LaysM.n171 Tryz.prog Tryz.itoaB_ren:={
 mixed:=by kernel_rfl
 f129:=Tryz.func275.trans (congrArg some zp9)
 f171:=Tryz.func152.trans (congrArg some zp9)
 f243:=Tryz.func189.trans (congrArg some zp9)
 f246:=Tryz.func229.trans (congrArg some zp9)
 f283:=Tryz.func261.trans (congrArg some zp9)
 f284:=Tryz.func262.trans (congrArg some zp9)
 f285:=Tryz.func263.trans (congrArg some zp9)
 f286:=Tryz.func264.trans (congrArg some zp9)
 f317:=Tryz.func274.trans (congrArg some zp9)
 f318:=Tryz.func276.trans (congrArg some zp9)
 f319:=Tryz.func277.trans (congrArg some zp9)
 f320:=Tryz.func278.trans (congrArg some zp9)
 f337:=Tryz.func285.trans (congrArg some zp9)
 f338:=Tryz.func286.trans (congrArg some zp9)
 t0:=Tryz.underlying0
 a0:=Tryz.isAgg0
 z0:=Tryz.sizeOf0
 v0:=Tryz.zeroValue0
 t2:=Tryz.underlying2
 a2:=Tryz.isAgg2
 z2:=Tryz.sizeOf2
 v2:=Tryz.zeroValue2
 t3:=Tryz.underlying3
 a3:=Tryz.isAgg3
 z3:=Tryz.sizeOf3
 v3:=Tryz.zeroValue3
 t4:=Tryz.underlying4
 a4:=Tryz.isAgg4
 z4:=Tryz.sizeOf4
 v4:=Tryz.zeroValue4
 t5:=Tryz.underlying5
 a5:=Tryz.isAgg5
 z5:=Tryz.sizeOf5
 v5:=Tryz.zeroValue5
 t9:=Tryz.underlying9
 a9:=Tryz.isAgg9
 z9:=Tryz.sizeOf9
 v9:=Tryz.zeroValue9
 t20:=Tryz.underlying20
 a20:=Tryz.isAgg20
 z20:=Tryz.sizeOf20
 v20:=Tryz.zeroValue20
 t37:=Tryz.underlying171
 a37:=Tryz.isAgg171
 z37:=Tryz.sizeOf171
 v37:=Tryz.zeroValue171
 t46:=Tryz.underlying267
 a46:=Tryz.isAgg267
 z46:=Tryz.sizeOf267
 v46:=Tryz.zeroValue267
 t51:=Tryz.underlying274
 a51:=Tryz.isAgg274
 z51:=Tryz.sizeOf274
 v51:=Tryz.zeroValue274
 t53:=Tryz.underlying259
 a53:=Tryz.isAgg259
 z53:=Tryz.sizeOf259
 v53:=Tryz.zeroValue259
 t171:=Tryz.underlying258
 a171:=Tryz.isAgg258
 z171:=Tryz.sizeOf258
 v171:=Tryz.zeroValue258
 t173:=Tryz.underlying262
 a173:=Tryz.isAgg262
 z173:=Tryz.sizeOf262
 v173:=Tryz.zeroValue262
 t212:=Tryz.underlying273
 a212:=Tryz.isAgg273
 z212:=Tryz.sizeOf273
 v212:=Tryz.zeroValue273
 t213:=Tryz.underlying275
 a213:=Tryz.isAgg275
 z213:=Tryz.sizeOf275
 t232:=Tryz.underlying282
 a232:=Tryz.isAgg282
 z232:=Tryz.sizeOf282
 v232:=Tryz.zeroValue282
 t233:=Tryz.underlying283
 a233:=Tryz.isAgg283
 z233:=Tryz.sizeOf283
 v233:=Tryz.zeroValue283
 g17:=by kernel_rfl
 g18:=by kernel_rfl
 g19:=by kernel_rfl
 i0:=by kernel_rfl
 i2:=by kernel_rfl
 i3:=by kernel_rfl
 i4:=by kernel_rfl
 i5:=by kernel_rfl
 i9:=by kernel_rfl
 i20:=by kernel_rfl
 i37:=by kernel_rfl
 i46:=by kernel_rfl
 i51:=by kernel_rfl
 i53:=by kernel_rfl
 i171:=by kernel_rfl
 i173:=by kernel_rfl
 i212:=by kernel_rfl
 i232:=by kernel_rfl
 i233:=by kernel_rfl
 m17:=by kernel_rfl
 m18:=by kernel_rfl
 m19:=by kernel_rfl }
def Tryz.atoiA_ren:Go.Shelf.Ren:=⟨fun | 172=>175 | 244=>205 | 245=>206 | 247=>245 | 279=>246 | 280=>247 | 281=>248 | 282=>249 | 287=>267 | 316=>268 | 171=>152 | 205=>269 | 321=>281 | 322=>282 | 243=>189 | 246=>229 | 283=>261 | 284=>262 | 285=>263 | 286=>264 | 129=>275 | 317=>274 | 318=>276 | 319=>277 | 320=>278 | 337=>285 | 338=>286 | n=>n,fun | 9=>9 | 3=>3 | 75=>175 | 76=>176 | 4=>4 | 5=>5 | 167=>251 | 37=>171 | 0=>0 | 85=>252 | 2=>2 | 168=>254 | 53=>259 | 175=>265 | 46=>267 | 210=>269 | 127=>213 | 145=>280 | 143=>278 | 21=>21 | 171=>258 | 173=>262 | 212=>273 | 51=>274 | 20=>20 | 213=>275 | 232=>282 | 233=>283 | 80=>77 | n=>n,fun | 15=>2 | 16=>3 | 17=>4 | 18=>5 | 19=>6 | n=>n⟩
theorem Tryz.atoiA:Go.Proofs.LaysC.n172 Tryz.prog Tryz.atoiA_ren:={
 mixed:=by kernel_rfl
 f129:=Tryz.func275.trans (congrArg some zp9)
 f171:=Tryz.func152.trans (congrArg some zp9)
 f172:=Tryz.func175.trans (congrArg some zp9)
 f205:=Tryz.func269.trans (congrArg some zp9)
 f243:=Tryz.func189.trans (congrArg some zp9)
 f244:=Tryz.func205.trans (congrArg some zp9)
 f245:=Tryz.func206.trans (congrArg some zp9)
 f246:=Tryz.func229.trans (congrArg some zp9)
 f247:=Tryz.func245.trans (congrArg some zp9)
 f279:=Tryz.func246.trans (congrArg some zp9)
 f280:=Tryz.func247.trans (congrArg some zp9)
 f281:=Tryz.func248.trans (congrArg some zp9)
 f282:=Tryz.func249.trans (congrArg some zp9)
 f283:=Tryz.func261.trans (congrArg some zp9)
 f284:=Tryz.func262.trans (congrArg some zp9)
 f285:=Tryz.func263.trans (congrArg some zp9)
 f286:=Tryz.func264.trans (congrArg some zp9)
 f287:=Tryz.func267.trans (congrArg some zp9)
 f316:=Tryz.func268.trans (congrArg some zp9)
 f317:=Tryz.func274.trans (congrArg some zp9)
 f318:=Tryz.func276.trans (congrArg some zp9)
 f319:=Tryz.func277.trans (congrArg some zp9)
 f320:=Tryz.func278.trans (congrArg some zp9)
 f321:=Tryz.func281.trans (congrArg some zp9)
 f322:=Tryz.func282.trans (congrArg some zp9)
 f337:=Tryz.func285.trans (congrArg some zp9)
 f338:=Tryz.func286.trans (congrArg some zp9)
 t0:=Tryz.underlying0
 a0:=Tryz.isAgg0
 z0:=Tryz.sizeOf0
 v0:=Tryz.zeroValue0
 t2:=Tryz.underlying2
 a2:=Tryz.isAgg2
 z2:=Tryz.sizeOf2
 v2:=Tryz.zeroValue2
 t3:=Tryz.underlying3
 a3:=Tryz.isAgg3
 z3:=Tryz.sizeOf3
 v3:=Tryz.zeroValue3
 t4:=Tryz.underlying4
 a4:=Tryz.isAgg4
 z4:=Tryz.sizeOf4
 v4:=Tryz.zeroValue4
 t5:=Tryz.underlying5
 a5:=Tryz.isAgg5
 z5:=Tryz.sizeOf5
 v5:=Tryz.zeroValue5
 t9:=Tryz.underlying9
 a9:=Tryz.isAgg9
 z9:=Tryz.sizeOf9
 v9:=Tryz.zeroValue9
 t20:=Tryz.underlying20
 a20:=Tryz.isAgg20
 z20:=Tryz.sizeOf20
 v20:=Tryz.zeroValue20
 t21:=Tryz.underlying21
 a21:=Tryz.isAgg21
 z21:=Tryz.sizeOf21
 v21:=Tryz.zeroValue21
 t37:=Tryz.underlying171
 a37:=Tryz.isAgg171
 z37:=Tryz.sizeOf171
 v37:=Tryz.zeroValue171
 t46:=Tryz.underlying267
 a46:=Tryz.isAgg267
 z46:=Tryz.sizeOf267
 v46:=Tryz.zeroValue267
 t51:=Tryz.underlying274
 a51:=Tryz.isAgg274
 z51:=Tryz.sizeOf274
 v51:=Tryz.zeroValue274
 t53:=Tryz.underlying259
 a53:=Tryz.isAgg259
 z53:=Tryz.sizeOf259
 v53:=Tryz.zeroValue259
 t75:=Tryz.underlying175
 a75:=Tryz.isAgg175
 z75:=Tryz.sizeOf175
 v75:=Tryz.zeroValue175
 t76:=Tryz.underlying176
 a76:=Tryz.isAgg176
 z76:=Tryz.sizeOf176
 v76:=Tryz.zeroValue176
 t85:=Tryz.underlying252
 a85:=Tryz.isAgg252
 z85:=Tryz.sizeOf252
 v85:=Tryz.zeroValue252
 t127:=Tryz.underlying213
 a127:=Tryz.isAgg213
 z127:=Tryz.sizeOf213
 v127:=Tryz.zeroValue213
 t143:=Tryz.underlying278
 a143:=Tryz.isAgg278
 z143:=Tryz.sizeOf278
 v143:=Tryz.zeroValue278
 t145:=Tryz.underlying280
 a145:=Tryz.isAgg280
 z145:=Tryz.sizeOf280
 v145:=Tryz.zeroValue280
 t167:=Tryz.underlying251
 a167:=Tryz.isAgg251
 z167:=Tryz.sizeOf251
 v167:=Tryz.zeroValue251
 t168:=Tryz.underlying254
 a168:=Tryz.isAgg254
 z168:=Tryz.sizeOf254
 v168:=Tryz.zeroValue254
 t171:=Tryz.underlying258
 a171:=Tryz.isAgg258
 z171:=Tryz.sizeOf258
 v171:=Tryz.zeroValue258
 t173:=Tryz.underlying262
 a173:=Tryz.isAgg262
 z173:=Tryz.sizeOf262
 v173:=Tryz.zeroValue262
 t175:=Tryz.underlying265
 a175:=Tryz.isAgg265
 z175:=Tryz.sizeOf265
 v175:=Tryz.zeroValue265
 t210:=Tryz.underlying269
 a210:=Tryz.isAgg269
 z210:=Tryz.sizeOf269
 v210:=Tryz.zeroValue269
 t212:=Tryz.underlying273
 a212:=Tryz.isAgg273
 z212:=Tryz.sizeOf273
 v212:=Tryz.zeroValue273
 t213:=Tryz.underlying275
 a213:=Tryz.isAgg275
 z213:=Tryz.sizeOf275
 t232:=Tryz.underlying282
 a232:=Tryz.isAgg282
 z232:=Tryz.sizeOf282
 v232:=Tryz.zeroValue282
 t233:=Tryz.underlying283
 a233:=Tryz.isAgg283
 z233:=Tryz.sizeOf283
 v233:=Tryz.zeroValue283
 g15:=by kernel_rfl
 g16:=by kernel_rfl
 g17:=by kernel_rfl
 g18:=by kernel_rfl
 g19:=by kernel_rfl
 t80:=Tryz.underlying77
 a80:=Tryz.isAgg77
 z80:=Tryz.sizeOf77
 v80:=Tryz.zeroValue77
 i0:=by kernel_rfl
 i2:=by kernel_rfl
 i3:=by kernel_rfl
 i4:=by kernel_rfl
 i5:=by kernel_rfl
 i9:=by kernel_rfl
 i20:=by kernel_rfl
 i21:=by kernel_rfl
 i37:=by kernel_rfl
 i46:=by kernel_rfl
 i51:=by kernel_rfl
 i53:=by kernel_rfl
 i75:=by kernel_rfl
 i76:=by kernel_rfl
 i80:=by kernel_rfl
 i85:=by kernel_rfl
 i127:=by kernel_rfl
 i143:=by kernel_rfl
 i145:=by kernel_rfl
 i167:=by kernel_rfl
 i168:=by kernel_rfl
 i171:=by kernel_rfl
 i173:=by kernel_rfl
 i175:=by kernel_rfl
 i210:=by kernel_rfl
 i212:=by kernel_rfl
 i232:=by kernel_rfl
 i233:=by kernel_rfl
 m15:=by kernel_rfl
 m16:=by kernel_rfl
 m17:=by kernel_rfl
 m18:=by kernel_rfl
 m19:=by kernel_rfl
 c0:=by kernel_rfl
 c2:=by kernel_rfl
 c3:=by kernel_rfl
 c4:=by kernel_rfl
 c5:=by kernel_rfl
 c9:=by kernel_rfl
 c20:=by kernel_rfl
 c21:=by kernel_rfl
 c37:=by kernel_rfl
 c46:=by kernel_rfl
 c51:=by kernel_rfl
 c53:=by kernel_rfl
 c75:=by kernel_rfl
 c76:=by kernel_rfl
 c80:=by kernel_rfl
 c85:=by kernel_rfl
 c127:=by kernel_rfl
 c143:=by kernel_rfl
 c145:=by kernel_rfl
 c167:=by kernel_rfl
 c168:=by kernel_rfl
 c171:=by kernel_rfl
 c173:=by kernel_rfl
 c175:=by kernel_rfl
 c210:=by kernel_rfl
 c212:=by kernel_rfl
 c213:=by kernel_rfl
 c232:=by kernel_rfl
 c233:=by kernel_rfl }
def Tryz.indexA_ren:Go.Shelf.Ren:=⟨fun | 137=>174 | 217=>204 | 266=>244 | n=>n,fun | 9=>9 | 5=>5 | 3=>3 | n=>n,fun | n=>n⟩
theorem Tryz.indexA:Go.Proofs.Lays.n137 Tryz.prog Tryz.indexA_ren:={
 mixed:=by kernel_rfl
 f137:=Tryz.func174.trans (congrArg some zp9)
 f217:=Tryz.func204.trans (congrArg some zp9)
 f266:=Tryz.func244.trans (congrArg some zp9)
 t3:=Tryz.underlying3
 a3:=Tryz.isAgg3
 z3:=Tryz.sizeOf3
 v3:=Tryz.zeroValue3
 t5:=Tryz.underlying5
 a5:=Tryz.isAgg5
 z5:=Tryz.sizeOf5
 v5:=Tryz.zeroValue5
 t9:=Tryz.underlying9
 a9:=Tryz.isAgg9
 z9:=Tryz.sizeOf9
 v9:=Tryz.zeroValue9 }
def Tryz.cutA_ren:Go.Shelf.Ren:=⟨fun | 103=>177 | 210=>207 | 206=>250 | n=>n,fun | 9=>9 | 4=>4 | 24=>201 | 3=>3 | n=>n,fun | n=>n⟩
theorem Tryz.cutA:Go.Proofs.Lays.n103 Tryz.prog Tryz.cutA_ren:={
 mixed:=by kernel_rfl
 f103:=Tryz.func177.trans (congrArg some zp9)
 f206:=Tryz.func250.trans (congrArg some zp9)
 f210:=Tryz.func207.trans (congrArg some zp9)
 t3:=Tryz.underlying3
 a3:=Tryz.isAgg3
 z3:=Tryz.sizeOf3
 v3:=Tryz.zeroValue3
 t4:=Tryz.underlying4
 a4:=Tryz.isAgg4
 z4:=Tryz.sizeOf4
 v4:=Tryz.zeroValue4
 t9:=Tryz.underlying9
 a9:=Tryz.isAgg9
 z9:=Tryz.sizeOf9
 v9:=Tryz.zeroValue9
 t24:=Tryz.underlying201
 a24:=Tryz.isAgg201
 z24:=Tryz.sizeOf201
 v24:=Tryz.zeroValue201 }
set_option maxHeartbeats 4000000
set_option maxRecDepth 100000
theorem tab_pow (S : Blocks) (w : World) (h : TabAt S w) : Lib.TabIs Tryz.prog w "internal/strconv.uint64pow10" .u64 Lib.pow10Tab := by
 obtain ⟨_,cs,e,fz,h1,h2⟩:=h 4 _ rfl
 have hg : Tryz.prog.globalNamed "internal/strconv.uint64pow10" = some 4 := by kernel_rfl
 have h2':cs=(Lib.pow10Tab.map fun z=>Value.int .u64 z).toArray:=h2
 unfold Lib.TabIs World.var?
 rw [hg]
 show (match w.heap[4]? with | some (.cells cs _ _)=>some cs | _=>none)=_
 rw [h1,h2']
theorem itoa_c (n:Int) (h0:-9223372036854775808≤n) (h1:n≤9223372036854775807):APureV Tryz.prog 152 [.int .i64 n] (.str (Lib.itoa n)) :=
 itoa_ok Tryz.itoaB ⟨_,Tryz.func152,rfl,by decide⟩ tab_pow n h0 h1
def letB (c:Int):Bool:=decide (97≤c)&&decide (c≤122)
def digB (c:Int):Bool:=decide (48≤c)&&decide (c≤57)
def blkB (c:Int):Bool:=decide (c=32)||decide (c=9)||decide (c=10)
theorem letter_ok (c:Int):APureV Tryz.prog 230 [.int .u8 c] (.bool (letB c)):=by
 refine aO (cxOk 9 [0,2]) Tryz.func230 ?_
 conv=>whnf
 rfl
theorem digit_ok (c:Int):APureV Tryz.prog 232 [.int .u8 c] (.bool (digB c)):=by
 refine aO (cxOk 9 [0,2]) Tryz.func232 ?_
 conv=>whnf
 rfl
theorem blank_ok (c:Int):APureV Tryz.prog 194 [.int .u8 c] (.bool (blkB c)):=by
 refine aO (cxOk 13 [0,2]) Tryz.func194 ?_
 conv=>whnf
 rfl
theorem zt123 {p:Prop}(h:p:=by
 conv=>whnf
 refine cO (fun _=>h2) (cW ?_)
 rfl):p:=h
theorem wordc_ok (c:Int):APureV Tryz.prog 231 [.int .u8 c] (.bool (letB c||digB c)):=by
 have h1:=letter_ok c
 have h2:=digit_ok c
 refine aO (cxOk 9 [0,2]) Tryz.func231 ?_
 conv=>whnf
 refine cO (fun _=>h1) ?_
 exact zt123
theorem wordd_ok (c:Int):APureV Tryz.prog 234 [.int .u8 c] (.bool (letB c||digB c)):=by
 have h1:=letter_ok c
 have h2:=digit_ok c
 refine aO (cxOk 9 [0,2]) Tryz.func234 ?_
 conv=>whnf
 refine cO (fun _=>h1) ?_
 exact zt123
def spanN (p:Int→Bool) (s:List UInt8):Nat:=(s.takeWhile fun b=>p (b.toNat:Int)).length
theorem spanN_le (p:Int→Bool) (s:List UInt8):spanN p s≤s.length:=(List.takeWhile_sublist _).length_le
theorem spanN_lt {p:Int→Bool} {s:List UInt8} {k:Nat} (h:k<spanN p s):p ((s.getD k 0).toNat:Int)=true:=by
 have hk:k<s.length:=Nat.lt_of_lt_of_le h (spanN_le p s)
 have h2:(s.takeWhile fun b=>p (b.toNat:Int))[k]=s[k]:=(List.takeWhile_prefix _).getElem h
 have h3:(s.takeWhile fun b=>p (b.toNat:Int))[k]∈s.takeWhile fun b=>p (b.toNat:Int):=List.getElem_mem h
 have h4:=(List.all_eq_true.1 (List.all_takeWhile (p:=fun b:UInt8=>p (b.toNat:Int)) (l:=s))) _ h3
 rw [h2] at h4
 simpa [List.getD,List.getElem?_eq_getElem hk] using h4
theorem spanN_at {p:Int→Bool}:∀ {s:List UInt8},spanN p s<s.length→p ((s.getD (spanN p s) 0).toNat:Int)=false
 | [],h=>by simp at h
 | b::s,h=>by
  unfold spanN at h ⊢
  rw [List.takeWhile_cons] at h ⊢
  split at h
  ·rename_i hb
   rw [if_pos hb]
   simp only [List.length_cons,List.getD_cons_succ] at h ⊢
   exact spanN_at (s:=s) (by unfold spanN;omega)
  ·rename_i hb
   rw [if_neg hb]
   simpa using hb
theorem span_ok (s:List UInt8) (f:FuncId) (p:Int→Bool) (hf:∀ c,APureV Tryz.prog f [.int .u8 c] (.bool (p c))) (hs:s.length≤9223372036854775807):APureV Tryz.prog 193 [.str s,.fn (.func f) [] []] (.int .i64 (spanN p s)):=by
 have hle:=spanN_le p s
 refine aO (cxOk 20 [0,1,4,5,16]) Tryz.func193 ?_
 conv=>whnf
 refine loop_up (cxOk _ _) (spanN p s) (fun _=>True) (fun k=>⟨[(0,.str s),(1,.fn (.func f) [] []),(5,.int .i64 (k:Nat))],[],0⟩) trivial ((wk_of [] rfl ⟨wa0,.fn _ _ _ _ _ ac0 ac0,wa0,trivial⟩ trivial)) ?_
 intro k hk _
 conv=>whnf
 have hek:(k:Int).toNat=k:=Int.toNat_natCast k
 refine And.intro (fun h=>(by simp only [andG,polB,decide_eq_true_eq] at h;omega)) (cW ?_)
 rw [hek]
 conv=>whnf
 refine cO (fun _=>hf ((s.getD k 0).toNat:Int)) (cW ?_)
 refine ⟨fun hc=>?_,fun hc=>?_⟩
 ·have hlt:k<s.length:=by simp at hc;omega
  have hpk:p ((s.getD k 0).toNat:Int)=true:=by simp at hc;simpa using hc.2
  have hne:k<spanN p s:=by
   apply Classical.byContradiction
   intro hh
   have he:k=spanN p s:=by omega
   have hat:=spanN_at (p:=p) (s:=s) (by omega)
   rw [← he,hpk] at hat
   cases hat
  conv=>whnf
  refine iO (cW ?_)
  refine ⟨k+1,⟨hne,trivial⟩,(by show spanN p s-(k+1)<spanN p s-k;omega),(wk_of [] rfl ⟨wa0,.fn _ _ _ _ _ ac0 ac0,wa0,trivial⟩ trivial)⟩
 ·have he:k=spanN p s:=by
   apply Classical.byContradiction
   intro hh
   have hlt:k<spanN p s:=by omega
   have:=spanN_lt hlt
   rw [this] at hc
   simp at hc
   omega
  conv=>whnf
  rw [he]
  rfl
def wordB (s:List UInt8):Bool:=decide (s≠[])&&letB ((s.getD 0 0).toNat:Int)&&decide (s.length≤20)&&decide (spanN (fun c=>letB c||digB c) s=s.length)
theorem word_ok (s:List UInt8) (hs:s.length≤9223372036854775807):APureV Tryz.prog 190 [.str s] (.bool (wordB s)):=by
 have hsp:=span_ok s 231 _ wordc_ok hs
 unfold wordB
 have hpos:s≠[]→0<s.length:=fun h=>List.length_pos_iff.2 h
 refine aO (cxOk 21 [0,2,15]) Tryz.func190 ?_
 conv=>whnf
 refine And.intro (fun h=>(by have h2:s≠[]:=by simpa [andG,polB] using h
                              have:=hpos h2
                              omega)) ?_
 conv=>whnf
 refine cO (fun _=>letter_ok ((s.getD 0 0).toNat:Int)) (cW ?_)
 have e1:decide (20<(s.length:Int))=!decide (s.length≤20):=by
  by_cases h:s.length≤20
  ·simp [h];omega
  ·simp [h];omega
 have e2:decide (s≠[])=!decide (s=[]):=by simp
 have e3:decide ((spanN (fun c=>letB c||digB c) s:Int)=(s.length:Int))=decide (spanN (fun c=>letB c||digB c) s=s.length):=by
  by_cases h:spanN (fun c=>letB c||digB c) s=s.length
  ·simp [h]
  ·simp [h];omega
 rw [e1,e2]
 have e4:decide (s=(⟨#[]⟩:ByteArray).data.toList)=decide (s=[]):=rfl
 rw [e4]
 generalize decide (s=[])=b1
 generalize letB ((s.getD 0 0).toNat:Int)=b2
 generalize decide (s.length≤20)=b3
 refine ⟨fun hc=>?_,fun hc=>?_⟩
 ·conv=>whnf
  have hb:(!b1&&b2&&b3)=false:=by cases b1<;>cases b2<;>cases b3<;>simp_all
  rw [hb]
  rfl
 ·conv=>whnf
  have hb:(!b1&&b2&&b3)=true:=by cases b1<;>cases b2<;>cases b3<;>simp_all
  rw [hb,Bool.true_and]
  refine cO (fun _=>hsp) (cW ?_)
  rw [e3]
  rfl
def encSs (l:List (List UInt8)):AV:=.sl 1 encS [] l
theorem zp15 {p:Prop} (h:p:=by intro j hj;omega):p:=h
theorem index_ok (l:List (List UInt8)) (x:List UInt8) (hl:l.length≤9223372036854775807):APure Tryz.prog 233 [encSs l,.str x] (fun rs=>∃ v:Int,(0≤v↔x∈l)∧rs=[.val (.int .i64 v)]):=by
 refine aO (cxOk 19 [0,1,4,5,7,8,9,16]) Tryz.func233 ?_
 conv=>whnf
 refine loop_up (cxOk _ _) l.length (fun k=>∀ j,j<k→l.getD j []≠x) (fun k=>⟨[(0,encSs l),(1,.str x),(7,.int .i64 (l.length:Nat)),(8,.int .i64 (k:Nat))],[],0⟩) zp15 ((wk_of [] rfl ⟨wa0,wa0,wa0,wa0,trivial⟩ trivial)) ?_
 intro k hk hP
 conv=>whnf
 refine ⟨fun hd=>?_,fun hd=>?_⟩
 ·have hd:=of_decide_eq_true hd
  have hlt:k<l.length:=by omega
  have hek:(k:Int).toNat=k:=Int.toNat_natCast k
  conv=>whnf
  refine iO (cW ?_)
  refine And.intro rfl (cW ?_)
  rw [hek]
  conv=>whnf
  refine ⟨fun he=>?_,fun he=>?_⟩
  ·have he:=of_decide_eq_true he
   conv=>whnf
   refine ⟨(k:Int),⟨fun _=>by rw [he];exact getD_mem hlt,fun _=>by omega⟩,rfl⟩
  ·have he:=of_decide_eq_false he
   conv=>whnf
   refine iO (cW ?_)
   refine up hlt (fun j hj=>?_) ((wk_of [] rfl ⟨wa0,wa0,wa0,wa0,trivial⟩ trivial))
   by_cases e:j=k
   ·subst e;exact fun e=>he e.symm
   ·exact hP j om0
 ·have hd:=of_decide_eq_false hd
  obtain rfl:k=l.length:=by omega
  conv=>whnf
  refine ⟨-1,⟨fun h=>by omega,fun h=>?_⟩,rfl⟩
  obtain ⟨j,hj,e⟩:=mem_getD (d:=[]) h
  exact (hP j hj e).elim
theorem contains_ok (l:List (List UInt8)) (x:List UInt8) (hl:l.length≤9223372036854775807):APureV Tryz.prog 191 [encSs l,.str x] (.bool (decide (x∈l))):=by
 refine aO (cxOk 9 [0,1,4]) Tryz.func191 ?_
 conv=>whnf
 refine .any _ _ _ ⟨rfl,rfl⟩ (index_ok l x hl) al0 ai0 ?_
 rintro rs ⟨v,hv,rfl⟩
 conv=>whnf
 rw [show decide (x∈l)=decide (0≤v) by simp only [hv]]
 rfl
def resW:List (List UInt8):=[[97,99,116,117,97,108],[97,100,106,117,115,116],[97,110,100],[97,116],[98,101,102,111,114,101],[99,97,108,108],[99,97,112],[99,111,105,110,115],[99,111,117,110,116],[99,111,117,112,111,110],[99,111,118,101,110,97,110,116],[99,114,111,115,115],[100,97,121,115],[101,108,115,101],[101,118,101,114],[101,118,101,114,121],[102,97,99,101],[102,97,99,116],[102,97,108,115,101],[102,97,115,116],[102,97,118,111,117,114],[102,105,120,101,100],[102,114,111,109],[103,114,97,99,101],[105,102],[105,115,115,117,101],[108,101,116],[108,111,110,103],[109,97,106,111,114,105,116,121],[109,97,120],[109,105,108,108,101],[109,105,110],[109,111,100,105,102,105,101,100],[109,111,110,116,104,115],[109,117,115,116],[110,101,120,116],[110,111,110,101],[110,111,116],[110,111,116,105,99,101],[111,102],[111,114],[114,97,110,107],[114,97,116,101],[114,101,99,111,114,100],[115,105,110,107],[115,111,111,110],[116,104,101,110],[116,104,105,114,116,121],[116,111],[116,114,117,101]]
def cntW:List (List UInt8):=[[116,104,105,114,116,121],[102,105,120,101,100],[97,99,116,117,97,108]]
def adjW:List (List UInt8):=[[110,111,110,101],[110,101,120,116],[109,111,100,105,102,105,101,100],[98,101,102,111,114,101]]
def oprL:List Opr:=[⟨[111,114],14,1⟩,⟨[97,110,100],13,2⟩,⟨[61,61],11,4⟩,⟨[60],10,4⟩,⟨[43],4,5⟩,⟨[45],5,5⟩,⟨[42],6,6⟩,⟨[47],7,6⟩]
theorem res_raw:APure Tryz.prog 192 [] (fun rs=>rs=[.new (.lst 9 1 (resW.map fun s=>AV.str s))]):=by
 refine aO (cxOk 2 [0]) Tryz.func192 ?_
 conv=>whnf
 rfl
theorem res_ok:APureV Tryz.prog 192 [] (encSs resW):=res_raw.freeze1.le1 (.lsl _ _ _ _ _ rfl)
theorem cnt_raw:APure Tryz.prog 164 [] (fun rs=>rs=[.new (.lst 9 1 (cntW.map fun s=>AV.str s))]):=by
 refine aO (cxOk 2 [0]) Tryz.func164 ?_
 conv=>whnf
 rfl
theorem cnt_ok:APureV Tryz.prog 164 [] (encSs cntW):=cnt_raw.freeze1.le1 (.lsl _ _ _ _ _ rfl)
theorem adj_raw:APure Tryz.prog 165 [] (fun rs=>rs=[.new (.lst 9 1 (adjW.map fun s=>AV.str s))]):=by
 refine aO (cxOk 2 [0]) Tryz.func165 ?_
 conv=>whnf
 rfl
theorem adj_ok:APureV Tryz.prog 165 [] (encSs adjW):=adj_raw.freeze1.le1 (.lsl _ _ _ _ _ rfl)
theorem opr_raw:APure Tryz.prog 242 [] (fun rs=>rs=[.new (.lst 248 3 (oprL.map encO))]):=by
 refine aO (cxOk 10 [0]) Tryz.func242 ?_
 conv=>whnf
 rfl
def encOs (l:List Opr):AV:=.sl 3 encO o0 l
theorem opr_ok:APureV Tryz.prog 242 [] (encOs oprL):=opr_raw.freeze1.le1 (.lsl _ _ _ _ _ rfl)
def nameB (s:List UInt8):Bool:=wordB s&&!decide (s∈resW)
theorem name_ok (s:List UInt8) (hs:s.length≤9223372036854775807):APureV Tryz.prog 156 [.str s] (.bool (nameB s)):=by
 have hw:=word_ok s hs
 have hr:=res_ok
 have hc:=contains_ok resW s (by decide)
 unfold nameB
 cases hb:wordB s
 ·rw [hb] at hw
  refine aO (cxOk 11 [0,2]) Tryz.func156 ?_
  conv=>whnf
  refine cO (fun _=>hw) (cW ?_)
  refine ⟨fun h=>(by cases h),fun _=>?_⟩
  conv=>whnf
  refine cF [.undef,.str s] [.val (.bool false)] (cW ?_)
  rfl
 ·rw [hb] at hw
  refine aO (cxOk 11 [0,2]) Tryz.func156 ?_
  conv=>whnf
  refine cO (fun _=>hw) (cW ?_)
  refine ⟨fun _=>?_,fun h=>(by cases h)⟩
  conv=>whnf
  refine cO (fun _=>hr) (cW ?_)
  refine cO (fun _=>hc) (cW ?_)
  rfl
def idxP {X:Type} (p:X→Bool):List X→Int
 | []=>-1
 | x::l=>if p x then 0 else (if idxP p l<0 then -1 else idxP p l+1)
theorem idxP_ge {X:Type} (p:X→Bool):∀ l:List X,-1≤idxP p l
 | []=>by simp [idxP]
 | x::l=>by
  have:=idxP_ge p l
  unfold idxP
  split
  ·omega
  ·split<;>omega
theorem idxP_found {X:Type} {p:X→Bool} {d:X}:∀ {l:List X} {k:Nat},k<l.length→(∀ j,j<k→p (l.getD j d)=false)→p (l.getD k d)=true→idxP p l=k
 | [],k,h,_,_=>by simp at h
 | x::l,0,h,_,hk=>by
  have hx:p x=true:=by simpa using hk
  simp [idxP,hx]
 | x::l,k+1,h,hj,hk=>by
  have hx:p x=false:=by have:=hj 0 (by omega);simpa using this
  have ih:=idxP_found (p:=p) (d:=d) (l:=l) (k:=k) zp19 (fun j hj'=>by have:=hj (j+1) (by omega);simpa using this) (by simpa using hk)
  unfold idxP
  rw [ih]
  simp [hx]
  omega
theorem idxP_none {X:Type} {p:X→Bool} {d:X}:∀ {l:List X},(∀ j,j<l.length→p (l.getD j d)=false)→idxP p l=-1
 | [],_=>rfl
 | x::l,h=>by
  have hx:p x=false:=by have:=h 0 (by simp);simpa using this
  have ih:=idxP_none (p:=p) (d:=d) (l:=l) (fun j hj=>by have:=h (j+1) zp16;simpa using this)
  unfold idxP
  rw [ih]
  simp [hx]
theorem idxP_any {X:Type} (p:X→Bool):∀ l:List X,decide (0≤idxP p l)=l.any p
 | []=>by simp [idxP]
 | x::l=>by
  have ih:=idxP_any p l
  have hge:=idxP_ge p l
  unfold idxP
  rw [List.any_cons,← ih]
  cases p x
  ·simp only [Bool.false_eq_true,if_false,Bool.false_or]
   split
   ·simp;omega
   ·simp;omega
  ·simp
theorem zt3 {p:Prop}(h:p:=by
 conv=>whnf
 refine iO (cW ?_)
 refine And.intro rfl (cW ?_)
 rw [hek]
 conv=>whnf
 refine cO (fun _=>hc) (cW ?_)
 refine ⟨fun he=>?_,fun he=>?_⟩
 ·conv=>whnf
  rw [idxP_found hlt hP he]
  rfl
 ·conv=>whnf
  refine iO (cW ?_)
  refine up hlt (fun j hj=>?_) ((wk_of [] rfl ⟨wa0,.fn _ _ _ _ _ ac0 ac0,wa0,wa0,trivial⟩ trivial))
  by_cases e:j=k
  ·subst e;exact he
  ·exact hP j om0):p:=h
theorem zt24 {p:Prop}(h:p:=by
 have hd:=of_decide_eq_false hd
 obtain rfl:k=l.length:=by omega
 conv=>whnf
 rw [idxP_none hP]
 rfl):p:=h
theorem idxI_ok (l:List Int) (fid:FuncId) (x y:Int) (p:Int→Bool) (hf:∀ e∈l,APureV Tryz.prog fid (encI e::[.rop [.int .i64 x],.rop [.int .i64 y]]) (.bool (p e))) (hl:l.length≤9223372036854775807) :
  APureV Tryz.prog 179 [.sl 1 encI 0 l,.fn (.func fid) [] [.rop [.int .i64 x],.rop [.int .i64 y]]] (.int .i64 (idxP p l)):=by
 refine aO (cxOk 19 [0,1,4,5,7,8,9,16]) Tryz.func179 ?_
 conv=>whnf
 refine loop_up (cxOk _ _) l.length (fun k=>∀ j,j<k→p (l.getD j 0)=false) (fun k=>⟨[(0,.sl 1 encI 0 l),(1,.fn (.func fid) [] [.rop [.int .i64 x],.rop [.int .i64 y]]),(7,.int .i64 (l.length:Nat)),(8,.int .i64 (k:Nat))],[],0⟩) zp15 ((wk_of [] rfl ⟨wa0,.fn _ _ _ _ _ ac0 ac0,wa0,wa0,trivial⟩ trivial)) ?_
 intro k hk hP
 conv=>whnf
 refine ⟨fun hd=>?_,fun hd=>?_⟩
 ·have hd:=of_decide_eq_true hd
  have hlt:k<l.length:=by omega
  have hek:(k:Int).toNat=k:=Int.toNat_natCast k
  have hc:=hf _ (getD_mem (d:=0) hlt)
  exact zt3
 ·exact zt24
theorem anyI_ok (l:List Int) (fid:FuncId) (x y:Int) (p:Int→Bool) (hf:∀ e∈l,APureV Tryz.prog fid (encI e::[.rop [.int .i64 x],.rop [.int .i64 y]]) (.bool (p e))) (hl:l.length≤9223372036854775807) :
  APureV Tryz.prog 135 [.sl 1 encI 0 l,.fn (.func fid) [] [.rop [.int .i64 x],.rop [.int .i64 y]]] (.bool (l.any p)):=by
 have h:=idxI_ok l fid x y p hf hl
 refine aO (cxOk 9 [0,1,4]) Tryz.func135 ?_
 conv=>whnf
 refine .one _ _ _ (fun _=>h) (.cons (lS rfl) (.cons (.fn _ _ _ _ _ _ _ .nil (.cons (.base (.base (.same _ rfl))) (.cons (.base (.base (.same _ rfl))) (.nil)))) .nil)) (.inl rfl) (.inl rfl) (cW ?_)
 show [AR.val (AV.bool (decide (idxP p l ≥ 0)))]=_
 rw [← idxP_any p l]
def inB (a b:Int) (l:List Int):Bool:=l.all fun n=>decide (a≤n)&&decide (n≤b)
def in64 (n:Int):Prop:=-9223372036854775808≤n∧n≤9223372036854775807
def argOf (e:Exp) (i:Nat):Exp:=e.args.getD i ex0
inductive OkE:Exp→Prop
 | mk {e:Exp} (op:in64 e.op) (n:in64 e.n) (unit:in64 e.unit) (s:e.s.length≤9223372036854775807) (len:e.args.length≤9223372036854775807) (args:∀ a∈e.args,OkE a):OkE e
theorem name_len {s:List UInt8} (h:nameB s=true):s.length≤20:=by
 unfold nameB wordB at h
 simp only [Bool.and_eq_true,decide_eq_true_eq] at h
 exact h.1.1.2
theorem getD_argOf {e:Exp} {i:Nat} (h:i<e.args.length):argOf e i∈e.args:=getD_mem h
theorem idxO_ok (l:List Opr) (fid:FuncId) (cs:List AV) (p:Opr→Bool) (hf:∀ e∈l,APureV Tryz.prog fid (encO e::[.rop cs]) (.bool (p e))) (hl:l.length≤9223372036854775807) (h1:treesB cs=true) :
  APureV Tryz.prog 241 [.sl 3 encO o0 l,.fn (.func fid) [] [.rop cs]] (.int .i64 (idxP p l)):=by
 refine aO (cxOk 19 [0,1,4,5,7,8,9,16]) Tryz.func241 ?_
 conv=>whnf
 refine loop_up (cxOk _ _) l.length (fun k=>∀ j,j<k→p (l.getD j o0)=false) (fun k=>⟨[(0,.sl 3 encO o0 l),(1,.fn (.func fid) [] [.rop cs]),(7,.int .i64 (l.length:Nat)),(8,.int .i64 (k:Nat))],[],0⟩) zp15 ((wk_of [] rfl ⟨wa0,.fn _ _ _ _ _ ac0 ac0,wa0,wa0,trivial⟩ trivial)) ?_
 intro k hk hP
 conv=>whnf
 refine ⟨fun hd=>?_,fun hd=>?_⟩
 ·have hd:=of_decide_eq_true hd
  have hlt:k<l.length:=by omega
  have hek:(k:Int).toNat=k:=Int.toNat_natCast k
  have hc:=hf _ (getD_mem (d:=o0) hlt)
  exact zt3
 ·exact zt24
abbrev cellsE (e:Exp):List AV:=[.int .i64 e.op,.int .i64 e.n,.int .i64 e.unit,.str e.s,.lsl 5 (argsE e)]
def leapB (y:Int):Bool:=decide (y % 4=0)&&(decide (y % 100≠0)||decide (y % 400=0))
def lastD (y m:Int):Int :=
 if m=1∨m=3∨m=5∨m=7∨m=8∨m=10∨m=12 then 31
 else if m=4∨m=6∨m=9∨m=11 then 30
 else if m=2 then (if leapB y=true then 29 else 28) else 0
def befD (y:Int):Int:=365*(y-1-1899)+(y-1) / 4-(y-1) / 100+(y-1) / 400-460
theorem bef_nn (y:Int) (h:1900≤y):0≤befD y:=by unfold befD;omega
def sumM (y:Int):Nat→Int
 | 0=>0
 | k+1=>sumM y k+lastD y ((k:Int)+1)
theorem last_bounds (y m:Int):0≤lastD y m∧lastD y m≤31:=by unfold lastD;repeat' split;all_goals omega
theorem last_out {y m:Int} (h:¬ (1≤m∧m≤12)):lastD y m=0:=by
 unfold lastD
 rw [if_neg (by omega),if_neg (by omega),if_neg (by omega)]
theorem sum_le (y:Int):∀ k:Nat,0≤sumM y k∧sumM y k≤31*k
 | 0=>by simp [sumM]
 | k+1=>by
  have:=sum_le y k
  have:=last_bounds y ((k:Int)+1)
  simp only [sumM]
  omega
def dayOf (y m d:Int):Int×Int :=
 if d<1∨lastD y m<d then (0,23)
 else if y<1900∨3000<y then (0,3)
 else if 0≤befD y+d-1+sumM y (m-1).toNat∧befD y+d-1+sumM y (m-1).toNat≤200000 then (befD y+d-1+sumM y (m-1).toNat,0)
 else (0,3)
theorem leap_ok (y:Int) (hy:0≤y):APureV Tryz.prog 265 [.int .i64 y] (.bool (leapB y)):=by
 have e1:Int.tmod y 4=y % 4:=Int.tmod_eq_emod_of_nonneg hy
 have e2:Int.tmod y 100=y % 100:=Int.tmod_eq_emod_of_nonneg hy
 have e3:Int.tmod y 400=y % 400:=Int.tmod_eq_emod_of_nonneg hy
 refine aO (cxOk 16 [0,2]) Tryz.func265 ?_
 conv=>whnf
 refine And.intro an0 (cW ?_)
 refine And.intro an0 (cW ?_)
 refine And.intro an0 (cW ?_)
 rw [e1,e2,e3]
 unfold leapB
 simp
theorem before_ok (y:Int) (hy:1≤y) (h2:y≤1000000000001):APureV Tryz.prog 238 [.int .i64 y] (.int .i64 (befD y)):=by
 have e1:Int.tdiv (y-1) 4=(y-1) / 4:=Int.tdiv_eq_ediv_of_nonneg (by omega)
 have e2:Int.tdiv (y-1) 100=(y-1) / 100:=Int.tdiv_eq_ediv_of_nonneg (by omega)
 have e3:Int.tdiv (y-1) 400=(y-1) / 400:=Int.tdiv_eq_ediv_of_nonneg (by omega)
 refine aO (cxOk 18 [0,2]) Tryz.func238 ?_
 conv=>whnf
 repeat (first | (refine iO (cW ?_)) | (refine And.intro (by omega) (And.intro rfl (cW ?_))) | (refine And.intro rfl (cW ?_)) | (refine And.intro (fun _=>⟨by omega,by omega⟩) (cW ?_)) | (refine And.intro (fun _=>by omega) (And.intro rfl (cW ?_))) | (refine And.intro ⟨ak0,ak0⟩ (cW ?_)) | (refine Exists.intro _ (And.intro rfl (And.intro ak0 (And.intro ⟨rfl,rfl,rfl,rfl,rfl⟩ (cW ?_))))) | (refine And.intro ⟨rfl,rfl⟩ (And.intro ak0 (cW ?_))) | (refine Exists.intro _ (And.intro rfl (cW ?_))) | (refine nE (cW ?_)) | (refine nD (cW ?_)) | (refine .quiet zp9 (cW ?_)))
 refine And.intro an0 (cW ?_)
 rw [e1]
 repeat (first | (refine iO (cW ?_)) | (refine And.intro (by omega) (And.intro rfl (cW ?_))) | (refine And.intro rfl (cW ?_)) | (refine And.intro (fun _=>⟨by omega,by omega⟩) (cW ?_)) | (refine And.intro (fun _=>by omega) (And.intro rfl (cW ?_))) | (refine And.intro ⟨ak0,ak0⟩ (cW ?_)) | (refine Exists.intro _ (And.intro rfl (And.intro ak0 (And.intro ⟨rfl,rfl,rfl,rfl,rfl⟩ (cW ?_))))) | (refine And.intro ⟨rfl,rfl⟩ (And.intro ak0 (cW ?_))) | (refine Exists.intro _ (And.intro rfl (cW ?_))) | (refine nE (cW ?_)) | (refine nD (cW ?_)) | (refine .quiet zp9 (cW ?_)))
 refine And.intro an0 (cW ?_)
 rw [e2]
 repeat (first | (refine iO (cW ?_)) | (refine And.intro (by omega) (And.intro rfl (cW ?_))) | (refine And.intro rfl (cW ?_)) | (refine And.intro (fun _=>⟨by omega,by omega⟩) (cW ?_)) | (refine And.intro (fun _=>by omega) (And.intro rfl (cW ?_))) | (refine And.intro ⟨ak0,ak0⟩ (cW ?_)) | (refine Exists.intro _ (And.intro rfl (And.intro ak0 (And.intro ⟨rfl,rfl,rfl,rfl,rfl⟩ (cW ?_))))) | (refine And.intro ⟨rfl,rfl⟩ (And.intro ak0 (cW ?_))) | (refine Exists.intro _ (And.intro rfl (cW ?_))) | (refine nE (cW ?_)) | (refine nD (cW ?_)) | (refine .quiet zp9 (cW ?_)))
 refine And.intro an0 (cW ?_)
 rw [e3]
 repeat (first | (refine iO (cW ?_)) | (refine And.intro (by omega) (And.intro rfl (cW ?_))) | (refine And.intro rfl (cW ?_)) | (refine And.intro (fun _=>⟨by omega,by omega⟩) (cW ?_)) | (refine And.intro (fun _=>by omega) (And.intro rfl (cW ?_))) | (refine And.intro ⟨ak0,ak0⟩ (cW ?_)) | (refine Exists.intro _ (And.intro rfl (And.intro ak0 (And.intro ⟨rfl,rfl,rfl,rfl,rfl⟩ (cW ?_))))) | (refine And.intro ⟨rfl,rfl⟩ (And.intro ak0 (cW ?_))) | (refine Exists.intro _ (And.intro rfl (cW ?_))) | (refine nE (cW ?_)) | (refine nD (cW ?_)) | (refine .quiet zp9 (cW ?_)))
 unfold befD
 rfl
theorem isday_ok (n:Int):APureV Tryz.prog 239 [.int .i64 n] (.bool (decide (0≤n)&&decide (n≤200000))):=by
 refine aO (cxOk 9 [0,2]) Tryz.func239 ?_
 conv=>whnf
 rfl
theorem zp37 {p:Prop} (h:p:=by simp at hx;omega):p:=h
theorem last_ok (y m:Int) (hy:0≤y):APureV Tryz.prog 237 [.int .i64 y,.int .i64 m] (.int .i64 (lastD y m)):=by
 have hl:=leap_ok y hy
 have hv:lastD y m=if m=1∨m=3∨m=5∨m=7∨m=8∨m=10∨m=12 then 31
  else if m=4∨m=6∨m=9∨m=11 then 30 else if m=2 then (if leapB y=true then 29 else 28) else 0:=rfl
 have key:m=1∨m=3∨m=5∨m=7∨m=8∨m=10∨m=12∨m=4∨m=6∨m=9∨m=11∨m=2∨(m≠1∧m≠3∧m≠5∧m≠7∧m≠8∧m≠10∧m≠12∧m≠4∧m≠6∧m≠9∧m≠11∧m≠2):=by omega
 rw [hv]
 rcases key with h | h | h | h | h | h | h | h | h | h | h | h | h
 case inr.inr.inr.inr.inr.inr.inr.inr.inr.inr.inr.inl =>
  rw [if_neg (by omega),if_neg (by omega),if_pos h]
  refine aO (cxOk 23 [0,1,4,5,6,14,19,22]) Tryz.func237 ?_
  conv=>whnf
  repeat (first | (refine ⟨fun _=>?_,fun hx=>zp37⟩;conv=>whnf) | (refine ⟨fun hx=>zp37,fun _=>?_⟩;conv=>whnf))
  refine cO (fun _=>hl) (cW ?_)
  refine ⟨fun hq=>?_,fun hq=>?_⟩
  ·rw [if_pos hq]
   conv=>whnf
   rfl
  ·rw [if_neg (by rw [hq];decide)]
   conv=>whnf
   rfl
 all_goals
  refine aO (cxOk 23 [0,1,4,5,6,14,19,22]) Tryz.func237 ?_
  conv=>whnf
  repeat (first | (refine ⟨fun _=>?_,fun hx=>zp37⟩;conv=>whnf) | (refine ⟨fun hx=>zp37,fun _=>?_⟩;conv=>whnf))
 all_goals
  refine congrArg (fun z:Int=>[AR.val (AV.int .i64 z)]) ?_
  clear hv
  repeat' split
  all_goals omega
def dayR (y m d:Int):List AR:=[.val (.int .i64 (dayOf y m d).1),.val (.int .i64 (dayOf y m d).2)]
theorem zt126 {p:Prop}(h:p:=by
 refine ⟨fun _=>?_,fun hx=>zp37⟩
 conv=>whnf
 rfl):p:=h
theorem dayof_ok (y m d:Int) (hy:0≤y) (hy2:y≤1000000000000000) (hd:-9223372036854775808≤d):APure Tryz.prog 198 [.int .i64 y,.int .i64 m,.int .i64 d] (fun rs=>rs=dayR y m d):=by
 have hl:=last_ok y m hy
 have hlb:=last_bounds y m
 have hv:dayOf y m d=if d<1∨lastD y m<d then (0,23)
  else if y<1900∨3000<y then (0,3)
  else if 0≤befD y+d-1+sumM y (m-1).toNat∧befD y+d-1+sumM y (m-1).toNat≤200000 then (befD y+d-1+sumM y (m-1).toNat,0)
  else (0,3):=rfl
 unfold dayR
 rw [hv]
 by_cases h1:d<1∨lastD y m<d
 ·rw [if_pos h1]
  refine aO (cxOk 44 [0,1,2,6,7,8,9,18,24,32,42]) Tryz.func198 ?_
  conv=>whnf
  refine cO (fun _=>hl) (cW ?_)
  exact zt126
 rw [if_neg h1]
 have hm:1≤m∧m≤12:=by
  apply Classical.byContradiction
  intro hn
  rw [last_out hn] at h1
  omega
 by_cases h2:y<1900∨3000<y
 ·rw [if_pos h2]
  refine aO (cxOk 44 [0,1,2,6,7,8,9,18,24,32,42]) Tryz.func198 ?_
  conv=>whnf
  refine cO (fun _=>hl) (cW ?_)
  refine ⟨fun hx=>zp37,fun _=>?_⟩
  conv=>whnf
  exact zt126
 rw [if_neg h2]
 have hb:=before_ok y (by omega) (by omega)
 have hbn:=bef_nn y (by omega)
 have hbm:befD y≤500000:=by unfold befD;omega
 refine aO (cxOk 44 [0,1,2,6,7,8,9,18,24,32,42]) Tryz.func198 ?_
 conv=>whnf
 refine cO (fun _=>hl) (cW ?_)
 refine ⟨fun hx=>zp37,fun _=>?_⟩
 conv=>whnf
 refine ⟨fun hx=>zp37,fun _=>?_⟩
 conv=>whnf
 refine cO (fun _=>hb) (cW ?_)
 refine iO (cW ?_)
 refine iO (cW ?_)
 refine loop_inv (cxOk _ _) (fun k:Nat=>(k:Int)≤m-1) (fun k=>12-k) (fun k=>⟨[(0,.int .i64 y),(1,.int .i64 m),(2,.int .i64 d),(6,.int .i64 0),(7,.int .i64 0),(8,.int .i64 (befD y+d-1+sumM y k)),(9,.int .i64 ((k:Nat)+1))],[],0⟩) 0 (by show ((0:Nat):Int)≤_;omega) ((wk_of [] rfl ⟨wa0,wa0,wa0,wa0,wa0,.base (.tree _ _ (show AV.int .i64 _=AV.int .i64 _ by congr 1;show _=befD y+d-1+0;omega) rfl),wa0,trivial⟩ trivial)) ?_
 intro k hk
 have hk2:(k:Int)≤m-1:=hk
 have hls:=last_ok y ((k:Int)+1) hy
 have hlb:=last_bounds y ((k:Int)+1)
 have hsl:=sum_le y k
 conv=>whnf
 refine ⟨fun hm=>?_,fun hm=>?_⟩
 ·have hm:=of_decide_eq_true hm
  conv=>whnf
  refine cO (fun _=>hls) (cW ?_)
  refine iO (cW ?_)
  refine iO (cW ?_)
  exact ⟨k+1,(by show ((k+1:Nat):Int)≤m-1;omega),(by show 12-(k+1)<12-k;omega),(wk_of [] rfl ⟨wa0,wa0,wa0,wa0,wa0,.base (.tree _ _ (show AV.int .i64 _=AV.int .i64 _ by congr 1;simp only [sumM];omega) rfl),wa0,trivial⟩ trivial)⟩
 ·have hm:=of_decide_eq_false hm
  have hke:(m-1).toNat=k:=by omega
  have hday:=isday_ok (befD y+d-1+sumM y k)
  conv=>whnf
  refine cO (fun _=>hday) (cW ?_)
  rw [hke]
  by_cases h3:0≤befD y+d-1+sumM y k∧befD y+d-1+sumM y k≤200000
  ·rw [if_pos h3]
   refine ⟨fun hx=>zp37,fun _=>?_⟩
   conv=>whnf
   rfl
  ·rw [if_neg h3]
   exact zt126
abbrev Er:=Int×Int
abbrev Ps (α:Type):=Except Er (α×List Tok)
def hdT (r:List Tok):Tok:=r.headD t0
def Fin1:List Tok→Prop
 | []=>False
 | [t]=>t.kind=3
 | t::r=>t.kind≠3∧Fin1 r
def isT (s:List UInt8) (r:List Tok):Bool:=decide ((hdT r).kind≠3)&&decide ((hdT r).text=s)
def errP {α:Type} (e:Int) (r:List Tok):Except Er α:=.error ((hdT r).pos,e)
def wantP (s:List UInt8) (r:List Tok):Except Er (List Tok):=if isT s r=true then .ok r.tail else errP 12 r
def namedB (r:List Tok):Bool:=decide ((hdT r).kind=0)&&nameB (hdT r).text
def nameP (r:List Tok):Ps (List UInt8):=if namedB r=true then .ok ((hdT r).text,r.tail) else errP 12 r
def numP (a b:Int) (r:List Tok):Ps Int :=
 if (hdT r).kind≠1 then errP 12 r else if a≤(hdT r).n∧(hdT r).n≤b then .ok ((hdT r).n,r.tail) else errP 3 r
def unitP (r:List Tok):Int×List Tok :=
 if isT [99,111,105,110,115] r=true then (1,r.tail)
 else if isT [100,97,121,115] r=true then (3,r.tail)
 else if isT [109,105,108,108,101] r=true then (2,r.tail)
 else (0,r)
abbrev Rec:=Int→List Tok→Ps Exp
def withinP (ex:Rec) (op:Int) (r:List Tok):Ps Exp :=
 match numP 1 1000 r with
 | .error e=>.error e
 | .ok (n,r)=>match wantP [40] r with
  | .error e=>.error e
  | .ok r=>match ex 0 r with
   | .error e=>.error e
   | .ok (x,r)=>match wantP [41] r with
    | .error e=>.error e
    | .ok r=>.ok (.mk op n 0 [] [x],r)
def pairP (ex:Rec) (op:Int) (r:List Tok):Ps Exp :=
 match wantP [40] r with
 | .error e=>.error e
 | .ok r=>match ex 0 r with
  | .error e=>.error e
  | .ok (x,r)=>match wantP [44] r with
   | .error e=>.error e
   | .ok r=>match ex 0 r with
    | .error e=>.error e
    | .ok (y,r)=>match wantP [41] r with
     | .error e=>.error e
     | .ok r=>.ok (.mk op 0 0 [] [x,y],r)
def namedP (op:Int) (r:List Tok):Ps Exp :=
 match nameP r with
 | .error e=>.error e
 | .ok (s,r)=>.ok (.mk op 0 0 s [],r)
def parenP (ex:Rec) (r:List Tok):Ps Exp :=
 match ex 0 r with
 | .error e=>.error e
 | .ok (x,r)=>match wantP [41] r with
  | .error e=>.error e
  | .ok r=>.ok (x,r)
def primP (ex:Rec) (r:List Tok):Ps Exp :=
 if (hdT r).kind=1 then .ok (.mk 0 (hdT r).n (unitP r.tail).1 [] [],(unitP r.tail).2)
 else if isT [116,114,117,101] r=true then .ok (.mk 0 1 4 [] [],r.tail)
 else if isT [102,97,108,115,101] r=true then .ok (.mk 0 0 4 [] [],r.tail)
 else if isT [102,97,99,116] r=true then namedP 2 r.tail
 else if isT [114,97,116,101] r=true then namedP 3 r.tail
 else if isT [101,118,101,114] r=true then withinP ex 16 r.tail
 else if isT [108,111,110,103] r=true then withinP ex 17 r.tail
 else if isT [115,111,111,110] r=true then withinP ex 18 r.tail
 else if isT [109,105,110] r=true∨isT [109,97,120] r=true then pairP ex (if isT [109,97,120] r=true then 9 else 8) r.tail
 else if isT [40] r=true then parenP ex r.tail
 else namedP 1 r
def ifP (ex:Rec) (r:List Tok):Ps Exp :=
 match ex 0 r with
 | .error e=>.error e
 | .ok (x,r)=>match wantP [116,104,101,110] r with
  | .error e=>.error e
  | .ok r=>match ex 0 r with
   | .error e=>.error e
   | .ok (y,r)=>match wantP [101,108,115,101] r with
    | .error e=>.error e
    | .ok r=>match ex 0 r with
     | .error e=>.error e
     | .ok (z,r)=>.ok (.mk 15 0 0 [] [x,y,z],r)
def notP (ex:Rec) (r:List Tok):Ps Exp :=
 match ex 3 r with
 | .error e=>.error e
 | .ok (x,r)=>.ok (.mk 12 0 0 [] [x],r)
def prefP (ex:Rec) (form:Int) (r:List Tok):Except Er ((Exp×Int)×List Tok) :=
 if form=0∧isT [105,102] r=true then (match ifP ex r.tail with
  | .error e=>.error e
  | .ok (x,r)=>.ok ((x,0),r))
 else if form≤3∧isT [110,111,116] r=true then (match notP ex r.tail with
  | .error e=>.error e
  | .ok (x,r)=>.ok ((x,3),r))
 else match primP ex r with
  | .error e=>.error e
  | .ok (x,r)=>.ok ((x,7),r)
def opI (r:List Tok):Int:=idxP (fun o:Opr=>isT o.text r) oprL
def opAt (i:Int):Opr:=oprL.getD i.toNat o0
def loopP (ex:Rec) (form:Int):Nat→Exp→Int→List Tok→Ps Exp
 | 0,e,_,r=>.ok (e,r)
 | f+1,e,own,r =>
  if opI r<0 then .ok (e,r)
  else
   let x:=opAt (opI r)
   if x.form<form∨own<x.form∨own=4∧x.form=4 then .ok (e,r)
   else match ex (x.form+1) r.tail with
    | .error e=>.error e
    | .ok (y,r')=>loopP ex form f (.mk x.op 0 0 [] [e,y]) x.form r'
def expS (ex:Rec) (form:Int) (r:List Tok):Ps Exp :=
 match prefP ex form r with
 | .error e=>.error e
 | .ok ((e,own),r')=>loopP ex form r'.length e own r'
def expP:Nat→Rec
 | 0,_,r=>errP 12 r
 | f+1,form,r=>expS (expP f) form r
mutual
def lev:Exp→Nat
 | .mk _ _ _ _ args=>levs args+1
def levs:List Exp→Nat
 | []=>0
 | e::l=>max (lev e) (levs l)
end
set_option maxHeartbeats 40000000
abbrev pcell (T r:List Tok):List AV:=[encTks T,.int .i64 ((T.length-r.length:Nat):Int)]
abbrev pobj (T r:List Tok):AB:=.cells 183 (pcell T r)
structure PSt (T r:List Tok):Prop where
 suf:r <:+ T
 fin:Fin1 r
 big:T.length≤1000000000000
 txt:∀ t∈T,t.text.length≤4000∧0≤t.n∧t.n≤1000000000000000
theorem Fin1.ne {r:List Tok} (h:Fin1 r):r≠[]:=by cases r<;>simp_all [Fin1]
theorem Fin1.tail {r:List Tok} (h:Fin1 r) (hk:(hdT r).kind≠3):Fin1 r.tail:=by
 match r,h with
 | [t],h=>exact (hk h).elim
 | t::u::r,h=>exact h.2
theorem PSt.pos {T r:List Tok} (h:PSt T r):0<r.length:=List.length_pos_iff.2 h.fin.ne
theorem PSt.le {T r:List Tok} (h:PSt T r):r.length≤T.length:=h.suf.length_le
theorem PSt.get {T r:List Tok} (h:PSt T r):T.getD (T.length-r.length) t0=hdT r:=by
 obtain ⟨p,hp⟩:=h.suf
 have hlen:T.length=p.length+r.length:=by rw [← hp,List.length_append]
 rw [show T.length-r.length=p.length by omega,← hp,List.getD_eq_getElem?_getD,List.getElem?_append_right (Nat.le_refl _),Nat.sub_self]
 cases r with
 | nil=>rfl
 | cons t r=>rfl
theorem PSt.tail {T r:List Tok} (h:PSt T r) (hk:(hdT r).kind≠3):PSt T r.tail :=
 ⟨(List.tail_suffix r).trans h.suf,h.fin.tail hk,h.big,h.txt⟩
theorem PSt.hd {T r:List Tok} (h:PSt T r):hdT r∈T:=by
 have hp:=h.pos
 cases r with
 | nil=>simp at hp
 | cons t r=>exact h.suf.subset List.mem_cons_self
theorem PSt.tlen {T r:List Tok} (h:PSt T r):(hdT r).text.length≤4000:=(h.txt _ h.hd).1
theorem isT_kind {s:List UInt8} {r:List Tok} (h:isT s r=true):(hdT r).kind≠3:=by
 unfold isT at h
 simp only [Bool.and_eq_true,decide_eq_true_eq] at h
 exact h.1
theorem PSt.at {T r:List Tok} (h:PSt T r):((T.length-r.length:Nat):Int)+1=((T.length-r.tail.length:Nat):Int):=by
 have h1:=h.pos
 have h2:=h.le
 rw [List.length_tail]
 omega
theorem next_ok {T r:List Tok} (h:PSt T r):APureV Tryz.prog 173 [.rop (pcell T r)] (encTk (hdT r)):=by
 have h1:=h.pos
 have h2:=h.le
 have h3:=h.big
 have hg:=h.get
 have ht:(((T.length-r.length:Nat):Int)).toNat=T.length-r.length:=Int.toNat_natCast _
 refine aO (cxOk 13 [0,2]) Tryz.func173 ?_
 conv=>whnf
 refine .eff ad0 (cW ?_)
 refine iO (cW ?_)
 refine And.intro rfl (cW ?_)
 refine And.intro rfl (cW ?_)
 rw [ht,hg]
 rfl
theorem is_ok {T r:List Tok} (h:PSt T r) (s:List UInt8):APureV Tryz.prog 200 [.rop (pcell T r),.str s] (.bool (isT s r)):=by
 have hn:=next_ok h
 unfold isT
 cases hk:decide ((hdT r).kind=3) with
 | true =>
  have e:decide ((hdT r).kind≠3)=false:=by simpa using hk
  rw [e]
  refine aO (cxOk 16 [0,1,4]) Tryz.func200 ?_
  conv=>whnf
  refine cO (fun _=>hn) (cW ?_)
  rw [hk]
  refine gF (cW ?_)
  rfl
 | false =>
  have e:decide ((hdT r).kind≠3)=true:=by simpa using hk
  rw [e]
  refine aO (cxOk 16 [0,1,4]) Tryz.func200 ?_
  conv=>whnf
  refine cO (fun _=>hn) (cW ?_)
  rw [hk]
  refine gT (cW ?_)
  refine cO (fun _=>hn) (cW ?_)
  rfl
theorem named_ok {T r:List Tok} (h:PSt T r):APureV Tryz.prog 197 [.rop (pcell T r)] (.bool (namedB r)):=by
 have hn:=next_ok h
 have hm:=name_ok (hdT r).text (by have:=h.tlen;omega)
 unfold namedB
 cases hk:decide ((hdT r).kind=0) with
 | false =>
  refine aO (cxOk 13 [0,2]) Tryz.func197 ?_
  conv=>whnf
  refine cO (fun _=>hn) (cW ?_)
  rw [hk]
  refine gF (cW ?_)
  refine cF [.undef] [.val (.bool false)] (cW ?_)
  rfl
 | true =>
  refine aO (cxOk 13 [0,2]) Tryz.func197 ?_
  conv=>whnf
  refine cO (fun _=>hn) (cW ?_)
  rw [hk]
  refine gT (cW ?_)
  refine cO (fun _=>hn) (cW ?_)
  refine cO (fun _=>hm) (cW ?_)
  rfl
theorem zt9 {p:Prop}(h:p:=by
 conv=>whnf
 exact ⟨rfl,rfl,rfl,rfl⟩):p:=h
theorem zt58 {p:Prop}(h:p:=by
 conv=>whnf
 refine ⟨_,Wk.refl _,rfl,rfl,?_⟩
 exact zt9):p:=h
theorem zt180 {p:Prop}(h:p:=by
 conv=>whnf
 refine gT ?_
 exact zt58):p:=h
theorem has_ok {T r:List Tok} (h:PSt T r) (s:List UInt8):RIO Tryz.prog 196 [.ptr 0 0,.str s] [pobj T r] 1 (fun vs bs es=>vs=[.bool (isT s r)]∧bs=[pobj T (if isT s r=true then r.tail else r)]∧es=[]):=by
 have hn:=is_ok h s
 have hat:=h.at
 have h1:=h.pos
 have h2:=h.le
 have h3:=h.big
 cases hb:isT s r with
 | false =>
  rw [hb] at hn
  refine rO (cxPOk 1 16 [0,1,4,8]) Tryz.func196 ?_
  conv=>whnf
  refine cO (fun _=>hn) ?_
  exact zt180
 | true =>
  rw [hb] at hn
  refine rO (cxPOk 1 16 [0,1,4,8]) Tryz.func196 ?_
  conv=>whnf
  refine cO (fun _=>hn) (cW ?_)
  refine gF (cW ?_)
  refine iO (cW ?_)
  rw [hat]
  refine ⟨_,Wk.refl _,rfl,rfl,?_⟩
  exact zt9
def stopC (er:Er):List PanicEntry:=[{ v:=.iface 185 (.agg #[.int .i64 er.1,.int .i64 er.2]),recovered:=false }]
theorem relT_int2 {S:Blocks} {w:World} {cs:Array Value} {a b:Int} (h:RelT S w (.agg cs) (.agg [.int .i64 a,.int .i64 b])):cs=#[.int .i64 a,.int .i64 b]:=by
 cases h with
 | agg _ _ hl h =>
  have h0:cs.size=2:=hl
  apply Array.ext
  ·exact hl
  ·intro i h1 h2
   have hg:cs[i]?=some cs[i]:=Array.getElem?_eq_getElem h1
   match i with
   | 0 =>
    have:=h 0 _ _ hg rfl
    exact relV_int (m:=fun _=>none) (.t _ _ this)
   | 1 =>
    have:=h 1 _ _ hg rfl
    exact relV_int (m:=fun _=>none) (.t _ _ this)
   | n+2=>omega
abbrev RX (f:FuncId) (avs:List AV) (objs:List AB) (p:Nat) {α:Type} (spec:Except Er α) (V:α→List AV) (B E:α→List AB):Prop :=
 RIOX Tryz.prog f avs objs p (fun vs bs es=>∃ v,spec=.ok v∧vs=V v∧bs=B v∧es=E v) (fun ch=>∃ e,spec=.error e∧ch=stopC e)
theorem rx_ok {f:FuncId} {avs:List AV} {objs:List AB} {p:Nat} {α:Type} {spec:Except Er α} {V:α→List AV} {B E:α→List AB} (h:RX f avs objs p spec V B E) {v:α} (hs:spec=.ok v) :
  RIO Tryz.prog f avs objs p (fun vs bs es=>vs=V v∧bs=B v∧es=E v) :=
 RIOX.calm h (fun vs bs es ⟨u,hu,h1,h2,h3⟩=>by rw [hs] at hu;cases hu;exact ⟨h1,h2,h3⟩) (fun ch ⟨e,he,_⟩=>by rw [hs] at he;cases he)
theorem rx_er {f:FuncId} {avs:List AV} {objs:List AB} {p:Nat} {α:Type} {spec:Except Er α} {V:α→List AV} {B E:α→List AB} (h:RX f avs objs p spec V B E) {e:Er} (hs:spec=.error e) :
  RIOX Tryz.prog f avs objs p (fun _ _ _=>False) (fun ch=>ch=stopC e) :=
 RIOX.imp h (fun vs bs es ⟨u,hu,_⟩=>by rw [hs] at hu;cases hu) (fun ch ⟨e',he,hc⟩=>by rw [hs] at he;cases he;exact hc)
def checkP (ok:Bool) (e:Int) (r:List Tok):Except Er Unit:=if ok=true then .ok () else .error ((hdT r).pos,e)
theorem check_x {T r:List Tok} (h:PSt T r) (ok:Bool) (e:Int):RX 172 [.ptr 0 0,.bool ok,.int .i64 e] [pobj T r] 1 (checkP ok e r) (fun _=>[]) (fun _=>[pobj T r]) (fun _=>[]):=by
 have hn:=next_ok h
 cases ok with
 | true =>
  refine xO (cxXOk (fun ch=>∃ er,checkP true e r=.error er∧ch=stopC er) 1 14 [0,1,2,7]) Tryz.func172 ?_
  conv=>whnf
  refine gF (cW ?_)
  refine ⟨_,Wk.refl _,rfl,rfl,(cW ?_)⟩
  exact ⟨rfl,(),rfl,rfl,rfl,rfl⟩
 | false =>
  refine xO (cxXOk (fun ch=>∃ er,checkP false e r=.error er∧ch=stopC er) 1 14 [0,1,2,7]) Tryz.func172 ?_
  conv=>whnf
  refine gT (cW ?_)
  refine cO (fun _=>hn) (cW ?_)
  refine .mk 185 _ rfl fun S w cs hr=>⟨((hdT r).pos,e),rfl,?_⟩
  rw [relT_int2 hr]
  rfl
def wantsP:List (List UInt8)→List Tok→Except Er (List Tok)
 | [],r=>.ok r
 | w::ws,r=>match wantP w r with
  | .error e=>.error e
  | .ok r'=>wantsP ws r'
abbrev wsL (ws:List (List UInt8)):List AV:=ws.map fun s=>AV.str s
theorem wsL_get (ws:List (List UInt8)) {k:Nat} (h:k<ws.length):(wsL ws).getD k .undef=.str (ws.getD k []):=by
 rw [List.getD_eq_getElem?_getD,List.getD_eq_getElem?_getD,List.getElem?_map,List.getElem?_eq_getElem h]
 rfl
theorem want_x {T r:List Tok} (h:PSt T r) (ws:List (List UInt8)) (hl:ws.length≤1000):RX 158 [.ptr 0 0,.own 1] [pobj T r,.lst 9 1 (wsL ws)] 1 (wantsP ws r) (fun _=>[]) (fun r'=>[pobj T r']) (fun _=>[]):=by
 have hsl:(wsL ws).length=ws.length:=List.length_map ..
 refine xO (cxXOk (fun ch=>∃ er,wantsP ws r=.error er∧ch=stopC er) 1 18 [0,1,5,6,7,8,9]) Tryz.func158 ?_
 conv=>whnf
 refine loop_inv (cxXOk _ _ _ _) (fun s:Nat×List Tok=>s.1≤ws.length∧PSt T s.2∧wantsP ws r=wantsP (ws.drop s.1) s.2) (fun s=>ws.length-s.1) (fun s=>⟨[(0,.ptr 0 0),(6,.own 1),(7,.int .i64 (ws.length:Nat)),(8,.int .i64 ((s.1):Nat))],[(0,.cells 183 (pcell T (s.2))),(1,.lst 9 1 (wsL ws))],2⟩) (0,r) ⟨by omega,h,rfl⟩ ((wk_of [(0,.id 0),(1,.id 1)] rfl ⟨wc0,ag0,.base (.tree _ _ (congrArg (fun n:Nat=>AV.int .i64 (n:Int)) hsl) rfl),wa0,trivial⟩ ⟨wb0,⟨_,rfl,.lst _ _ _ _ _ rfl rfl⟩,trivial⟩)) ?_
 rintro ⟨k,q⟩ ⟨hk,hq,hsp⟩
 dsimp only at hk hq hsp ⊢
 conv=>whnf
 refine ⟨fun hd=>?_,fun hd=>?_⟩
 ·have hd:=of_decide_eq_true hd
  have hlt:k<ws.length:=by omega
  have hek:(k:Int).toNat=k:=Int.toNat_natCast k
  have hdr:ws.drop k=ws.getD k []::ws.drop (k+1):=by
   rw [List.drop_eq_getElem_cons hlt,List.getD_eq_getElem?_getD,List.getElem?_eq_getElem hlt]
   rfl
  rw [hdr] at hsp
  have hh:=has_ok hq (ws.getD k [])
  have hg:(wsL ws).getD (k:Int).toNat .undef=.str (ws.getD k []):=by rw [hek];exact wsL_get ws hlt
  conv=>whnf
  refine iO (cW ?_)
  refine And.intro om0 (And.intro rfl (cW ?_))
  rw [hg]
  conv=>whnf
  refine cR (hh) [0] (cW ?_)
  cases hb:isT (ws.getD k []) q with
  | true =>
   have hw:wantsP ws r=wantsP (ws.drop (k+1)) q.tail:=by
    rw [hsp]
    simp only [wantsP,wantP,hb,if_true]
   rw [hb] at hh
   refine cR ((rx_ok (check_x (hq.tail (isT_kind hb)) true 12) rfl)) [0] (cW ?_)
   refine iO (cW ?_)
   exact ⟨(k+1,q.tail),⟨hlt,hq.tail (isT_kind hb),hw⟩,(by show ws.length-(k+1)<ws.length-k;omega),(wk_of [(0,.id 0),(1,.id 1)] rfl ⟨wc0,ag0,wa0,wa0,trivial⟩ ⟨wb0,⟨_,rfl,.lst _ _ _ _ _ rfl rfl⟩,trivial⟩)⟩
  | false =>
   have hw:wantsP ws r=.error ((hdT q).pos,12):=by
    rw [hsp]
    simp only [wantsP,wantP,hb,errP,Bool.false_eq_true,if_false]
   rw [hb] at hh
   exact CallG.stop rfl (riox_stop ((rx_er (check_x hq false 12) rfl)) [0] rfl rfl rfl ab0) ((fun ch hc=>⟨_,hw,hc⟩))
 ·conv=>whnf
  have hd:=of_decide_eq_false hd
  have hke:k=ws.length:=by omega
  have hw:wantsP ws r=.ok q:=by
   rw [hsp,hke,List.drop_length]
   rfl
  refine ⟨⟨[(0,.ptr 0 0)],[(0,.cells 183 (pcell T q))],1⟩,(wk_of [(0,.id 0)] rfl ⟨wc0,trivial⟩ ⟨wb0,trivial⟩),rfl,rfl,(cW ?_)⟩
  exact ⟨rfl,q,hw,rfl,rfl,rfl⟩
theorem name_x {T r:List Tok} (h:PSt T r):RX 159 [.ptr 0 0] [pobj T r] 1 (nameP r) (fun v=>[.str v.1]) (fun v=>[pobj T v.2]) (fun _=>[]):=by
 have hn:=named_ok h
 have hx:=next_ok h
 have hat:=h.at
 have h1:=h.pos
 have h2:=h.le
 have h3:=h.big
 unfold nameP
 cases hb:namedB r with
 | true =>
  rw [hb] at hn
  refine xO (cxXOk (fun ch=>∃ er,(if true=true then Except.ok ((hdT r).text,r.tail) else errP 12 r)=.error er∧ch=stopC er) 1 19 [0,2,3]) Tryz.func159 ?_
  conv=>whnf
  refine cO (fun _=>hn) (cW ?_)
  refine cR ((rx_ok (check_x h true 12) rfl)) [0] (cW ?_)
  refine cO (fun _=>hx) (cW ?_)
  refine iO (cW ?_)
  rw [hat]
  refine ⟨_,Wk.refl _,rfl,rfl,(cW ?_)⟩
  exact ⟨rfl,((hdT r).text,r.tail),rfl,rfl,rfl,rfl⟩
 | false =>
  rw [hb] at hn
  refine xO (cxXOk (fun ch=>∃ er,(if false=true then Except.ok ((hdT r).text,r.tail) else errP 12 r)=.error er∧ch=stopC er) 1 19 [0,2,3]) Tryz.func159 ?_
  conv=>whnf
  refine cO (fun _=>hn) (cW ?_)
  exact CallG.stop rfl (riox_stop ((rx_er (check_x h false 12) rfl)) [0] rfl rfl rfl ab0) ((fun ch hc=>⟨_,rfl,hc⟩))
theorem num_x {T r:List Tok} (h:PSt T r) (a b:Int):RX 162 [.ptr 0 0,.int .i64 a,.int .i64 b] [pobj T r] 1 (numP a b r) (fun v=>[.int .i64 v.1]) (fun v=>[pobj T v.2]) (fun _=>[]):=by
 have hx:=next_ok h
 have hat:=h.at
 have h1:=h.pos
 have h2:=h.le
 have h3:=h.big
 cases hk:decide ((hdT r).kind=1) with
 | false =>
  have hs:numP a b r=errP 12 r:=if_pos (of_decide_eq_false hk)
  refine xO (cxXOk (fun ch=>∃ er,numP a b r=.error er∧ch=stopC er) 1 36 [0,1,2,6,7]) Tryz.func162 ?_
  conv=>whnf
  refine cO (fun _=>hx) (cW ?_)
  rw [hk]
  exact CallG.stop rfl (riox_stop ((rx_er (check_x h false 12) rfl)) [0] rfl rfl rfl ab0) ((fun ch hc=>⟨_,hs,hc⟩))
 | true =>
  have hs:numP a b r=if a≤(hdT r).n∧(hdT r).n≤b then .ok ((hdT r).n,r.tail) else errP 3 r:=if_neg (by simpa using of_decide_eq_true hk)
  refine xO (cxXOk (fun ch=>∃ er,numP a b r=.error er∧ch=stopC er) 1 36 [0,1,2,6,7]) Tryz.func162 ?_
  conv=>whnf
  refine cO (fun _=>hx) (cW ?_)
  rw [hk]
  refine cR ((rx_ok (check_x h true 12) rfl)) [0] (cW ?_)
  by_cases hr:a≤(hdT r).n∧(hdT r).n≤b
  ·have hs':numP a b r=.ok ((hdT r).n,r.tail):=by rw [hs,if_pos hr]
   rw [show (decide (a≤(hdT r).n)&&decide ((hdT r).n≤b))=true by simp [hr.1,hr.2]]
   have hke:(hdT r).kind≠3:=by have:=of_decide_eq_true hk;omega
   refine cR ((rx_ok (check_x h true 3) rfl)) [0] (cW ?_)
   refine iO (cW ?_)
   rw [hat]
   refine ⟨⟨[(6,.int .i64 (hdT r).n)],[(0,.cells 183 (pcell T r.tail))],1⟩,(wk_of [(0,.id 0)] rfl ⟨wa0,trivial⟩ ⟨wb0,trivial⟩),rfl,rfl,(cW ?_)⟩
   exact ⟨rfl,((hdT r).n,r.tail),hs',rfl,rfl,rfl⟩
  ·have hs':numP a b r=.error ((hdT r).pos,3):=by rw [hs,if_neg hr];rfl
   rw [show (decide (a≤(hdT r).n)&&decide ((hdT r).n≤b))=false by simp;intro;omega]
   exact CallG.stop rfl (riox_stop ((rx_er (check_x h false 3) rfl)) [0] rfl rfl rfl ab0) ((fun ch hc=>⟨_,hs',hc⟩))
def Suf (r r':List Tok):Prop:=r' <:+ r∧(Fin1 r→Fin1 r')
theorem Suf.refl (r:List Tok):Suf r r:=⟨List.suffix_refl r,id⟩
theorem Suf.trans {a b c:List Tok} (h:Suf a b) (h':Suf b c):Suf a c:=⟨h'.1.trans h.1,fun x=>h'.2 (h.2 x)⟩
theorem Suf.le {a b:List Tok} (h:Suf a b):b.length≤a.length:=h.1.length_le
theorem Suf.tail {r:List Tok} (hk:(hdT r).kind≠3):Suf r r.tail:=⟨List.tail_suffix r,fun h=>h.tail hk⟩
theorem PSt.to {T r r':List Tok} (h:PSt T r) (hs:Suf r r'):PSt T r':=⟨hs.1.trans h.suf,hs.2 h.fin,h.big,h.txt⟩
theorem tail_lt {r:List Tok} (h:Fin1 r):r.tail.length<r.length:=by
 have:=List.length_pos_iff.2 h.ne
 rw [List.length_tail];omega
theorem wantP_suf {s:List UInt8} {r r':List Tok} (h:wantP s r=.ok r'):Suf r r':=by
 unfold wantP at h
 split at h
 ·rename_i hi
  cases h
  exact .tail (isT_kind hi)
 ·cases h
theorem wantsP_suf:∀ {ws:List (List UInt8)} {r r':List Tok},wantsP ws r=.ok r'→Suf r r'
 | [],r,r',h=>by cases h;exact .refl _
 | w::ws,r,r',h=>by
  unfold wantsP at h
  split at h
  ·cases h
  ·rename_i r1 h1
   exact (wantP_suf h1).trans (wantsP_suf h)
theorem nameP_suf {r r':List Tok} {s:List UInt8} (h:nameP r=.ok (s,r')):Suf r r':=by
 unfold nameP at h
 split at h
 ·rename_i hi
  cases h
  unfold namedB at hi
  simp only [Bool.and_eq_true,decide_eq_true_eq] at hi
  exact .tail om0
 ·cases h
theorem numP_suf {a b n:Int} {r r':List Tok} (h:numP a b r=.ok (n,r')):Suf r r'∧n=(hdT r).n:=by
 unfold numP at h
 split at h
 ·cases h
 ·split at h
  ·cases h
   exact ⟨.tail om0,rfl⟩
  ·cases h
theorem unitP_suf (r:List Tok):Suf r (unitP r).2:=by
 unfold unitP
 repeat' split
 all_goals first | exact .tail (isT_kind (by assumption)) | exact .refl _
def RecS (ex:Rec):Prop:=∀ form r x r',ex form r=.ok (x,r')→Suf r r'
def RecX (T:List Tok) (n:Nat) (ex:Rec):Prop:=∀ (form:Int) (r:List Tok),0≤form→form≤7→PSt T r→r.length≤n →
 RX 202 [.ptr 0 0,.int .i64 form] [pobj T r] 1 (ex form r) (fun v=>[encE v.1]) (fun v=>[pobj T v.2]) (fun v=>[.cells 51 (cellsE v.1)])
theorem want1_x {T r:List Tok} (h:PSt T r) (s:List UInt8):RX 158 [.ptr 0 0,.own 1] [pobj T r,.lst 9 1 [.str s]] 1 (wantP s r) (fun _=>[]) (fun r'=>[pobj T r']) (fun _=>[]):=by
 have e:wantP s r=wantsP [s] r:=by
  unfold wantsP
  try (cases wantP s r<;>rfl)
 rw [e]
 exact want_x h [s] (by simp)
theorem has_t {T r:List Tok} (h:PSt T r) {s:List UInt8} (hb:isT s r=true):RIO Tryz.prog 196 [.ptr 0 0,.str s] [pobj T r] 1 (fun vs bs es=>vs=[.bool true]∧bs=[pobj T r.tail]∧es=[]):=by
 have:=has_ok h s
 rw [hb] at this
 exact this
theorem has_f {T r:List Tok} (h:PSt T r) {s:List UInt8} (hb:isT s r=false):RIO Tryz.prog 196 [.ptr 0 0,.str s] [pobj T r] 1 (fun vs bs es=>vs=[.bool false]∧bs=[pobj T r]∧es=[]):=by
 have:=has_ok h s
 rw [hb] at this
 exact this
theorem unit_x {T r:List Tok} (h:PSt T r):RIO Tryz.prog 279 [.ptr 0 0] [pobj T r] 1 (fun vs bs es=>vs=[.int .i64 (unitP r).1]∧bs=[pobj T (unitP r).2]∧es=[]):=by
 have fin:∀ {p:Int×List Tok},unitP r=p→(RIO Tryz.prog 279 [.ptr 0 0] [pobj T r] 1 (fun vs bs es=>vs=[.int .i64 p.1]∧bs=[pobj T p.2]∧es=[]))→RIO Tryz.prog 279 [.ptr 0 0] [pobj T r] 1 (fun vs bs es=>vs=[.int .i64 (unitP r).1]∧bs=[pobj T (unitP r).2]∧es=[]):=by
  intro p hp hh
  rw [hp]
  exact hh
 cases h1:isT [99,111,105,110,115] r with
 | true =>
  refine fin (p:=(1,r.tail)) (by simp only [unitP,h1,if_true]) ?_
  refine rO (cxPOk 1 12 [0,2,3,6,9]) Tryz.func279 ?_
  conv=>whnf
  refine cR ((has_t h h1)) [0] ?_
  exact zt180
 | false =>
 cases h2:isT [100,97,121,115] r with
 | true =>
  refine fin (p:=(3,r.tail)) (by simp only [unitP,h1,h2,if_true,Bool.false_eq_true,if_false]) ?_
  refine rO (cxPOk 1 12 [0,2,3,6,9]) Tryz.func279 ?_
  conv=>whnf
  refine cR ((has_f h h1)) [0] (cW ?_)
  refine gF (cW ?_)
  refine cR ((has_t h h2)) [0] ?_
  exact zt180
 | false =>
 cases h3:isT [109,105,108,108,101] r with
 | true =>
  refine fin (p:=(2,r.tail)) (by simp only [unitP,h1,h2,h3,if_true,Bool.false_eq_true,if_false]) ?_
  refine rO (cxPOk 1 12 [0,2,3,6,9]) Tryz.func279 ?_
  conv=>whnf
  refine cR ((has_f h h1)) [0] (cW ?_)
  refine gF (cW ?_)
  refine cR ((has_f h h2)) [0] (cW ?_)
  refine gF (cW ?_)
  refine cR ((has_t h h3)) [0] ?_
  exact zt180
 | false =>
  refine fin (p:=(0,r)) (by simp only [unitP,h1,h2,h3,Bool.false_eq_true,if_false]) ?_
  refine rO (cxPOk 1 12 [0,2,3,6,9]) Tryz.func279 ?_
  conv=>whnf
  refine cR ((has_f h h1)) [0] (cW ?_)
  refine gF (cW ?_)
  refine cR ((has_f h h2)) [0] (cW ?_)
  refine gF (cW ?_)
  refine cR ((has_f h h3)) [0] (cW ?_)
  refine gF ?_
  exact zt58
theorem args1 (op n u:Int) (s:List UInt8) (x:Exp):AV.lsl 5 [encE x]=AV.lsl 5 (argsE (.mk op n u s [x])):=congrArg (AV.lsl 5) (argsE_eq (.mk op n u s [x])).symm
theorem args2 (op n u:Int) (s:List UInt8) (x y:Exp):AV.lsl 5 [encE x,encE y]=AV.lsl 5 (argsE (.mk op n u s [x,y])):=congrArg (AV.lsl 5) (argsE_eq (.mk op n u s [x,y])).symm
theorem args3 (op n u:Int) (s:List UInt8) (x y z:Exp):AV.lsl 5 [encE x,encE y,encE z]=AV.lsl 5 (argsE (.mk op n u s [x,y,z])):=congrArg (AV.lsl 5) (argsE_eq (.mk op n u s [x,y,z])).symm
theorem within_x {T r:List Tok} {n:Nat} {ex:Rec} (hS:RecS ex) (hX:RecX T n ex) (h:PSt T r) (hn:r.length≤n) (op:Int) :
  RX 280 [.ptr 0 0,.int .i64 op] [pobj T r] 1 (withinP ex op r) (fun v=>[encE v.1]) (fun v=>[pobj T v.2]) (fun v=>[.cells 51 (cellsE v.1)]):=by
 refine xO (cxXOk (fun ch=>∃ er,withinP ex op r=.error er∧ch=stopC er) 1 22 [0,1,4,5,6]) Tryz.func280 ?_
 conv=>whnf
 rcases e1:numP 1 1000 r with e | ⟨k,r1⟩
 ·exact CallG.stop rfl (riox_stop (rx_er (num_x h 1 1000) e1) [0] rfl rfl rfl ab0) (fun ch hc=>⟨e,by simp only [withinP,e1],hc⟩)
 refine cR (rx_ok (num_x h 1 1000) e1) [0] (cW ?_)
 have s1:=(numP_suf e1).1
 rcases e2:wantP [40] r1 with e | r2
 ·exact CallG.stop rfl (riox_stop (rx_er (want1_x (h.to s1) [40]) e2) [0,2] rfl rfl rfl ab0) (fun ch hc=>⟨e,by simp only [withinP,e1,e2],hc⟩)
 refine cR (rx_ok (want1_x (h.to s1) [40]) e2) [0,2] (cW ?_)
 have s2:=s1.trans (wantP_suf e2)
 rcases e3:ex 0 r2 with e | ⟨x,r3⟩
 ·exact CallG.stop rfl (riox_stop (rx_er (hX 0 r2 (by omega) (by omega) (h.to s2) (Nat.le_trans s2.le hn)) e3) [0] rfl rfl rfl ab0) (fun ch hc=>⟨e,by simp only [withinP,e1,e2,e3],hc⟩)
 refine cR (rx_ok (hX 0 r2 om0 om0 (h.to s2) (Nat.le_trans s2.le hn)) e3) [0] (cW ?_)
 have s3:=s2.trans (hS _ _ _ _ e3)
 rcases e4:wantP [41] r3 with e | r4
 ·exact CallG.stop rfl (riox_stop (rx_er (want1_x (h.to s3) [41]) e4) [0,5] rfl rfl rfl ab0) (fun ch hc=>⟨e,by simp only [withinP,e1,e2,e3,e4],hc⟩)
 refine cR (rx_ok (want1_x (h.to s3) [41]) e4) [0,5] (cW ?_)
 refine ⟨⟨[(4,.ptr 1 0)],[(0,.cells 183 (pcell T r4)),(1,.cells 51 (cellsE (.mk op k 0 [] [x])))],2⟩,(wk_frz [6]).trans (wk_of [(0,.id 0),(1,.id 1)] rfl ⟨wc0,trivial⟩ ⟨wb0,⟨_,rfl,.cells _ _ _ _ rfl (by repeat (first | exact .nil | refine .cons (by first | exact .base (.tree _ _ rfl rfl) | exact .base (.own _ _ rfl) | exact .base (.ptr _ _ _ rfl) | exact .base (.map _ _ rfl) | exact .base (.nilown _ rfl) | exact .fn _ _ _ _ _ .nil zp7 | exact .base (.tree _ _ (args1 op k 0 [] x) rfl) | exact .base (.leT _ _ (args1 op k 0 [] x) rfl)) ?_)) rfl⟩,trivial⟩),rfl,rfl,?_⟩
 conv=>whnf
 exact ⟨rfl,(.mk op k 0 [] [x],r4),by simp only [withinP,e1,e2,e3,e4],rfl,rfl,rfl⟩
theorem is_t {T r:List Tok} (h:PSt T r) {s:List UInt8} (hb:isT s r=true):APureV Tryz.prog 200 [.rop (pcell T r),.str s] (.bool true):=by
 have:=is_ok h s
 rw [hb] at this
 exact this
theorem is_f {T r:List Tok} (h:PSt T r) {s:List UInt8} (hb:isT s r=false):APureV Tryz.prog 200 [.rop (pcell T r),.str s] (.bool false):=by
 have:=is_ok h s
 rw [hb] at this
 exact this
structure NoW (r:List Tok) (k:Nat):Prop where
 kd:(hdT r).kind≠1
 w0:0<k→isT [116,114,117,101] r=false
 w1:1<k→isT [102,97,108,115,101] r=false
 w2:2<k→isT [102,97,99,116] r=false
 w3:3<k→isT [114,97,116,101] r=false
 w4:4<k→isT [101,118,101,114] r=false
 w5:5<k→isT [108,111,110,103] r=false
 w6:6<k→isT [115,111,111,110] r=false
abbrev PrX (T:List Tok) (ex:Rec) (r:List Tok):Prop:=RX 266 [.ptr 0 0] [pobj T r] 1 (primP ex r) (fun v=>[encE v.1]) (fun v=>[pobj T v.2]) (fun v=>[.cells 51 (cellsE v.1)])
theorem pr_of {T:List Tok} {ex:Rec} {r:List Tok} {s:Ps Exp} (e:primP ex r=s) (h:RX 266 [.ptr 0 0] [pobj T r] 1 s (fun v=>[encE v.1]) (fun v=>[pobj T v.2]) (fun v=>[.cells 51 (cellsE v.1)])):PrX T ex r:=by
 unfold PrX
 rw [e]
 exact h
theorem prim_num {T r:List Tok} (h:PSt T r) (hk:decide ((hdT r).kind=1)=true):RX 266 [.ptr 0 0] [pobj T r] 1 ((.ok (.mk 0 (hdT r).n (unitP r.tail).1 [] [],(unitP r.tail).2):Ps Exp)) (fun v=>[encE v.1]) (fun v=>[pobj T v.2]) (fun v=>[.cells 51 (cellsE v.1)]):=by
 have hx:=next_ok h
 have hat:=h.at
 have h1:=h.pos
 have h2:=h.le
 have h3:=h.big
 have hke:(hdT r).kind≠3:=by have:=of_decide_eq_true hk;omega
 have hu:=unit_x (h.tail hke)
 refine xO (cxXOk (fun ch=>∃ er,(.ok (.mk 0 (hdT r).n (unitP r.tail).1 [] [],(unitP r.tail).2):Ps Exp)=.error er∧ch=stopC er) 1 107 [0,2,3,4,5,6,7,10,26,30,34,40,46,51,56,61,69,95]) Tryz.func266 ?_
 conv=>whnf
 refine cO (fun _=>hx) (cW ?_)
 rw [hk]
 refine gT (cW ?_)
 refine iO (cW ?_)
 rw [hat]
 conv=>whnf
 refine .eff ad0 (cW ?_)
 refine cR (hu) [0] (cW ?_)
 refine ⟨by kernel_rfl,(cW ?_)⟩
 refine ⟨⟨[(2,.ptr 1 0)],[(0,.cells 183 (pcell T (unitP r.tail).2)),(1,.cells 51 (cellsE (.mk 0 (hdT r).n (unitP r.tail).1 [] [])))],2⟩,(wk_of [(0,.id 0),(1,.id 1)] rfl ⟨wc0,trivial⟩ ⟨wb0,wf0,trivial⟩),rfl,rfl,(cW ?_)⟩
 exact ⟨rfl,_,rfl,rfl,rfl,rfl⟩
theorem prim_true {T r:List Tok} (h:PSt T r) (hw:NoW r 0) (hb:isT [116,114,117,101] r=true):RX 266 [.ptr 0 0] [pobj T r] 1 ((.ok (.mk 0 1 4 [] [],r.tail):Ps Exp)) (fun v=>[encE v.1]) (fun v=>[pobj T v.2]) (fun v=>[.cells 51 (cellsE v.1)]):=by
 have hx:=next_ok h
 have hk:decide ((hdT r).kind=1)=false:=decide_eq_false hw.kd
 refine xO (cxXOk (fun ch=>∃ er,(.ok (.mk 0 1 4 [] [],r.tail):Ps Exp)=.error er∧ch=stopC er) 1 107 [0,2,3,4,5,6,7,10,26,30,34,40,46,51,56,61,69,95]) Tryz.func266 ?_
 conv=>whnf
 refine cO (fun _=>hx) (cW ?_)
 rw [hk]
 refine gF (cW ?_)
 refine cR ((has_t h hb)) [0] (cW ?_)
 refine gT (cW ?_)
 refine ⟨⟨[(2,.ptr 1 0)],[(0,.cells 183 (pcell T r.tail)),(1,.cells 51 (cellsE (.mk 0 1 4 [] [])))],2⟩,(wk_of [(0,.id 0),(1,.id 1)] rfl ⟨wc0,trivial⟩ ⟨wb0,wf0,trivial⟩),rfl,rfl,(cW ?_)⟩
 exact ⟨rfl,_,rfl,rfl,rfl,rfl⟩
theorem prim_false {T r:List Tok} (h:PSt T r) (hw:NoW r 1) (hb:isT [102,97,108,115,101] r=true):RX 266 [.ptr 0 0] [pobj T r] 1 ((.ok (.mk 0 0 4 [] [],r.tail):Ps Exp)) (fun v=>[encE v.1]) (fun v=>[pobj T v.2]) (fun v=>[.cells 51 (cellsE v.1)]):=by
 have hx:=next_ok h
 have hk:decide ((hdT r).kind=1)=false:=decide_eq_false hw.kd
 refine xO (cxXOk (fun ch=>∃ er,(.ok (.mk 0 0 4 [] [],r.tail):Ps Exp)=.error er∧ch=stopC er) 1 107 [0,2,3,4,5,6,7,10,26,30,34,40,46,51,56,61,69,95]) Tryz.func266 ?_
 conv=>whnf
 refine cO (fun _=>hx) (cW ?_)
 rw [hk]
 refine gF (cW ?_)
 refine cR ((has_f h (hw.w0 om0))) [0] (cW ?_)
 refine gF (cW ?_)
 refine cR ((has_t h hb)) [0] (cW ?_)
 refine gT (cW ?_)
 refine ⟨⟨[(2,.ptr 1 0)],[(0,.cells 183 (pcell T r.tail)),(1,.cells 51 (cellsE (.mk 0 0 4 [] [])))],2⟩,(wk_of [(0,.id 0),(1,.id 1)] rfl ⟨wc0,trivial⟩ ⟨wb0,wf0,trivial⟩),rfl,rfl,(cW ?_)⟩
 exact ⟨rfl,_,rfl,rfl,rfl,rfl⟩
theorem zt117 {p:Prop}(h:p:=by
 exact CallG.stop rfl (riox_stop (rx_er (name_x (h.tail (isT_kind hb))) e1) [0] rfl rfl rfl ab0) (fun ch hc=>⟨e,by simp only [namedP,e1],hc⟩)):p:=h
theorem prim_fact {T r:List Tok} (h:PSt T r) (hw:NoW r 2) (hb:isT [102,97,99,116] r=true):RX 266 [.ptr 0 0] [pobj T r] 1 (namedP 2 r.tail) (fun v=>[encE v.1]) (fun v=>[pobj T v.2]) (fun v=>[.cells 51 (cellsE v.1)]):=by
 have hx:=next_ok h
 have hk:decide ((hdT r).kind=1)=false:=decide_eq_false hw.kd
 refine xO (cxXOk (fun ch=>∃ er,namedP 2 r.tail=.error er∧ch=stopC er) 1 107 [0,2,3,4,5,6,7,10,26,30,34,40,46,51,56,61,69,95]) Tryz.func266 ?_
 conv=>whnf
 refine cO (fun _=>hx) (cW ?_)
 rw [hk]
 refine gF (cW ?_)
 refine cR ((has_f h (hw.w0 om0))) [0] (cW ?_)
 refine gF (cW ?_)
 refine cR ((has_f h (hw.w1 om0))) [0] (cW ?_)
 refine gF (cW ?_)
 refine cR ((has_t h hb)) [0] (cW ?_)
 refine gT (cW ?_)
 rcases e1:nameP r.tail with e | ⟨s,r1⟩
 ·exact zt117
 refine cR (rx_ok (name_x (h.tail (isT_kind hb))) e1) [0] (cW ?_)
 refine ⟨⟨[(2,.ptr 1 0)],[(0,.cells 183 (pcell T r1)),(1,.cells 51 (cellsE (.mk 2 0 0 s [])))],2⟩,(wk_of [(0,.id 0),(1,.id 1)] rfl ⟨wc0,trivial⟩ ⟨wb0,wf0,trivial⟩),rfl,rfl,(cW ?_)⟩
 exact ⟨rfl,(.mk 2 0 0 s [],r1),by simp only [namedP,e1],rfl,rfl,rfl⟩
theorem prim_rate {T r:List Tok} (h:PSt T r) (hw:NoW r 3) (hb:isT [114,97,116,101] r=true):RX 266 [.ptr 0 0] [pobj T r] 1 (namedP 3 r.tail) (fun v=>[encE v.1]) (fun v=>[pobj T v.2]) (fun v=>[.cells 51 (cellsE v.1)]):=by
 have hx:=next_ok h
 have hk:decide ((hdT r).kind=1)=false:=decide_eq_false hw.kd
 refine xO (cxXOk (fun ch=>∃ er,namedP 3 r.tail=.error er∧ch=stopC er) 1 107 [0,2,3,4,5,6,7,10,26,30,34,40,46,51,56,61,69,95]) Tryz.func266 ?_
 conv=>whnf
 refine cO (fun _=>hx) (cW ?_)
 rw [hk]
 refine gF (cW ?_)
 refine cR ((has_f h (hw.w0 om0))) [0] (cW ?_)
 refine gF (cW ?_)
 refine cR ((has_f h (hw.w1 om0))) [0] (cW ?_)
 refine gF (cW ?_)
 refine cR ((has_f h (hw.w2 om0))) [0] (cW ?_)
 refine gF (cW ?_)
 refine cR ((has_t h hb)) [0] (cW ?_)
 refine gT (cW ?_)
 rcases e1:nameP r.tail with e | ⟨s,r1⟩
 ·exact zt117
 refine cR (rx_ok (name_x (h.tail (isT_kind hb))) e1) [0] (cW ?_)
 refine ⟨⟨[(2,.ptr 1 0)],[(0,.cells 183 (pcell T r1)),(1,.cells 51 (cellsE (.mk 3 0 0 s [])))],2⟩,(wk_of [(0,.id 0),(1,.id 1)] rfl ⟨wc0,trivial⟩ ⟨wb0,wf0,trivial⟩),rfl,rfl,(cW ?_)⟩
 exact ⟨rfl,(.mk 3 0 0 s [],r1),by simp only [namedP,e1],rfl,rfl,rfl⟩
theorem zt33 {p:Prop}(h:p:=by
 conv=>whnf
 refine ⟨⟨[(2,.ptr 1 0)],[(0,.cells 183 (pcell T r1)),(1,.cells 51 (cellsE x))],2⟩,(wk_of [(0,.id 0),(1,.id 1)] rfl ⟨wc0,trivial⟩ ⟨wb0,wb0,trivial⟩),rfl,rfl,(cW ?_)⟩
 exact ⟨rfl,(x,r1),rfl,rfl,rfl,rfl⟩):p:=h
theorem prim_ever {T r:List Tok} (h:PSt T r) {n:Nat} {ex:Rec} (hS:RecS ex) (hX:RecX T n ex) (hn:r.tail.length≤n) (hw:NoW r 4) (hb:isT [101,118,101,114] r=true):RX 266 [.ptr 0 0] [pobj T r] 1 (withinP ex 16 r.tail) (fun v=>[encE v.1]) (fun v=>[pobj T v.2]) (fun v=>[.cells 51 (cellsE v.1)]):=by
 have hx:=next_ok h
 have hk:decide ((hdT r).kind=1)=false:=decide_eq_false hw.kd
 refine xO (cxXOk (fun ch=>∃ er,withinP ex 16 r.tail=.error er∧ch=stopC er) 1 107 [0,2,3,4,5,6,7,10,26,30,34,40,46,51,56,61,69,95]) Tryz.func266 ?_
 conv=>whnf
 refine cO (fun _=>hx) (cW ?_)
 rw [hk]
 refine gF (cW ?_)
 refine cR ((has_f h (hw.w0 om0))) [0] (cW ?_)
 refine gF (cW ?_)
 refine cR ((has_f h (hw.w1 om0))) [0] (cW ?_)
 refine gF (cW ?_)
 refine cR ((has_f h (hw.w2 om0))) [0] (cW ?_)
 refine gF (cW ?_)
 refine cR ((has_f h (hw.w3 om0))) [0] (cW ?_)
 refine gF (cW ?_)
 refine cR ((has_t h hb)) [0] (cW ?_)
 refine gT (cW ?_)
 rcases e1:withinP ex 16 r.tail with e | ⟨x,r1⟩
 ·exact CallG.stop rfl (riox_stop (rx_er (within_x hS hX (h.tail (isT_kind hb)) hn 16) e1) [0] rfl rfl rfl ab0) (fun ch hc=>⟨e,by simp only [Except.error.injEq,e1],hc⟩)
 refine cR (rx_ok (within_x hS hX (h.tail (isT_kind hb)) hn 16) e1) [0] ?_
 exact zt33
theorem prim_long {T r:List Tok} (h:PSt T r) {n:Nat} {ex:Rec} (hS:RecS ex) (hX:RecX T n ex) (hn:r.tail.length≤n) (hw:NoW r 5) (hb:isT [108,111,110,103] r=true):RX 266 [.ptr 0 0] [pobj T r] 1 (withinP ex 17 r.tail) (fun v=>[encE v.1]) (fun v=>[pobj T v.2]) (fun v=>[.cells 51 (cellsE v.1)]):=by
 have hx:=next_ok h
 have hk:decide ((hdT r).kind=1)=false:=decide_eq_false hw.kd
 refine xO (cxXOk (fun ch=>∃ er,withinP ex 17 r.tail=.error er∧ch=stopC er) 1 107 [0,2,3,4,5,6,7,10,26,30,34,40,46,51,56,61,69,95]) Tryz.func266 ?_
 conv=>whnf
 refine cO (fun _=>hx) (cW ?_)
 rw [hk]
 refine gF (cW ?_)
 refine cR ((has_f h (hw.w0 om0))) [0] (cW ?_)
 refine gF (cW ?_)
 refine cR ((has_f h (hw.w1 om0))) [0] (cW ?_)
 refine gF (cW ?_)
 refine cR ((has_f h (hw.w2 om0))) [0] (cW ?_)
 refine gF (cW ?_)
 refine cR ((has_f h (hw.w3 om0))) [0] (cW ?_)
 refine gF (cW ?_)
 refine cR ((has_f h (hw.w4 om0))) [0] (cW ?_)
 refine gF (cW ?_)
 refine cR ((has_t h hb)) [0] (cW ?_)
 refine gT (cW ?_)
 rcases e1:withinP ex 17 r.tail with e | ⟨x,r1⟩
 ·exact CallG.stop rfl (riox_stop (rx_er (within_x hS hX (h.tail (isT_kind hb)) hn 17) e1) [0] rfl rfl rfl ab0) (fun ch hc=>⟨e,by simp only [Except.error.injEq,e1],hc⟩)
 refine cR (rx_ok (within_x hS hX (h.tail (isT_kind hb)) hn 17) e1) [0] ?_
 exact zt33
theorem prim_soon {T r:List Tok} (h:PSt T r) {n:Nat} {ex:Rec} (hS:RecS ex) (hX:RecX T n ex) (hn:r.tail.length≤n) (hw:NoW r 6) (hb:isT [115,111,111,110] r=true):RX 266 [.ptr 0 0] [pobj T r] 1 (withinP ex 18 r.tail) (fun v=>[encE v.1]) (fun v=>[pobj T v.2]) (fun v=>[.cells 51 (cellsE v.1)]):=by
 have hx:=next_ok h
 have hk:decide ((hdT r).kind=1)=false:=decide_eq_false hw.kd
 refine xO (cxXOk (fun ch=>∃ er,withinP ex 18 r.tail=.error er∧ch=stopC er) 1 107 [0,2,3,4,5,6,7,10,26,30,34,40,46,51,56,61,69,95]) Tryz.func266 ?_
 conv=>whnf
 refine cO (fun _=>hx) (cW ?_)
 rw [hk]
 refine gF (cW ?_)
 refine cR ((has_f h (hw.w0 om0))) [0] (cW ?_)
 refine gF (cW ?_)
 refine cR ((has_f h (hw.w1 om0))) [0] (cW ?_)
 refine gF (cW ?_)
 refine cR ((has_f h (hw.w2 om0))) [0] (cW ?_)
 refine gF (cW ?_)
 refine cR ((has_f h (hw.w3 om0))) [0] (cW ?_)
 refine gF (cW ?_)
 refine cR ((has_f h (hw.w4 om0))) [0] (cW ?_)
 refine gF (cW ?_)
 refine cR ((has_f h (hw.w5 om0))) [0] (cW ?_)
 refine gF (cW ?_)
 refine cR ((has_t h hb)) [0] (cW ?_)
 refine gT (cW ?_)
 rcases e1:withinP ex 18 r.tail with e | ⟨x,r1⟩
 ·exact CallG.stop rfl (riox_stop (rx_er (within_x hS hX (h.tail (isT_kind hb)) hn 18) e1) [0] rfl rfl rfl ab0) (fun ch hc=>⟨e,by simp only [Except.error.injEq,e1],hc⟩)
 refine cR (rx_ok (within_x hS hX (h.tail (isT_kind hb)) hn 18) e1) [0] ?_
 exact zt33
theorem zt92 {p:Prop}(h:p:=by
 exact CallG.stop rfl (riox_stop (rx_er (hX 0 r3 (by omega) (by omega) (q0.to s3) (Nat.le_trans s3.le hn)) e4) [0] rfl rfl rfl ab0) (fun ch hc=>⟨e,by simp only [pairP,e1,e2,e3,e4],hc⟩)):p:=h
theorem zt116 {p:Prop}(h:p:=by
 exact CallG.stop rfl (riox_stop (rx_er (want1_x (q0.to s2) [44]) e3) [0,6] rfl rfl rfl ab0) (fun ch hc=>⟨e,by simp only [pairP,e1,e2,e3],hc⟩)):p:=h
theorem zt112 {p:Prop}(h:p:=by
 exact CallG.stop rfl (riox_stop (rx_er (want1_x (q0.to s4) [41]) e5) [0,9] rfl rfl rfl ab0) (fun ch hc=>⟨e,by simp only [pairP,e1,e2,e3,e4,e5],hc⟩)):p:=h
theorem zt95 {p:Prop}(h:p:=by
 exact CallG.stop rfl (riox_stop (rx_er (hX 0 r1 (by omega) (by omega) (q0.to s1) (Nat.le_trans s1.le hn)) e2) [0] rfl rfl rfl ab0) (fun ch hc=>⟨e,by simp only [pairP,e1,e2],hc⟩)):p:=h
theorem zt129 {p:Prop}(h:p:=by
 exact CallG.stop rfl (riox_stop (rx_er (want1_x q0 [40]) e1) [0,3] rfl rfl rfl ab0) (fun ch hc=>⟨e,by simp only [pairP,e1],hc⟩)):p:=h
theorem prim_min {T r:List Tok} (h:PSt T r) {n:Nat} {ex:Rec} (hS:RecS ex) (hX:RecX T n ex) (hn:r.tail.length≤n) (hw:NoW r 7) (hb:isT [109,105,110] r=true) (hbx:isT [109,97,120] r=false):RX 266 [.ptr 0 0] [pobj T r] 1 (pairP ex 8 r.tail) (fun v=>[encE v.1]) (fun v=>[pobj T v.2]) (fun v=>[.cells 51 (cellsE v.1)]):=by
 have hat:=h.at
 have h1:=h.pos
 have h2:=h.le
 have h3:=h.big
 have hx:=next_ok h
 have hk:decide ((hdT r).kind=1)=false:=decide_eq_false hw.kd
 refine xO (cxXOk (fun ch=>∃ er,pairP ex 8 r.tail=.error er∧ch=stopC er) 1 107 [0,2,3,4,5,6,7,10,26,30,34,40,46,51,56,61,69,95]) Tryz.func266 ?_
 conv=>whnf
 refine cO (fun _=>hx) (cW ?_)
 rw [hk]
 refine gF (cW ?_)
 refine cR ((has_f h (hw.w0 om0))) [0] (cW ?_)
 refine gF (cW ?_)
 refine cR ((has_f h (hw.w1 om0))) [0] (cW ?_)
 refine gF (cW ?_)
 refine cR ((has_f h (hw.w2 om0))) [0] (cW ?_)
 refine gF (cW ?_)
 refine cR ((has_f h (hw.w3 om0))) [0] (cW ?_)
 refine gF (cW ?_)
 refine cR ((has_f h (hw.w4 om0))) [0] (cW ?_)
 refine gF (cW ?_)
 refine cR ((has_f h (hw.w5 om0))) [0] (cW ?_)
 refine gF (cW ?_)
 refine cR ((has_f h (hw.w6 om0))) [0] (cW ?_)
 refine gF (cW ?_)
 refine cO (fun _=>(is_t h hb)) (cW ?_)
 refine cF [.rop (pcell T r),.str [109,97,120]] [.val (.bool false)] (cW ?_)
 refine gT (cW ?_)
 refine cO (fun _=>(is_f h hbx)) (cW ?_)
 refine gF (cW ?_)
 refine iO (cW ?_)
 rw [hat]
 conv=>whnf
 have q0:=h.tail (isT_kind hb)
 rcases e1:wantP [40] r.tail with e | r1
 ·exact zt129
 refine cR (rx_ok (want1_x q0 [40]) e1) [0,3] (cW ?_)
 have s1:=wantP_suf e1
 rcases e2:ex 0 r1 with e | ⟨x,r2⟩
 ·exact zt95
 refine cR (rx_ok (hX 0 r1 om0 om0 (q0.to s1) (Nat.le_trans s1.le hn)) e2) [0] (cW ?_)
 have s2:=s1.trans (hS _ _ _ _ e2)
 rcases e3:wantP [44] r2 with e | r3
 ·exact zt116
 refine cR (rx_ok (want1_x (q0.to s2) [44]) e3) [0,6] (cW ?_)
 have s3:=s2.trans (wantP_suf e3)
 rcases e4:ex 0 r3 with e | ⟨y,r4⟩
 ·exact zt92
 refine cR (rx_ok (hX 0 r3 om0 om0 (q0.to s3) (Nat.le_trans s3.le hn)) e4) [0] (cW ?_)
 have s4:=s3.trans (hS _ _ _ _ e4)
 rcases e5:wantP [41] r4 with e | r5
 ·exact zt112
 refine cR (rx_ok (want1_x (q0.to s4) [41]) e5) [0,9] (cW ?_)
 refine ⟨⟨[(2,.ptr 1 0)],[(0,.cells 183 (pcell T r5)),(1,.cells 51 (cellsE (.mk 8 0 0 [] [x,y])))],2⟩,(wk_frz [10]).trans (wk_of [(0,.id 0),(1,.id 1)] rfl ⟨wc0,trivial⟩ ⟨wb0,⟨_,rfl,.cells _ _ _ _ rfl (by repeat (first | exact .nil | refine .cons (by first | exact .base (.tree _ _ rfl rfl) | exact .base (.own _ _ rfl) | exact .base (.ptr _ _ _ rfl) | exact .base (.map _ _ rfl) | exact .base (.nilown _ rfl) | exact .fn _ _ _ _ _ .nil zp7 | exact .base (.tree _ _ (args2 8 0 0 [] x y) rfl) | exact .base (.leT _ _ (args2 8 0 0 [] x y) rfl)) ?_)) rfl⟩,trivial⟩),rfl,rfl,?_⟩
 conv=>whnf
 exact ⟨rfl,(.mk 8 0 0 [] [x,y],r5),by simp only [pairP,e1,e2,e3,e4,e5],rfl,rfl,rfl⟩
theorem prim_max {T r:List Tok} (h:PSt T r) {n:Nat} {ex:Rec} (hS:RecS ex) (hX:RecX T n ex) (hn:r.tail.length≤n) (hw:NoW r 7) (hbi:isT [109,105,110] r=false) (hb:isT [109,97,120] r=true):RX 266 [.ptr 0 0] [pobj T r] 1 (pairP ex 9 r.tail) (fun v=>[encE v.1]) (fun v=>[pobj T v.2]) (fun v=>[.cells 51 (cellsE v.1)]):=by
 have hat:=h.at
 have h1:=h.pos
 have h2:=h.le
 have h3:=h.big
 have hx:=next_ok h
 have hk:decide ((hdT r).kind=1)=false:=decide_eq_false hw.kd
 refine xO (cxXOk (fun ch=>∃ er,pairP ex 9 r.tail=.error er∧ch=stopC er) 1 107 [0,2,3,4,5,6,7,10,26,30,34,40,46,51,56,61,69,95]) Tryz.func266 ?_
 conv=>whnf
 refine cO (fun _=>hx) (cW ?_)
 rw [hk]
 refine gF (cW ?_)
 refine cR ((has_f h (hw.w0 om0))) [0] (cW ?_)
 refine gF (cW ?_)
 refine cR ((has_f h (hw.w1 om0))) [0] (cW ?_)
 refine gF (cW ?_)
 refine cR ((has_f h (hw.w2 om0))) [0] (cW ?_)
 refine gF (cW ?_)
 refine cR ((has_f h (hw.w3 om0))) [0] (cW ?_)
 refine gF (cW ?_)
 refine cR ((has_f h (hw.w4 om0))) [0] (cW ?_)
 refine gF (cW ?_)
 refine cR ((has_f h (hw.w5 om0))) [0] (cW ?_)
 refine gF (cW ?_)
 refine cR ((has_f h (hw.w6 om0))) [0] (cW ?_)
 refine gF (cW ?_)
 refine cO (fun _=>(is_f h hbi)) (cW ?_)
 refine cO (fun _=>(is_t h hb)) (cW ?_)
 refine gT (cW ?_)
 refine cO (fun _=>(is_t h hb)) (cW ?_)
 refine gT (cW ?_)
 refine iO (cW ?_)
 rw [hat]
 conv=>whnf
 have q0:=h.tail (isT_kind hb)
 rcases e1:wantP [40] r.tail with e | r1
 ·exact zt129
 refine cR (rx_ok (want1_x q0 [40]) e1) [0,3] (cW ?_)
 have s1:=wantP_suf e1
 rcases e2:ex 0 r1 with e | ⟨x,r2⟩
 ·exact zt95
 refine cR (rx_ok (hX 0 r1 om0 om0 (q0.to s1) (Nat.le_trans s1.le hn)) e2) [0] (cW ?_)
 have s2:=s1.trans (hS _ _ _ _ e2)
 rcases e3:wantP [44] r2 with e | r3
 ·exact zt116
 refine cR (rx_ok (want1_x (q0.to s2) [44]) e3) [0,6] (cW ?_)
 have s3:=s2.trans (wantP_suf e3)
 rcases e4:ex 0 r3 with e | ⟨y,r4⟩
 ·exact zt92
 refine cR (rx_ok (hX 0 r3 om0 om0 (q0.to s3) (Nat.le_trans s3.le hn)) e4) [0] (cW ?_)
 have s4:=s3.trans (hS _ _ _ _ e4)
 rcases e5:wantP [41] r4 with e | r5
 ·exact zt112
 refine cR (rx_ok (want1_x (q0.to s4) [41]) e5) [0,9] (cW ?_)
 refine ⟨⟨[(2,.ptr 1 0)],[(0,.cells 183 (pcell T r5)),(1,.cells 51 (cellsE (.mk 9 0 0 [] [x,y])))],2⟩,(wk_frz [10]).trans (wk_of [(0,.id 0),(1,.id 1)] rfl ⟨wc0,trivial⟩ ⟨wb0,⟨_,rfl,.cells _ _ _ _ rfl (by repeat (first | exact .nil | refine .cons (by first | exact .base (.tree _ _ rfl rfl) | exact .base (.own _ _ rfl) | exact .base (.ptr _ _ _ rfl) | exact .base (.map _ _ rfl) | exact .base (.nilown _ rfl) | exact .fn _ _ _ _ _ .nil zp7 | exact .base (.tree _ _ (args2 9 0 0 [] x y) rfl) | exact .base (.leT _ _ (args2 9 0 0 [] x y) rfl)) ?_)) rfl⟩,trivial⟩),rfl,rfl,?_⟩
 conv=>whnf
 exact ⟨rfl,(.mk 9 0 0 [] [x,y],r5),by simp only [pairP,e1,e2,e3,e4,e5],rfl,rfl,rfl⟩
theorem prim_paren {T r:List Tok} (h:PSt T r) {n:Nat} {ex:Rec} (hS:RecS ex) (hX:RecX T n ex) (hn:r.tail.length≤n) (hw:NoW r 7) (hbi:isT [109,105,110] r=false) (hbx:isT [109,97,120] r=false) (hb:isT [40] r=true):RX 266 [.ptr 0 0] [pobj T r] 1 (parenP ex r.tail) (fun v=>[encE v.1]) (fun v=>[pobj T v.2]) (fun v=>[.cells 51 (cellsE v.1)]):=by
 have hx:=next_ok h
 have hk:decide ((hdT r).kind=1)=false:=decide_eq_false hw.kd
 refine xO (cxXOk (fun ch=>∃ er,parenP ex r.tail=.error er∧ch=stopC er) 1 107 [0,2,3,4,5,6,7,10,26,30,34,40,46,51,56,61,69,95]) Tryz.func266 ?_
 conv=>whnf
 refine cO (fun _=>hx) (cW ?_)
 rw [hk]
 refine gF (cW ?_)
 refine cR ((has_f h (hw.w0 om0))) [0] (cW ?_)
 refine gF (cW ?_)
 refine cR ((has_f h (hw.w1 om0))) [0] (cW ?_)
 refine gF (cW ?_)
 refine cR ((has_f h (hw.w2 om0))) [0] (cW ?_)
 refine gF (cW ?_)
 refine cR ((has_f h (hw.w3 om0))) [0] (cW ?_)
 refine gF (cW ?_)
 refine cR ((has_f h (hw.w4 om0))) [0] (cW ?_)
 refine gF (cW ?_)
 refine cR ((has_f h (hw.w5 om0))) [0] (cW ?_)
 refine gF (cW ?_)
 refine cR ((has_f h (hw.w6 om0))) [0] (cW ?_)
 refine gF (cW ?_)
 refine cO (fun _=>(is_f h hbi)) (cW ?_)
 refine cO (fun _=>(is_f h hbx)) (cW ?_)
 refine gF (cW ?_)
 have q0:=h.tail (isT_kind hb)
 refine cR ((has_t h hb)) [0] (cW ?_)
 refine gT (cW ?_)
 rcases e1:ex 0 r.tail with e | ⟨x,r1⟩
 ·exact CallG.stop rfl (riox_stop (rx_er (hX 0 r.tail (by omega) (by omega) q0 hn) e1) [0] rfl rfl rfl ab0) (fun ch hc=>⟨e,by simp only [parenP,e1],hc⟩)
 refine cR (rx_ok (hX 0 r.tail om0 om0 q0 hn) e1) [0] (cW ?_)
 have s1:=hS _ _ _ _ e1
 rcases e2:wantP [41] r1 with e | r2
 ·exact CallG.stop rfl (riox_stop (rx_er (want1_x (q0.to s1) [41]) e2) [0,5] rfl rfl rfl ab0) (fun ch hc=>⟨e,by simp only [parenP,e1,e2],hc⟩)
 refine cR (rx_ok (want1_x (q0.to s1) [41]) e2) [0,5] (cW ?_)
 refine ⟨⟨[(2,.ptr 1 0)],[(0,.cells 183 (pcell T r2)),(1,.cells 51 (cellsE x))],2⟩,(wk_of [(0,.id 0),(1,.id 1)] rfl ⟨wc0,trivial⟩ ⟨wb0,wb0,trivial⟩),rfl,rfl,(cW ?_)⟩
 exact ⟨rfl,(x,r2),by simp only [parenP,e1,e2],rfl,rfl,rfl⟩
theorem prim_name {T r:List Tok} (h:PSt T r) (hw:NoW r 7) (hbi:isT [109,105,110] r=false) (hbx:isT [109,97,120] r=false) (hb:isT [40] r=false):RX 266 [.ptr 0 0] [pobj T r] 1 (namedP 1 r) (fun v=>[encE v.1]) (fun v=>[pobj T v.2]) (fun v=>[.cells 51 (cellsE v.1)]):=by
 have hx:=next_ok h
 have hk:decide ((hdT r).kind=1)=false:=decide_eq_false hw.kd
 refine xO (cxXOk (fun ch=>∃ er,namedP 1 r=.error er∧ch=stopC er) 1 107 [0,2,3,4,5,6,7,10,26,30,34,40,46,51,56,61,69,95]) Tryz.func266 ?_
 conv=>whnf
 refine cO (fun _=>hx) (cW ?_)
 rw [hk]
 refine gF (cW ?_)
 refine cR ((has_f h (hw.w0 om0))) [0] (cW ?_)
 refine gF (cW ?_)
 refine cR ((has_f h (hw.w1 om0))) [0] (cW ?_)
 refine gF (cW ?_)
 refine cR ((has_f h (hw.w2 om0))) [0] (cW ?_)
 refine gF (cW ?_)
 refine cR ((has_f h (hw.w3 om0))) [0] (cW ?_)
 refine gF (cW ?_)
 refine cR ((has_f h (hw.w4 om0))) [0] (cW ?_)
 refine gF (cW ?_)
 refine cR ((has_f h (hw.w5 om0))) [0] (cW ?_)
 refine gF (cW ?_)
 refine cR ((has_f h (hw.w6 om0))) [0] (cW ?_)
 refine gF (cW ?_)
 refine cO (fun _=>(is_f h hbi)) (cW ?_)
 refine cO (fun _=>(is_f h hbx)) (cW ?_)
 refine gF (cW ?_)
 refine cR ((has_f h hb)) [0] (cW ?_)
 refine gF (cW ?_)
 rcases e1:nameP r with e | ⟨s,r1⟩
 ·exact CallG.stop rfl (riox_stop (rx_er (name_x h) e1) [0] rfl rfl rfl ab0) (fun ch hc=>⟨e,by simp only [namedP,e1],hc⟩)
 refine cR (rx_ok (name_x h) e1) [0] (cW ?_)
 refine ⟨⟨[(2,.ptr 1 0)],[(0,.cells 183 (pcell T r1)),(1,.cells 51 (cellsE (.mk 1 0 0 s [])))],2⟩,(wk_of [(0,.id 0),(1,.id 1)] rfl ⟨wc0,trivial⟩ ⟨wb0,wf0,trivial⟩),rfl,rfl,(cW ?_)⟩
 exact ⟨rfl,(.mk 1 0 0 s [],r1),by simp only [namedP,e1],rfl,rfl,rfl⟩
theorem zt165 {p:Prop}(h:p:=by
 unfold isT at b7 ⊢
 simp only [Bool.and_eq_true,decide_eq_true_eq] at b7
 rw [b7.2]
 simp):p:=h
theorem prim_x {T r:List Tok} {n:Nat} {ex:Rec} (hS:RecS ex) (hX:RecX T n ex) (h:PSt T r) (hn:r.length≤n+1):PrX T ex r:=by
 have hlt:=tail_lt h.fin
 have hn':r.tail.length≤n:=by omega
 by_cases hk:(hdT r).kind=1
 ·exact pr_of (by simp only [primP,hk,if_true]) (prim_num h (decide_eq_true hk))
 cases b0:isT [116,114,117,101] r with
 | true=>exact pr_of (by simp only [primP,if_neg hk,b0,if_true]) (prim_true h ⟨hk,by omega,by omega,by omega,by omega,by omega,by omega,by omega⟩ b0)
 | false =>
 cases b1:isT [102,97,108,115,101] r with
 | true=>exact pr_of (by simp only [primP,if_neg hk,b0,b1,Bool.false_eq_true,if_false,if_true]) (prim_false h ⟨hk,fun _=>b0,by omega,by omega,by omega,by omega,by omega,by omega⟩ b1)
 | false =>
 cases b2:isT [102,97,99,116] r with
 | true=>exact pr_of (by simp only [primP,if_neg hk,b0,b1,b2,Bool.false_eq_true,if_false,if_true]) (prim_fact h ⟨hk,fun _=>b0,fun _=>b1,by omega,by omega,by omega,by omega,by omega⟩ b2)
 | false =>
 cases b3:isT [114,97,116,101] r with
 | true=>exact pr_of (by simp only [primP,if_neg hk,b0,b1,b2,b3,Bool.false_eq_true,if_false,if_true]) (prim_rate h ⟨hk,fun _=>b0,fun _=>b1,fun _=>b2,by omega,by omega,by omega,by omega⟩ b3)
 | false =>
 cases b4:isT [101,118,101,114] r with
 | true=>exact pr_of (by simp only [primP,if_neg hk,b0,b1,b2,b3,b4,Bool.false_eq_true,if_false,if_true]) (prim_ever h hS hX hn' ⟨hk,fun _=>b0,fun _=>b1,fun _=>b2,fun _=>b3,by omega,by omega,by omega⟩ b4)
 | false =>
 cases b5:isT [108,111,110,103] r with
 | true=>exact pr_of (by simp only [primP,if_neg hk,b0,b1,b2,b3,b4,b5,Bool.false_eq_true,if_false,if_true]) (prim_long h hS hX hn' ⟨hk,fun _=>b0,fun _=>b1,fun _=>b2,fun _=>b3,fun _=>b4,by omega,by omega⟩ b5)
 | false =>
 cases b6:isT [115,111,111,110] r with
 | true=>exact pr_of (by simp only [primP,if_neg hk,b0,b1,b2,b3,b4,b5,b6,Bool.false_eq_true,if_false,if_true]) (prim_soon h hS hX hn' ⟨hk,fun _=>b0,fun _=>b1,fun _=>b2,fun _=>b3,fun _=>b4,fun _=>b5,by omega⟩ b6)
 | false =>
 have hw:NoW r 7:=⟨hk,fun _=>b0,fun _=>b1,fun _=>b2,fun _=>b3,fun _=>b4,fun _=>b5,fun _=>b6⟩
 cases b7:isT [109,105,110] r with
 | true =>
  have bx:isT [109,97,120] r=false:=by
   exact zt165
  exact pr_of (by simp only [primP,if_neg hk,b0,b1,b2,b3,b4,b5,b6,b7,bx,Bool.false_eq_true,if_false,if_true,true_or]) (prim_min h hS hX hn' hw b7 bx)
 | false =>
 cases b8:isT [109,97,120] r with
 | true=>exact pr_of (by simp only [primP,if_neg hk,b0,b1,b2,b3,b4,b5,b6,b7,b8,Bool.false_eq_true,if_false,if_true,or_true]) (prim_max h hS hX hn' hw b7 b8)
 | false =>
 cases b9:isT [40] r with
 | true=>exact pr_of (by simp only [primP,if_neg hk,b0,b1,b2,b3,b4,b5,b6,b7,b8,b9,Bool.false_eq_true,if_false,if_true,or_self]) (prim_paren h hS hX hn' hw b7 b8 b9)
 | false=>exact pr_of (by simp only [primP,if_neg hk,b0,b1,b2,b3,b4,b5,b6,b7,b8,b9,Bool.false_eq_true,if_false,or_self]) (prim_name h hw b7 b8 b9)
theorem withinP_suf {ex:Rec} (hS:RecS ex) {op:Int} {r r':List Tok} {x:Exp} (h:withinP ex op r=.ok (x,r')):Suf r r':=by
 unfold withinP at h
 split at h
 ·cases h
 ·rename_i _ _ e1
  split at h
  ·cases h
  ·rename_i _ _ e2
   split at h
   ·cases h
   ·rename_i _ _ e3
    split at h
    ·cases h
    ·rename_i _ e4
     cases h
     exact (((numP_suf e1).1.trans (wantP_suf e2)).trans (hS _ _ _ _ e3)).trans (wantP_suf e4)
theorem pairP_suf {ex:Rec} (hS:RecS ex) {op:Int} {r r':List Tok} {x:Exp} (h:pairP ex op r=.ok (x,r')):Suf r r':=by
 unfold pairP at h
 split at h
 ·cases h
 ·rename_i _ e1
  split at h
  ·cases h
  ·rename_i _ _ e2
   split at h
   ·cases h
   ·rename_i _ e3
    split at h
    ·cases h
    ·rename_i _ _ e4
     split at h
     ·cases h
     ·rename_i _ e5
      cases h
      exact ((((wantP_suf e1).trans (hS _ _ _ _ e2)).trans (wantP_suf e3)).trans (hS _ _ _ _ e4)).trans (wantP_suf e5)
theorem namedP_suf {op:Int} {r r':List Tok} {x:Exp} (h:namedP op r=.ok (x,r')):Suf r r':=by
 unfold namedP at h
 split at h
 ·cases h
 ·rename_i _ _ e1
  cases h
  exact nameP_suf e1
theorem parenP_suf {ex:Rec} (hS:RecS ex) {r r':List Tok} {x:Exp} (h:parenP ex r=.ok (x,r')):Suf r r':=by
 unfold parenP at h
 split at h
 ·cases h
 ·rename_i _ _ e1
  split at h
  ·cases h
  ·rename_i _ e2
   cases h
   exact (hS _ _ _ _ e1).trans (wantP_suf e2)
theorem zt138 {p:Prop}(h:p:=by
 rename_i hk;exact (Suf.tail (isT_kind hk)).trans (withinP_suf hS h)):p:=h
theorem primP_suf {ex:Rec} (hS:RecS ex) {r r':List Tok} {x:Exp} (h:primP ex r=.ok (x,r')):Suf r r':=by
 unfold primP at h
 split at h
 ·rename_i hk
  cases h
  exact (Suf.tail om0).trans (unitP_suf _)
 split at h
 ·rename_i hk;cases h;exact .tail (isT_kind hk)
 split at h
 ·rename_i hk;cases h;exact .tail (isT_kind hk)
 split at h
 ·rename_i hk;exact (Suf.tail (isT_kind hk)).trans (namedP_suf h)
 split at h
 ·rename_i hk;exact (Suf.tail (isT_kind hk)).trans (namedP_suf h)
 split at h
 ·exact zt138
 split at h
 ·exact zt138
 split at h
 ·exact zt138
 split at h
 ·rename_i hk;exact (Suf.tail (hk.elim isT_kind isT_kind)).trans (pairP_suf hS h)
 split at h
 ·rename_i hk;exact (Suf.tail (isT_kind hk)).trans (parenP_suf hS h)
 exact namedP_suf h
theorem ifP_suf {ex:Rec} (hS:RecS ex) {r r':List Tok} {x:Exp} (h:ifP ex r=.ok (x,r')):Suf r r':=by
 unfold ifP at h
 split at h
 ·cases h
 ·rename_i _ _ e1
  split at h
  ·cases h
  ·rename_i _ e2
   split at h
   ·cases h
   ·rename_i _ _ e3
    split at h
    ·cases h
    ·rename_i _ e4
     split at h
     ·cases h
     ·rename_i _ _ e5
      cases h
      exact ((((hS _ _ _ _ e1).trans (wantP_suf e2)).trans (hS _ _ _ _ e3)).trans (wantP_suf e4)).trans (hS _ _ _ _ e5)
theorem notP_suf {ex:Rec} (hS:RecS ex) {r r':List Tok} {x:Exp} (h:notP ex r=.ok (x,r')):Suf r r':=by
 unfold notP at h
 split at h
 ·cases h
 ·rename_i _ _ e1
  cases h
  exact hS _ _ _ _ e1
theorem prefP_suf {ex:Rec} (hS:RecS ex) {form:Int} {r r':List Tok} {x:Exp} {o:Int} (h:prefP ex form r=.ok ((x,o),r')):Suf r r'∧0≤o∧o≤7:=by
 unfold prefP at h
 split at h
 ·rename_i hk
  split at h
  ·cases h
  ·rename_i e1
   cases h
   exact ⟨(Suf.tail (isT_kind hk.2)).trans (ifP_suf hS e1),by omega,by omega⟩
 split at h
 ·rename_i hk
  split at h
  ·cases h
  ·rename_i e1
   cases h
   exact ⟨(Suf.tail (isT_kind hk.2)).trans (notP_suf hS e1),by omega,by omega⟩
 split at h
 ·cases h
 ·rename_i e1
  cases h
  exact ⟨primP_suf hS e1,by omega,by omega⟩
theorem idxP_lt {X:Type} (p:X→Bool) (d:X):∀ l:List X,idxP p l<0∨((idxP p l).toNat<l.length∧p (l.getD (idxP p l).toNat d)=true)
 | []=>.inl (by simp [idxP])
 | x::l=>by
  cases hx:p x with
  | true=>exact .inr ⟨by simp [idxP,hx],by simp [idxP,hx]⟩
  | false =>
   rcases idxP_lt p d l with h | ⟨h1,h2⟩
   ·exact .inl (by simp [idxP,hx,h])
   ·by_cases hneg:idxP p l<0
    ·exact .inl (by simp [idxP,hx,hneg])
    ·have e:idxP p (x::l)=idxP p l+1:=by simp [idxP,hx,hneg]
     have e':(idxP p l+1).toNat=(idxP p l).toNat+1:=by omega
     rw [e,e']
     exact .inr ⟨by simpa using h1,by simpa using h2⟩
theorem opI_ok {r:List Tok} (h:¬ opI r<0):(opI r).toNat<oprL.length∧isT (opAt (opI r)).text r=true:=by
 rcases idxP_lt (fun o:Opr=>isT o.text r) o0 oprL with h' | h'
 ·exact (h h').elim
 ·exact h'
theorem form_bnd {i:Nat} (h:i<oprL.length):1≤(oprL.getD i o0).form∧(oprL.getD i o0).form≤6:=by
 have:∀ i,i<8→1≤(oprL.getD i o0).form∧(oprL.getD i o0).form≤6:=by decide
 exact this i h
theorem loopP_suf {ex:Rec} (hS:RecS ex) {form:Int}:∀ (f:Nat) (e:Exp) (own:Int) (r:List Tok) (x:Exp) (r':List Tok),loopP ex form f e own r=.ok (x,r')→Suf r r'
 | 0,e,own,r,x,r',h=>by cases h;exact .refl _
 | f+1,e,own,r,x,r',h=>by
  unfold loopP at h
  split at h
  ·cases h;exact .refl _
  ·rename_i hn
   dsimp only at h
   split at h
   ·cases h;exact .refl _
   ·split at h
    ·cases h
    ·rename_i _ _ e1
     exact ((Suf.tail (isT_kind (opI_ok hn).2)).trans (hS _ _ _ _ e1)).trans (loopP_suf hS f _ _ _ _ _ h)
theorem expS_suf {ex:Rec} (hS:RecS ex):RecS (expS ex):=by
 intro form r x r' h
 unfold expS at h
 split at h
 ·cases h
 ·rename_i _ _ _ e1
  exact (prefP_suf hS e1).1.trans (loopP_suf hS _ _ _ _ _ _ h)
theorem expP_suf:∀ n:Nat,RecS (expP n)
 | 0=>fun form r x r' h=>by cases h
 | n+1=>expS_suf (expP_suf n)
theorem loopP_fuel {ex:Rec} (hS:RecS ex) {form:Int}:∀ (f f':Nat) (e:Exp) (own:Int) (r:List Tok),Fin1 r→r.length≤f→r.length≤f'→loopP ex form f e own r=loopP ex form f' e own r
 | 0,f',e,own,r,h,h1,h2=>by have:=List.length_pos_iff.2 h.ne;omega
 | f+1,0,e,own,r,h,h1,h2=>by have:=List.length_pos_iff.2 h.ne;omega
 | f+1,f'+1,e,own,r,h,h1,h2=>by
  unfold loopP
  split
  ·rfl
  ·rename_i hn
   dsimp only
   split
   ·rfl
   ·split
    ·rfl
    ·rename_i y r' e1
     have hs:=(Suf.tail (isT_kind (opI_ok hn).2)).trans (hS _ _ _ _ e1)
     have hl:=(hS _ _ _ _ e1).le
     have ht:=tail_lt h
     exact loopP_fuel hS f f' _ _ _ (hs.2 h) om0 om0
abbrev PfX (T:List Tok) (form:Int) (r:List Tok) (s:Except Er ((Exp×Int)×List Tok)):Prop :=
 RX 240 [.ptr 0 0,.int .i64 form] [pobj T r] 1 s (fun v=>[encE v.1.1,.int .i64 v.1.2]) (fun v=>[pobj T v.2]) (fun v=>[.cells 51 (cellsE v.1.1)])
def wrapP (o:Int) (s:Ps Exp):Except Er ((Exp×Int)×List Tok):=match s with
 | .error e=>.error e
 | .ok (x,r)=>.ok ((x,o),r)
theorem pref_if {T r:List Tok} (h:PSt T r) {n:Nat} {ex:Rec} (hS:RecS ex) (hX:RecX T n ex) (hn:r.tail.length≤n) {form:Int} (hf:decide (form=0)=true) (hb:isT [105,102] r=true):PfX T form r (wrapP 0 (ifP ex r.tail)):=by
 have q0:=h.tail (isT_kind hb)
 refine xO (cxXOk (fun ch=>∃ er,wrapP 0 (ifP ex r.tail)=.error er∧ch=stopC er) 1 42 [0,1,4,5,6,7,13,35]) Tryz.func240 ?_
 conv=>whnf
 rw [hf]
 refine cR ((has_t h hb)) [0] (cW ?_)
 refine gT (cW ?_)
 rcases e1:ex 0 r.tail with e | ⟨x,r1⟩
 ·exact CallG.stop rfl (riox_stop (rx_er (hX 0 r.tail (by omega) (by omega) q0 hn) e1) [0] rfl rfl rfl ab0) (fun ch hc=>⟨e,by simp only [wrapP,ifP,e1],hc⟩)
 refine cR (rx_ok (hX 0 r.tail om0 om0 q0 hn) e1) [0] (cW ?_)
 have s1:=hS _ _ _ _ e1
 rcases e2:wantP [116,104,101,110] r1 with e | r2
 ·exact CallG.stop rfl (riox_stop (rx_er (want1_x (q0.to s1) [116,104,101,110]) e2) [0,4] rfl rfl rfl ab0) (fun ch hc=>⟨e,by simp only [wrapP,ifP,e1,e2],hc⟩)
 refine cR (rx_ok (want1_x (q0.to s1) [116,104,101,110]) e2) [0,4] (cW ?_)
 have s2:=s1.trans (wantP_suf e2)
 rcases e3:ex 0 r2 with e | ⟨y,r3⟩
 ·exact CallG.stop rfl (riox_stop (rx_er (hX 0 r2 (by omega) (by omega) (q0.to s2) (Nat.le_trans s2.le hn)) e3) [0] rfl rfl rfl ab0) (fun ch hc=>⟨e,by simp only [wrapP,ifP,e1,e2,e3],hc⟩)
 refine cR (rx_ok (hX 0 r2 om0 om0 (q0.to s2) (Nat.le_trans s2.le hn)) e3) [0] (cW ?_)
 have s3:=s2.trans (hS _ _ _ _ e3)
 rcases e4:wantP [101,108,115,101] r3 with e | r4
 ·exact CallG.stop rfl (riox_stop (rx_er (want1_x (q0.to s3) [101,108,115,101]) e4) [0,7] rfl rfl rfl ab0) (fun ch hc=>⟨e,by simp only [wrapP,ifP,e1,e2,e3,e4],hc⟩)
 refine cR (rx_ok (want1_x (q0.to s3) [101,108,115,101]) e4) [0,7] (cW ?_)
 have s4:=s3.trans (wantP_suf e4)
 rcases e5:ex 0 r4 with e | ⟨z,r5⟩
 ·refine DrawG.effp ad0 3 (cW ?_)
  exact .mk [0] _ (riox_stop ((rx_er (hX 0 r4 (by omega) (by omega) (q0.to s4) (Nat.le_trans s4.le hn)) e5)) [0] rfl rfl rfl ab0) ((fun ch hc=>⟨e,by simp only [wrapP,ifP,e1,e2,e3,e4,e5],hc⟩)) ⟨by kernel_rfl,by kernel_rfl⟩
 refine .eff ad0 (cW ?_)
 refine cR ((rx_ok (hX 0 r4 om0 om0 (q0.to s4) (Nat.le_trans s4.le hn)) e5)) [0] (cW ?_)
 refine ⟨by kernel_rfl,(cW (cW ?_))⟩
 refine ⟨⟨[(4,.ptr 1 0),(5,.int .i64 0)],[(0,.cells 183 (pcell T r5)),(1,.cells 51 (cellsE (.mk 15 0 0 [] [x,y,z])))],2⟩,(wk_frz [9]).trans (wk_of [(0,.id 0),(1,.id 1)] rfl ⟨wc0,wa0,trivial⟩ ⟨wb0,⟨_,rfl,.cells _ _ _ _ rfl (by repeat (first | exact .nil | refine .cons (by first | exact .base (.tree _ _ rfl rfl) | exact .base (.own _ _ rfl) | exact .base (.ptr _ _ _ rfl) | exact .base (.map _ _ rfl) | exact .base (.nilown _ rfl) | exact .fn _ _ _ _ _ .nil zp7 | exact .base (.tree _ _ (args3 15 0 0 [] x y z) rfl) | exact .base (.leT _ _ (args3 15 0 0 [] x y z) rfl)) ?_)) rfl⟩,trivial⟩),rfl,rfl,?_⟩
 conv=>whnf
 exact ⟨rfl,((.mk 15 0 0 [] [x,y,z],0),r5),by simp only [wrapP,ifP,e1,e2,e3,e4,e5],rfl,rfl,rfl⟩
theorem zt7 {p:Prop}(h:p:=by
 conv=>whnf
 refine gF (cW ?_)
 rw [hg]
 refine cR ((has_t h hb)) [0] (cW ?_)
 refine gT (cW ?_)
 rcases e1:ex 3 r.tail with e | ⟨x,r1⟩
 ·exact CallG.stop rfl (riox_stop (rx_er (hX 3 r.tail (by omega) (by omega) q0 hn) e1) [0] rfl rfl rfl ab0) (fun ch hc=>⟨e,by simp only [wrapP,notP,e1],hc⟩)
 refine cR (rx_ok (hX 3 r.tail om0 om0 q0 hn) e1) [0] (cW ?_)
 refine ⟨⟨[(4,.ptr 1 0),(5,.int .i64 3)],[(0,.cells 183 (pcell T r1)),(1,.cells 51 (cellsE (.mk 12 0 0 [] [x])))],2⟩,(wk_frz [3]).trans (wk_of [(0,.id 0),(1,.id 1)] rfl ⟨wc0,wa0,trivial⟩ ⟨wb0,⟨_,rfl,.cells _ _ _ _ rfl (by repeat (first | exact .nil | refine .cons (by first | exact .base (.tree _ _ rfl rfl) | exact .base (.own _ _ rfl) | exact .base (.ptr _ _ _ rfl) | exact .base (.map _ _ rfl) | exact .base (.nilown _ rfl) | exact .fn _ _ _ _ _ .nil zp7 | exact .base (.tree _ _ (args1 12 0 0 [] x) rfl) | exact .base (.leT _ _ (args1 12 0 0 [] x) rfl)) ?_)) rfl⟩,trivial⟩),rfl,rfl,?_⟩
 conv=>whnf
 exact ⟨rfl,((.mk 12 0 0 [] [x],3),r1),by simp only [wrapP,notP,e1],rfl,rfl,rfl⟩):p:=h
theorem pref_not {T r:List Tok} (h:PSt T r) {n:Nat} {ex:Rec} (hS:RecS ex) (hX:RecX T n ex) (hn:r.tail.length≤n) {form:Int} (hf:(decide (form=0)&&isT [105,102] r)=false) (hg:decide (form≤3)=true) (hb:isT [110,111,116] r=true):PfX T form r (wrapP 3 (notP ex r.tail)):=by
 have q0:=h.tail (isT_kind hb)
 cases hb0:decide (form=0) with
 | true =>
  have hi:isT [105,102] r=false:=by simpa [hb0] using hf
  refine xO (cxXOk (fun ch=>∃ er,wrapP 3 (notP ex r.tail)=.error er∧ch=stopC er) 1 42 [0,1,4,5,6,7,13,35]) Tryz.func240 ?_
  conv=>whnf
  rw [hb0]
  refine cR ((has_f h hi)) [0] ?_
  exact zt7
 | false =>
  refine xO (cxXOk (fun ch=>∃ er,wrapP 3 (notP ex r.tail)=.error er∧ch=stopC er) 1 42 [0,1,4,5,6,7,13,35]) Tryz.func240 ?_
  conv=>whnf
  rw [hb0]
  refine cF [.rop (pcell T r),.str [105,102]] [.val (.bool false)] ?_
  exact zt7
theorem zt8 {p:Prop}(h:p:=by
 conv=>whnf
 refine gF (cW ?_)
 rcases e1:primP ex r with e | ⟨x,r1⟩
 ·exact CallG.stop rfl (riox_stop (rx_er (prim_x hS hX h hn) e1) [0] rfl rfl rfl ab0) (fun ch hc=>⟨e,by simp only [wrapP,e1],hc⟩)
 refine cR (rx_ok (prim_x hS hX h hn) e1) [0] (cW ?_)
 refine ⟨⟨[(4,.ptr 1 0),(5,.int .i64 7)],[(0,.cells 183 (pcell T r1)),(1,.cells 51 (cellsE x))],2⟩,(wk_of [(0,.id 0),(1,.id 1)] rfl ⟨wc0,wa0,trivial⟩ ⟨wb0,wb0,trivial⟩),rfl,rfl,(cW ?_)⟩
 exact ⟨rfl,((x,7),r1),by simp only [wrapP],rfl,rfl,rfl⟩):p:=h
theorem zt166 {p:Prop}(h:p:=by
 conv=>whnf
 refine gF (cW ?_)
 rw [hg3]
 refine cR ((has_f h hb)) [0] ?_
 exact zt8):p:=h
theorem pref_prim {T r:List Tok} (h:PSt T r) {n:Nat} {ex:Rec} (hS:RecS ex) (hX:RecX T n ex) (hn:r.length≤n+1) {form:Int} (hf:(decide (form=0)&&isT [105,102] r)=false) (hg:(decide (form≤3)&&isT [110,111,116] r)=false):PfX T form r (wrapP 7 (primP ex r)):=by
 cases hb0:decide (form=0) with
 | true =>
  have hi:isT [105,102] r=false:=by simpa [hb0] using hf
  have hg3:decide (form≤3)=true:=by have:=of_decide_eq_true hb0;exact decide_eq_true (by omega)
  have hb:isT [110,111,116] r=false:=by simpa [hg3] using hg
  refine xO (cxXOk (fun ch=>∃ er,wrapP 7 (primP ex r)=.error er∧ch=stopC er) 1 42 [0,1,4,5,6,7,13,35]) Tryz.func240 ?_
  conv=>whnf
  rw [hb0]
  refine cR ((has_f h hi)) [0] ?_
  exact zt166
 | false =>
  cases hg3:decide (form≤3) with
  | true =>
   have hb:isT [110,111,116] r=false:=by simpa [hg3] using hg
   refine xO (cxXOk (fun ch=>∃ er,wrapP 7 (primP ex r)=.error er∧ch=stopC er) 1 42 [0,1,4,5,6,7,13,35]) Tryz.func240 ?_
   conv=>whnf
   rw [hb0]
   refine cF [.rop (pcell T r),.str [105,102]] [.val (.bool false)] ?_
   exact zt166
  | false =>
   refine xO (cxXOk (fun ch=>∃ er,wrapP 7 (primP ex r)=.error er∧ch=stopC er) 1 42 [0,1,4,5,6,7,13,35]) Tryz.func240 ?_
   conv=>whnf
   rw [hb0]
   refine cF [.rop (pcell T r),.str [105,102]] [.val (.bool false)] (cW ?_)
   refine gF (cW ?_)
   rw [hg3]
   refine cF [.rop (pcell T r),.str [110,111,116]] [.val (.bool false)] ?_
   exact zt8
theorem prefP_eq (ex:Rec) (form:Int) (r:List Tok):prefP ex form r=if (decide (form=0)&&isT [105,102] r)=true then wrapP 0 (ifP ex r.tail) else if (decide (form≤3)&&isT [110,111,116] r)=true then wrapP 3 (notP ex r.tail) else wrapP 7 (primP ex r):=by
 unfold prefP
 simp only [Bool.and_eq_true,decide_eq_true_eq]
 split
 ·try (cases ifP ex r.tail<;>rfl)
 split
 ·try (cases notP ex r.tail<;>rfl)
 ·try (cases primP ex r<;>rfl)
theorem pref_x {T r:List Tok} (h:PSt T r) {n:Nat} {ex:Rec} (hS:RecS ex) (hX:RecX T n ex) (hn:r.length≤n+1) (form:Int):PfX T form r (prefP ex form r):=by
 have hlt:=tail_lt h.fin
 have hn':r.tail.length≤n:=by omega
 rw [prefP_eq]
 cases h1:(decide (form=0)&&isT [105,102] r) with
 | true =>
  have h1':=h1
  simp only [Bool.and_eq_true] at h1'
  exact pref_if h hS hX hn' h1'.1 h1'.2
 | false =>
  cases h2:(decide (form≤3)&&isT [110,111,116] r) with
  | true =>
   have h2':=h2
   simp only [Bool.and_eq_true] at h2'
   exact pref_not h hS hX hn' h1 h2'.1 h2'.2
  | false=>exact pref_prim h hS hX hn h1 h2
theorem clo_ok {T r:List Tok} (h:PSt T r) (o:Opr):APureV Tryz.prog 243 [encO o,.rop [.rop (pcell T r)]] (.bool (isT o.text r)):=by
 have hi:=is_ok h o.text
 refine aO (cxOk 8 [0,1,2,3]) Tryz.func243 ?_
 conv=>whnf
 refine cO (fun _=>hi) (cW ?_)
 rfl
theorem find_ok {T r:List Tok} (h:PSt T r):APureV Tryz.prog 241 [.sl 3 encO o0 oprL,.fn (.func 243) [] [.rop [.rop (pcell T r)]]] (.int .i64 (opI r)) :=
 idxO_ok oprL 243 [.rop (pcell T r)] (fun o=>isT o.text r) (fun o _=>clo_ok h o) (by decide) rfl
theorem loopP_step {ex:Rec} {form:Int} {f:Nat} {e:Exp} {own:Int} {r:List Tok} (h:¬ opI r<0) (hc:¬ ((opAt (opI r)).form<form∨own<(opAt (opI r)).form∨own=4∧(opAt (opI r)).form=4)) :
  loopP ex form (f+1) e own r=match ex ((opAt (opI r)).form+1) r.tail with
    | .error e=>.error e
    | .ok (y,r')=>loopP ex form f (.mk (opAt (opI r)).op 0 0 [] [e,y]) (opAt (opI r)).form r':=by
 rw [loopP,if_neg h]
 dsimp only
 rw [if_neg hc]
 try (cases ex ((opAt (opI r)).form+1) r.tail<;>rfl)
theorem loopP_none {ex:Rec} {form:Int} {f:Nat} {e:Exp} {own:Int} {r:List Tok} (h:opI r<0):loopP ex form (f+1) e own r=.ok (e,r):=by
 rw [loopP,if_pos h]
theorem loopP_stop {ex:Rec} {form:Int} {f:Nat} {e:Exp} {own:Int} {r:List Tok} (h:¬ opI r<0) (hc:(opAt (opI r)).form<form∨own<(opAt (opI r)).form∨own=4∧(opAt (opI r)).form=4):loopP ex form (f+1) e own r=.ok (e,r):=by
 rw [loopP,if_neg h]
 dsimp only
 rw [if_pos hc]
theorem zp30 {p:Prop} (h:p:=by rcases List.mem_singleton.1 hr with rfl;rfl):p:=h
theorem exp_x {T:List Tok} {n:Nat} {ex:Rec} (hS:RecS ex) (hX:RecX T n ex):RecX T (n+1) (expS ex):=by
 intro form r hf0 hf7 h hn
 refine xO (cxXOk (fun ch=>∃ er,expS ex form r=.error er∧ch=stopC er) 1 64 [0,1,2,4,5,6,7,8,19,43]) Tryz.func202 ?_
 conv=>whnf
 rcases e1:prefP ex form r with e | ⟨⟨x0,o0'⟩,r0⟩
 ·exact CallG.stop rfl (riox_stop (rx_er (pref_x h hS hX hn form) e1) [0] rfl rfl rfl ab0) (fun ch hc=>⟨e,by simp only [expS,e1],hc⟩)
 refine cR (rx_ok (pref_x h hS hX hn form) e1) [0] (cW ?_)
 obtain ⟨s0,ho0,ho7⟩:=prefP_suf hS e1
 have hx0:expS ex form r=loopP ex form r0.length x0 o0' r0:=by simp only [expS,e1]
 refine loop_inv (cxXOk _ _ _ _) (fun s:(Exp×Int)×List Tok=>PSt T s.2∧s.2.length≤n+1∧(0≤s.1.2∧s.1.2≤7)∧expS ex form r=loopP ex form s.2.length s.1.1 s.1.2 s.2) (fun s=>s.2.length) (fun s=>⟨[(1,.int .i64 form),(2,.ptr 1 0),(4,.ptr 2 0),(5,.ptr 3 0),(6,.int .i64 (s.1.2))],[(0,.cells 183 (pcell T (s.2))),(1,.cells 147 [.ptr 0 0]),(2,.cells 51 [.int .i64 0,.int .i64 0,.int .i64 0,.str [],.nils]),(3,.cells 51 (cellsE (s.1.1)))],4⟩) ((x0,o0'),r0) ⟨h.to s0,Nat.le_trans s0.le hn,⟨ho0,ho7⟩,hx0⟩ ((wk_of [(0,.id 0),(1,.id 1),(2,.id 2),(3,.id 4)] rfl ⟨wa0,wc0,wc0,wc0,wa0,trivial⟩ ⟨wb0,wb0,wb0,wb0,trivial⟩)) ?_
 rintro ⟨⟨e,own⟩,q⟩ ⟨hq,hqn,⟨hw0,hw7⟩,hsp⟩
 dsimp only at hq hqn hw0 hw7 hsp ⊢
 have hio:=find_ok hq
 have hqp:=hq.pos
 conv=>whnf
 refine cO (fun _=>opr_ok) (cW ?_)
 refine .one _ _ _ (fun _=>hio) (.cons (lS rfl) (.cons (.fn _ _ _ _ _ _ _ .nil (.cons (.box 1 0 147 [.ptr 0 0] [.rop (pcell T q)] [0] rfl (.cons (t:=[0]) (t':=[]) (.box 0 0 183 (pcell T q) (pcell T q) [] rfl (.cons (t:=[]) (t':=[]) (Bor.same _ rfl) (.cons (t:=[]) (t':=[]) (Bor.same _ rfl) .nil)) (allOne_spec rfl)) .nil) (allOne_spec rfl)) .nil)) .nil)) (.inr fun r hr=>zp30) (.inl rfl) (cW ?_)
 obtain ⟨f,hqf⟩:∃ f,q.length=f+1:=⟨q.length-1,by omega⟩
 rw [hqf] at hsp
 refine ⟨fun h0=>?_,fun h0=>?_⟩
 ·have h0:=of_decide_eq_true h0
  conv=>whnf
  refine ⟨⟨[(4,.ptr 1 0)],[(0,.cells 183 (pcell T q)),(1,.cells 51 (cellsE e))],2⟩,(wk_of [(0,.id 0),(1,.id 2)] rfl ⟨wc0,trivial⟩ ⟨wb0,wb0,trivial⟩),rfl,rfl,(cW ?_)⟩
  exact ⟨rfl,(e,q),by rw [hsp,loopP_none h0],rfl,rfl,rfl⟩
 have h0:=of_decide_eq_false h0
 obtain ⟨hlt,hop⟩:=opI_ok h0
 obtain ⟨hx1,hx6⟩:=form_bnd hlt
 have hge:0≤opI q:=by omega
 have hlt':opI q<8:=by have:oprL.length=8:=rfl;omega
 have hoa:opAt (opI q)=oprL.getD (opI q).toNat o0:=rfl
 rw [← hoa] at hx1 hx6
 conv=>whnf
 refine cO (fun _=>opr_ok) (cW ?_)
 refine iO (cW ?_)
 refine And.intro rfl (cW ?_)
 rw [← hoa]
 have hdec:(decide ((opAt (opI q)).form<form)||decide (own<(opAt (opI q)).form)||decide (own=4)&&decide ((opAt (opI q)).form=4))=decide ((opAt (opI q)).form<form∨own<(opAt (opI q)).form∨own=4∧(opAt (opI q)).form=4):=by
  simp only [Bool.decide_or,Bool.decide_and,Bool.or_assoc]
 rw [hdec]
 refine ⟨fun hc=>?_,fun hc=>?_⟩
 ·have hc:=of_decide_eq_true hc
  conv=>whnf
  refine ⟨⟨[(4,.ptr 1 0)],[(0,.cells 183 (pcell T q)),(1,.cells 51 (cellsE e))],2⟩,(wk_of [(0,.id 0),(1,.id 2)] rfl ⟨wc0,trivial⟩ ⟨wb0,wb0,trivial⟩),rfl,rfl,(cW ?_)⟩
  exact ⟨rfl,(e,q),by rw [hsp,loopP_stop h0 hc],rfl,rfl,rfl⟩
 have hc:=of_decide_eq_false hc
 rw [loopP_step h0 hc] at hsp
 have hat:=hq.at
 have hqle:=hq.le
 have hbig:=hq.big
 have qt:=hq.tail (isT_kind hop)
 have htl:=tail_lt hq.fin
 conv=>whnf
 refine iO (cW ?_)
 rw [hat]
 conv=>whnf
 rcases e2:ex ((opAt (opI q)).form+1) q.tail with er | ⟨y,q2⟩
 ·rw [e2] at hsp
  refine DrawG.effp ad0 7 (cW ?_)
  refine iO (cW ?_)
  exact .mk [0] _ (riox_stop ((rx_er (hX _ q.tail om0 om0 qt om0) e2)) [0] rfl rfl rfl ab0) ((fun ch hc=>⟨er,hsp,hc⟩)) ⟨by kernel_rfl,by kernel_rfl⟩
 rw [e2] at hsp
 refine .eff ad0 (cW ?_)
 refine iO (cW ?_)
 refine cR ((rx_ok (hX _ q.tail om0 om0 qt om0) e2)) [0] (cW ?_)
 refine ⟨by kernel_rfl,(cW (cW ?_))⟩
 have hq2:=qt.to (hS _ _ _ _ e2)
 have hl2:=(hS _ _ _ _ e2).le
 exact ⟨((.mk (opAt (opI q)).op 0 0 [] [e,y],(opAt (opI q)).form),q2),⟨hq2,(by show q2.length≤n+1;omega),⟨(by show 0≤(opAt (opI q)).form;omega),(by show (opAt (opI q)).form≤7;omega)⟩,(by rw [hsp];exact loopP_fuel hS _ _ _ _ _ hq2.fin (by omega) (Nat.le_refl _))⟩,(by show q2.length<q.length;omega),(wk_frz [6]).trans (wk_of [(0,.id 0),(1,.id 1),(2,.id 2),(3,.id 3)] rfl ⟨wa0,wc0,wc0,wc0,wa0,trivial⟩ ⟨wb0,wb0,wb0,⟨_,rfl,.cells _ _ _ _ rfl (by repeat (first | exact .nil | refine .cons (by first | exact .base (.tree _ _ rfl rfl) | exact .base (.own _ _ rfl) | exact .base (.ptr _ _ _ rfl) | exact .base (.map _ _ rfl) | exact .base (.nilown _ rfl) | exact .fn _ _ _ _ _ .nil zp7 | exact .base (.tree _ _ (args2 (opAt (opI q)).op 0 0 [] e y) rfl) | exact .base (.leT _ _ (args2 (opAt (opI q)).op 0 0 [] e y) rfl)) ?_)) rfl⟩,trivial⟩)⟩
theorem expP_x (T:List Tok):∀ n:Nat,RecX T n (expP n)
 | 0=>fun form r _ _ h hn=>by have:=h.pos;omega
 | n+1=>exp_x (expP_suf n) (expP_x T n)
inductive WfE:Exp→Prop
 | num (n u:Int) (h0:0≤n) (h1:n≤1000000000000000) (hu:0≤u∧u≤3):WfE (.mk 0 n u [] [])
 | boo (n:Int) (h:n=0∨n=1):WfE (.mk 0 n 4 [] [])
 | name (op:Int) (s:List UInt8) (ho:op=1∨op=2∨op=3) (hn:nameB s=true) (hl:s.length≤9223372036854775807):WfE (.mk op 0 0 s [])
 | within (op n:Int) (x:Exp) (ho:op=16∨op=17∨op=18) (hn:1≤n∧n≤1000) (hx:WfE x):WfE (.mk op n 0 [] [x])
 | not (x:Exp) (hx:WfE x):WfE (.mk 12 0 0 [] [x])
 | pair (op:Int) (x y:Exp) (ho:4≤op∧op≤14∧op≠12) (hx:WfE x) (hy:WfE y):WfE (.mk op 0 0 [] [x,y])
 | cond (x y z:Exp) (hx:WfE x) (hy:WfE y) (hz:WfE z):WfE (.mk 15 0 0 [] [x,y,z])
theorem zp18 {p:Prop} (h:p:=by show in64 0;unfold in64;omega):p:=h
theorem zp29 {p:Prop} (h:p:=by show ([]:List UInt8).length≤_;simp):p:=h
theorem zp31 {p:Prop} (h:p:=by show ([]:List Exp).length≤_;simp):p:=h
theorem zp51 {p:Prop} (h:p:=by show [x].length≤_;simp):p:=h
theorem zp53 {p:Prop} (h:p:=by show in64 op;unfold in64;omega):p:=h
theorem zp54 {p:Prop} (h:p:=by show in64 n;unfold in64;omega):p:=h
theorem WfE.okE {e:Exp} (h:WfE e):OkE e:=by
 induction h with
 | num n u h0 h1 hu=>exact .mk zp18 zp54 (by show in64 u;unfold in64;omega) zp29 zp31 (fun a ha=>by cases ha)
 | boo n h=>exact .mk zp18 zp54 (by show in64 4;unfold in64;omega) zp29 zp31 (fun a ha=>by cases ha)
 | name op s ho hn hl=>exact .mk zp53 zp18 zp18 hl zp31 (fun a ha=>by cases ha)
 | within op n x ho hn hx ih=>exact .mk zp53 zp54 zp18 zp29 zp51 (fun a ha=>by have ha:a∈[x]:=ha;simp at ha;subst ha;exact ih)
 | not x hx ih=>exact .mk (by show in64 12;unfold in64;omega) zp18 zp18 zp29 zp51 (fun a ha=>by have ha:a∈[x]:=ha;simp at ha;subst ha;exact ih)
 | pair op x y ho hx hy ihx ihy=>exact .mk zp53 zp18 zp18 zp29 (by show [x,y].length≤_;simp) (fun a ha=>by have ha:a∈[x,y]:=ha;simp at ha;rcases ha with rfl | rfl<;>assumption)
 | cond x y z hx hy hz ihx ihy ihz=>exact .mk (by show in64 15;unfold in64;omega) zp18 zp18 zp29 (by show [x,y,z].length≤_;simp) (fun a ha=>by have ha:a∈[x,y,z]:=ha;simp at ha;rcases ha with rfl | rfl | rfl<;>assumption)
theorem lev_eq (e:Exp):lev e=levs e.args+1:=by cases e;simp only [lev,Exp.args]
theorem levs_snoc:∀ (l:List Exp) (x:Exp),levs (l++[x])=max (levs l) (lev x)
 | [],x=>by simp only [List.nil_append,levs];omega
 | y::l,x=>by rw [List.cons_append,levs,levs,levs_snoc l x];omega
theorem levs_mem:∀ {l:List Exp} {x:Exp},x∈l→lev x≤levs l
 | y::l,x,h=>by
  rw [levs]
  rcases List.mem_cons.1 h with rfl | h
  ·omega
  ·have:=levs_mem h;omega
theorem levs_take:∀ (l:List Exp) (k:Nat),levs (l.take k)≤levs l
 | [],k=>by simp
 | y::l,0=>by simp [levs]
 | y::l,k+1=>by rw [List.take_succ_cons,levs,levs];have:=levs_take l k;omega
theorem levels_step (e:Exp) (ha:e.args.length≤1000) (hb:lev e≤10000000000000) (h:∀ a∈e.args,APureV Tryz.prog 203 [encE a] (.int .i64 (lev a:Nat))):APureV Tryz.prog 203 [encE e] (.int .i64 (lev e:Nat)):=by
 have hal:=argsE_len e
 have he:=lev_eq e
 refine aO (cxOk 20 [0,1,2,3,5,7,8,9,10]) Tryz.func203 ?_
 conv=>whnf
 refine loop_inv (cxOk _ _) (fun k:Nat=>k≤e.args.length) (fun k=>e.args.length-k) (fun k=>⟨[(3,.int .i64 (levs (e.args.take k):Nat)),(7,.lsl 5 (argsE e)),(8,.int .i64 (e.args.length:Nat)),(9,.int .i64 (k:Nat))],[],0⟩) 0 (by show 0≤_;omega) ((wk_of [] rfl ⟨wa0,wa0,.base (.tree _ _ (congrArg (fun n:Nat=>AV.int .i64 (n:Int)) hal) rfl),wa0,trivial⟩ trivial)) ?_
 intro k hk
 have hk:k≤e.args.length:=hk
 conv=>whnf
 refine ⟨fun hd=>?_,fun hd=>?_⟩
 ·have hd:=of_decide_eq_true hd
  have hlt:k<e.args.length:=by omega
  have hek:(k:Int).toNat=k:=Int.toNat_natCast k
  have hm:argOf e k∈e.args:=getD_argOf hlt
  have hrec:=h _ hm
  have h1:=levs_mem hm
  have h2:=levs_take e.args k
  conv=>whnf
  refine iO (cW ?_)
  refine And.intro rfl (cW ?_)
  rw [hek,argsE_get e hlt]
  conv=>whnf
  refine cO (fun _=>hrec) (cW ?_)
  refine iO (cW ?_)
  exact ⟨k+1,hlt,(by show e.args.length-(k+1)<e.args.length-k;omega),(wk_of [] rfl ⟨.base (.tree _ _ (congrArg (AV.int .i64) (by rw [take_getD (d:=ex0) hlt,levs_snoc];show max _ _=((max _ (lev (argOf e k)):Nat):Int);omega)) rfl),wa0,wa0,wa0,trivial⟩ trivial)⟩
 ·have hd:=of_decide_eq_false hd
  have hke:k=e.args.length:=by omega
  rw [hke,List.take_length]
  conv=>whnf
  refine iO (cW ?_)
  rw [he]
  rfl
theorem levels_ok {e:Exp} (hw:WfE e) (hb:lev e≤10000000000000):APureV Tryz.prog 203 [encE e] (.int .i64 (lev e:Nat)):=by
 have up:∀ (e:Exp),lev e≤10000000000000→∀ a∈e.args,lev a≤10000000000000:=fun e he a ha=>by
  have:=levs_mem ha
  rw [lev_eq] at he
  omega
 induction hw with
 | num n u h0 h1 hu=>exact levels_step _ zp31 hb (fun a ha=>by cases ha)
 | boo n h=>exact levels_step _ zp31 hb (fun a ha=>by cases ha)
 | name op s ho hn hl=>exact levels_step _ zp31 hb (fun a ha=>by cases ha)
 | within op n x ho hn hx ih=>exact levels_step _ zp51 hb (fun a ha=>by have hl:=up _ hb a ha;have ha:a∈[x]:=ha;simp at ha;subst ha;exact ih hl)
 | not x hx ih=>exact levels_step _ zp51 hb (fun a ha=>by have hl:=up _ hb a ha;have ha:a∈[x]:=ha;simp at ha;subst ha;exact ih hl)
 | pair op x y ho hx hy ihx ihy=>exact levels_step _ (by show [x,y].length≤_;simp) hb (fun a ha=>by have hl:=up _ hb a ha;have ha:a∈[x,y]:=ha;simp at ha;rcases ha with rfl | rfl<;>first | exact ihx hl | exact ihy hl)
 | cond x y z hx hy hz ihx ihy ihz=>exact levels_step _ (by show [x,y,z].length≤_;simp) hb (fun a ha=>by have hl:=up _ hb a ha;have ha:a∈[x,y,z]:=ha;simp at ha;rcases ha with rfl | rfl | rfl<;>first | exact ihx hl | exact ihy hl | exact ihz hl)
def Made (r:List Tok) (x:Exp) (r':List Tok):Prop:=WfE x∧lev x+r'.length≤r.length
def RecM (T:List Tok) (ex:Rec):Prop:=∀ form r x r',PSt T r→ex form r=.ok (x,r')→Made r x r'
theorem PSt.tl {T r:List Tok} (h:PSt T r):r.tail.length+1=r.length:=by have:=h.pos;rw [List.length_tail];omega
theorem wantP_le {T:List Tok} {s:List UInt8} {r r':List Tok} (h:PSt T r) (e:wantP s r=.ok r'):r'.length+1=r.length:=by
 unfold wantP at e
 split at e
 ·cases e;exact h.tl
 ·cases e
theorem numP_le {T:List Tok} {a b n:Int} {r r':List Tok} (h:PSt T r) (e:numP a b r=.ok (n,r')):r'.length+1=r.length∧a≤n∧n≤b:=by
 unfold numP at e
 split at e
 ·cases e
 ·split at e
  ·rename_i hr;cases e;exact ⟨h.tl,hr⟩
  ·cases e
theorem nameP_le {T:List Tok} {s:List UInt8} {r r':List Tok} (h:PSt T r) (e:nameP r=.ok (s,r')):r'.length+1=r.length∧nameB s=true∧s.length≤4000:=by
 unfold nameP at e
 split at e
 ·rename_i hr
  cases e
  unfold namedB at hr
  simp only [Bool.and_eq_true,decide_eq_true_eq] at hr
  exact ⟨h.tl,hr.2,h.tlen⟩
 ·cases e
theorem unitP_le (r:List Tok):(unitP r).2.length≤r.length∧0≤(unitP r).1∧(unitP r).1≤3:=by
 refine ⟨(unitP_suf r).le,?_⟩
 unfold unitP
 repeat' split
 all_goals simp
theorem lev0 (op n u:Int) (s:List UInt8):lev (.mk op n u s [])=1:=by simp [lev,levs]
theorem lev1 (op n u:Int) (s:List UInt8) (x:Exp):lev (.mk op n u s [x])=lev x+1:=by simp [lev,levs]
theorem lev2 (op n u:Int) (s:List UInt8) (x y:Exp):lev (.mk op n u s [x,y])=max (lev x) (lev y)+1:=by simp [lev,levs]
theorem lev3 (op n u:Int) (s:List UInt8) (x y z:Exp):lev (.mk op n u s [x,y,z])=max (lev x) (max (lev y) (lev z))+1:=by simp [lev,levs]
theorem namedP_made {T:List Tok} {op:Int} (ho:op=1∨op=2∨op=3) {r r':List Tok} {x:Exp} (h:PSt T r) (e:namedP op r=.ok (x,r')):Made r x r':=by
 unfold namedP at e
 split at e
 ·cases e
 ·rename_i s r1 e1
  cases e
  obtain ⟨h1,h2,h3⟩:=nameP_le h e1
  exact ⟨.name op s ho h2 (by omega),by rw [lev0];omega⟩
theorem withinP_made {T:List Tok} {ex:Rec} (hS:RecS ex) (hM:RecM T ex) {op:Int} (ho:op=16∨op=17∨op=18) {r r':List Tok} {x:Exp} (h:PSt T r) (e:withinP ex op r=.ok (x,r')):Made r x r':=by
 unfold withinP at e
 split at e
 ·cases e
 ·rename_i n r1 e1
  split at e
  ·cases e
  ·rename_i r2 e2
   split at e
   ·cases e
   ·rename_i y r3 e3
    split at e
    ·cases e
    ·rename_i r4 e4
     cases e
     have q1:=h.to (numP_suf e1).1
     have q2:=q1.to (wantP_suf e2)
     have q3:=q2.to (hS _ _ _ _ e3)
     obtain ⟨l1,n1,n2⟩:=numP_le h e1
     have l2:=wantP_le q1 e2
     obtain ⟨w3,l3⟩:=hM _ _ _ _ q2 e3
     have l4:=wantP_le q3 e4
     exact ⟨.within op n y ho ⟨n1,n2⟩ w3,by rw [lev1];omega⟩
theorem pairP_made {T:List Tok} {ex:Rec} (hS:RecS ex) (hM:RecM T ex) {op:Int} (ho:4≤op∧op≤14∧op≠12) {r r':List Tok} {x:Exp} (h:PSt T r) (e:pairP ex op r=.ok (x,r')):Made r x r':=by
 unfold pairP at e
 split at e
 ·cases e
 ·rename_i r1 e1
  split at e
  ·cases e
  ·rename_i y r2 e2
   split at e
   ·cases e
   ·rename_i r3 e3
    split at e
    ·cases e
    ·rename_i z r4 e4
     split at e
     ·cases e
     ·rename_i r5 e5
      cases e
      have q1:=h.to (wantP_suf e1)
      have q2:=q1.to (hS _ _ _ _ e2)
      have q3:=q2.to (wantP_suf e3)
      have q4:=q3.to (hS _ _ _ _ e4)
      have l1:=wantP_le h e1
      obtain ⟨w2,l2⟩:=hM _ _ _ _ q1 e2
      have l3:=wantP_le q2 e3
      obtain ⟨w4,l4⟩:=hM _ _ _ _ q3 e4
      have l5:=wantP_le q4 e5
      exact ⟨.pair op y z ho w2 w4,by rw [lev2];omega⟩
theorem parenP_made {T:List Tok} {ex:Rec} (hS:RecS ex) (hM:RecM T ex) {r r':List Tok} {x:Exp} (h:PSt T r) (e:parenP ex r=.ok (x,r')):Made r x r':=by
 unfold parenP at e
 split at e
 ·cases e
 ·rename_i y r1 e1
  split at e
  ·cases e
  ·rename_i r2 e2
   cases e
   have q1:=h.to (hS _ _ _ _ e1)
   obtain ⟨w1,l1⟩:=hM _ _ _ _ h e1
   have l2:=wantP_le q1 e2
   exact ⟨w1,by omega⟩
theorem Made.more {r0 r r':List Tok} {x:Exp} (h:Made r x r') (hl:r.length≤r0.length):Made r0 x r':=⟨h.1,Nat.le_trans h.2 hl⟩
theorem zt102 {p:Prop}(h:p:=by
 rename_i hk;exact (withinP_made hS hM (by omega) (h.tail (isT_kind hk)) e).more (by omega)):p:=h
theorem primP_made {T:List Tok} {ex:Rec} (hS:RecS ex) (hM:RecM T ex) {r r':List Tok} {x:Exp} (h:PSt T r) (e:primP ex r=.ok (x,r')):Made r x r':=by
 have htl:=h.tl
 unfold primP at e
 split at e
 ·cases e
  obtain ⟨u1,u2,u3⟩:=unitP_le r.tail
  obtain ⟨_,n1,n2⟩:=h.txt _ h.hd
  exact ⟨.num _ _ n1 n2 ⟨u2,u3⟩,by rw [lev0];omega⟩
 split at e
 ·cases e;exact ⟨.boo 1 (.inr rfl),by rw [lev0];omega⟩
 split at e
 ·cases e;exact ⟨.boo 0 (.inl rfl),by rw [lev0];omega⟩
 split at e
 ·rename_i hk;exact (namedP_made (by omega) (h.tail (isT_kind hk)) e).more (by omega)
 split at e
 ·rename_i hk;exact (namedP_made (by omega) (h.tail (isT_kind hk)) e).more (by omega)
 split at e
 ·exact zt102
 split at e
 ·exact zt102
 split at e
 ·exact zt102
 split at e
 ·rename_i hk;exact (pairP_made hS hM (by split<;>omega) (h.tail (hk.elim isT_kind isT_kind)) e).more (by omega)
 split at e
 ·rename_i hk;exact (parenP_made hS hM (h.tail (isT_kind hk)) e).more (by omega)
 exact namedP_made om0 h e
theorem prefP_made {T:List Tok} {ex:Rec} (hS:RecS ex) (hM:RecM T ex) {form:Int} {r r':List Tok} {x:Exp} {o:Int} (h:PSt T r) (e:prefP ex form r=.ok ((x,o),r')):Made r x r':=by
 have htl:=h.tl
 unfold prefP at e
 split at e
 ·rename_i hk
  have q:=h.tail (isT_kind hk.2)
  split at e
  ·cases e
  ·rename_i x1 r1 e0
   cases e
   unfold ifP at e0
   split at e0
   ·cases e0
   ·rename_i y r1 e1
    split at e0
    ·cases e0
    ·rename_i r2 e2
     split at e0
     ·cases e0
     ·rename_i z r3 e3
      split at e0
      ·cases e0
      ·rename_i r4 e4
       split at e0
       ·cases e0
       ·rename_i u r5 e5
        cases e0
        have q1:=q.to (hS _ _ _ _ e1)
        have q2:=q1.to (wantP_suf e2)
        have q3:=q2.to (hS _ _ _ _ e3)
        have q4:=q3.to (wantP_suf e4)
        obtain ⟨w1,l1⟩:=hM _ _ _ _ q e1
        have l2:=wantP_le q1 e2
        obtain ⟨w3,l3⟩:=hM _ _ _ _ q2 e3
        have l4:=wantP_le q3 e4
        obtain ⟨w5,l5⟩:=hM _ _ _ _ q4 e5
        exact ⟨.cond y z u w1 w3 w5,by rw [lev3];omega⟩
 split at e
 ·rename_i hk
  have q:=h.tail (isT_kind hk.2)
  split at e
  ·cases e
  ·rename_i x1 r1 e0
   cases e
   unfold notP at e0
   split at e0
   ·cases e0
   ·rename_i y r1 e1
    cases e0
    obtain ⟨w1,l1⟩:=hM _ _ _ _ q e1
    exact ⟨.not y w1,by rw [lev1];omega⟩
 split at e
 ·cases e
 ·rename_i x1 r1 e0
  cases e
  exact primP_made hS hM h e0
theorem op_bnd {i:Nat} (h:i<oprL.length):4≤(oprL.getD i o0).op∧(oprL.getD i o0).op≤14∧(oprL.getD i o0).op≠12:=by
 have:∀ i,i<8→4≤(oprL.getD i o0).op∧(oprL.getD i o0).op≤14∧(oprL.getD i o0).op≠12:=by decide
 exact this i h
theorem loopP_made {T:List Tok} {ex:Rec} (hS:RecS ex) (hM:RecM T ex) {form:Int}:∀ (f:Nat) (e0:Exp) (own:Int) (r0 r:List Tok) (x:Exp) (r':List Tok),PSt T r→Made r0 e0 r→loopP ex form f e0 own r=.ok (x,r')→Made r0 x r'
 | 0,e0,own,r0,r,x,r',hp,hm,h=>by cases h;exact hm
 | f+1,e0,own,r0,r,x,r',hp,hm,h=>by
  unfold loopP at h
  split at h
  ·cases h;exact hm
  ·rename_i hn
   dsimp only at h
   split at h
   ·cases h;exact hm
   ·split at h
    ·cases h
    ·rename_i y r1 e1
     obtain ⟨hlt,hop⟩:=opI_ok hn
     have q:=hp.tail (isT_kind hop)
     have htl:=hp.tl
     obtain ⟨w1,l1⟩:=hM _ _ _ _ q e1
     have l2:=hm.2
     exact loopP_made hS hM f _ _ r0 r1 _ _ (q.to (hS _ _ _ _ e1)) ⟨.pair _ _ _ (op_bnd hlt) hm.1 w1,by rw [lev2];omega⟩ h
theorem expS_made {T:List Tok} {ex:Rec} (hS:RecS ex) (hM:RecM T ex):RecM T (expS ex):=by
 intro form r x r' h e
 unfold expS at e
 split at e
 ·cases e
 ·rename_i y o r1 e1
  exact loopP_made hS hM _ _ _ r r1 _ _ (h.to (prefP_suf hS e1).1) (prefP_made hS hM h e1) e
theorem expP_made (T:List Tok):∀ n:Nat,RecM T (expP n)
 | 0=>fun form r x r' _ h=>by cases h
 | n+1=>expS_made (expP_suf n) (expP_made T n)
def wholeP (s:List UInt8) (r:List Tok):Ps Exp :=
 match expP r.length 0 r with
 | .error e=>.error e
 | .ok (x,r1)=>if isT s r1=false then errP 12 r1 else if ((lev x:Nat):Int)≤12 then .ok (x,r1.tail) else errP 6 r1
def partP (s:List UInt8) (a b:Int) (r:List Tok):Ps Int :=
 match wantP s r with
 | .error e=>.error e
 | .ok r1=>match numP a b r1 with
  | .error e=>.error e
  | .ok (n,r2)=>match wantP [59] r2 with
   | .error e=>.error e
   | .ok r3=>.ok (n,r3)
def maybeP (s:List UInt8) (a n0:Int) (r:List Tok):Ps Int:=if isT s r=true then partP s 0 a r else .ok (n0,r)
theorem chk_t {T r:List Tok} (h:PSt T r) (e:Int):RIO Tryz.prog 172 [.ptr 0 0,.bool true,.int .i64 e] [pobj T r] 1 (fun vs bs es=>vs=[]∧bs=[pobj T r]∧es=[]):=rx_ok (check_x h true e) rfl
theorem chk_f {T r:List Tok} (h:PSt T r) (e:Int):RIOX Tryz.prog 172 [.ptr 0 0,.bool false,.int .i64 e] [pobj T r] 1 (fun _ _ _=>False) (fun ch=>ch=stopC ((hdT r).pos,e)):=rx_er (check_x h false e) rfl
theorem zt42 {p:Prop}(h:p:=by
 exact CallG.stop rfl (riox_stop (chk_f hq 6) [0] rfl rfl rfl ab0) ((fun ch hc=>⟨_,hs,hc⟩))):p:=h
theorem zt174 {p:Prop}(h:p:=by
 exact CallG.stop rfl (riox_stop (chk_f hq 12) [0] rfl rfl rfl ab0) ((fun ch hc=>⟨_,hs,hc⟩))):p:=h
theorem whole_x {T r:List Tok} (h:PSt T r) (s:List UInt8):RX 167 [.ptr 0 0,.str s] [pobj T r] 1 (wholeP s r) (fun v=>[encE v.1]) (fun v=>[pobj T v.2]) (fun v=>[.cells 51 (cellsE v.1)]):=by
 refine xO (cxXOk (fun ch=>∃ er,wholeP s r=.error er∧ch=stopC er) 1 26 [0,1,4,5]) Tryz.func167 ?_
 conv=>whnf
 rcases e1:expP r.length 0 r with e | ⟨x,r1⟩
 ·exact CallG.stop rfl (riox_stop (rx_er (expP_x T r.length 0 r (by omega) (by omega) h (Nat.le_refl _)) e1) [0] rfl rfl rfl ab0) (fun ch hc=>⟨e,by simp only [wholeP,e1],hc⟩)
 refine cR (rx_ok (expP_x T r.length 0 r om0 om0 h (Nat.le_refl _)) e1) [0] (cW ?_)
 have hq:=h.to (expP_suf _ _ _ _ _ e1)
 obtain ⟨hw,hl⟩:=expP_made T _ _ _ _ _ h e1
 have hbig:=h.big
 have hle:=h.le
 have hi:=is_ok hq s
 have hv:=levels_ok hw (by omega)
 have hat:=hq.at
 have hqp:=hq.pos
 have hqle:=hq.le
 refine cO (fun _=>hi) (cW ?_)
 cases hb:isT s r1 with
 | false =>
  have hs:wholeP s r=.error ((hdT r1).pos,12):=by simp only [wholeP,e1,hb,if_true,errP]
  exact zt174
 | true =>
  refine cR ((chk_t hq 12)) [0] (cW ?_)
  refine cO (fun _=>hv) (cW ?_)
  cases h12:decide (((lev x:Nat):Int)≤12) with
  | false =>
   have hs:wholeP s r=.error ((hdT r1).pos,6):=by simp only [wholeP,e1,hb,Bool.true_eq_false,if_false,if_neg (of_decide_eq_false h12),errP]
   exact zt42
  | true =>
   refine cR ((chk_t hq 6)) [0] (cW ?_)
   refine iO (cW ?_)
   rw [hat]
   refine ⟨⟨[(4,.ptr 1 0)],[(0,.cells 183 (pcell T (r1.tail))),(1,.cells 51 (cellsE x))],2⟩,(wk_of [(0,.id 0),(1,.id 1)] rfl ⟨wc0,trivial⟩ ⟨wb0,wb0,trivial⟩),rfl,rfl,(cW ?_)⟩
   exact ⟨rfl,(x,r1.tail),by simp only [wholeP,e1,hb,Bool.true_eq_false,if_false,if_pos (of_decide_eq_true h12)],rfl,rfl,rfl⟩
theorem part_x {T r:List Tok} (h:PSt T r) (s:List UInt8) (a b:Int):RX 160 [.ptr 0 0,.str s,.int .i64 a,.int .i64 b] [pobj T r] 1 (partP s a b r) (fun v=>[.int .i64 v.1]) (fun v=>[pobj T v.2]) (fun _=>[]):=by
 refine xO (cxXOk (fun ch=>∃ er,partP s a b r=.error er∧ch=stopC er) 1 22 [0,1,2,3,8,9]) Tryz.func160 ?_
 conv=>whnf
 rcases e1:wantP s r with e | r1
 ·exact CallG.stop rfl (riox_stop (rx_er (want1_x h s) e1) [0,1] rfl rfl rfl ab0) (fun ch hc=>⟨e,by simp only [partP,e1],hc⟩)
 refine cR (rx_ok (want1_x h s) e1) [0,1] (cW ?_)
 have q1:=h.to (wantP_suf e1)
 rcases e2:numP a b r1 with e | ⟨n,r2⟩
 ·exact CallG.stop rfl (riox_stop (rx_er (num_x q1 a b) e2) [0] rfl rfl rfl ab0) (fun ch hc=>⟨e,by simp only [partP,e1,e2],hc⟩)
 refine cR (rx_ok (num_x q1 a b) e2) [0] (cW ?_)
 have q2:=q1.to (numP_suf e2).1
 rcases e3:wantP [59] r2 with e | r3
 ·exact CallG.stop rfl (riox_stop (rx_er (want1_x q2 [59]) e3) [0,2] rfl rfl rfl ab0) (fun ch hc=>⟨e,by simp only [partP,e1,e2,e3],hc⟩)
 refine cR (rx_ok (want1_x q2 [59]) e3) [0,2] (cW ?_)
 refine ⟨⟨[(8,.int .i64 n)],[(0,.cells 183 (pcell T r3))],1⟩,(wk_of [(0,.id 0)] rfl ⟨wa0,trivial⟩ ⟨wb0,trivial⟩),rfl,rfl,(cW ?_)⟩
 exact ⟨rfl,(n,r3),by simp only [partP,e1,e2,e3],rfl,rfl,rfl⟩
theorem maybe_x {T r:List Tok} (h:PSt T r) (s:List UInt8) (a n0:Int):RX 170 [.ptr 0 0,.str s,.int .i64 a,.int .i64 n0] [pobj T r] 1 (maybeP s a n0 r) (fun v=>[.int .i64 v.1]) (fun v=>[pobj T v.2]) (fun _=>[]):=by
 have hi:=is_ok h s
 cases hb:isT s r with
 | false =>
  rw [hb] at hi
  refine xO (cxXOk (fun ch=>∃ er,maybeP s a n0 r=.error er∧ch=stopC er) 1 18 [0,1,2,3,8,12]) Tryz.func170 ?_
  conv=>whnf
  refine cO (fun _=>hi) (cW ?_)
  refine gT (cW ?_)
  refine ⟨_,Wk.refl _,rfl,rfl,(cW ?_)⟩
  exact ⟨rfl,(n0,r),by simp only [maybeP,hb,Bool.false_eq_true,if_false],rfl,rfl,rfl⟩
 | true =>
  rw [hb] at hi
  refine xO (cxXOk (fun ch=>∃ er,maybeP s a n0 r=.error er∧ch=stopC er) 1 18 [0,1,2,3,8,12]) Tryz.func170 ?_
  conv=>whnf
  refine cO (fun _=>hi) (cW ?_)
  refine gF (cW ?_)
  rcases e1:partP s 0 a r with e | ⟨n,r1⟩
  ·exact CallG.stop rfl (riox_stop (rx_er (part_x h s 0 a) e1) [0] rfl rfl rfl ab0) (fun ch hc=>⟨e,by simp only [maybeP,hb,if_true,e1],hc⟩)
  refine cR (rx_ok (part_x h s 0 a) e1) [0] (cW ?_)
  refine ⟨_,Wk.refl _,rfl,rfl,(cW ?_)⟩
  exact ⟨rfl,(n,r1),by simp only [maybeP,hb,if_true,e1],rfl,rfl,rfl⟩
def dateP (least:Int) (r:List Tok):Ps Int :=
 match numP 0 1000000000000000 r with
 | .error e=>.error e
 | .ok (y,r1)=>match wantP [45] r1 with
  | .error e=>.error e
  | .ok r2=>match numP 0 1000000000000000 r2 with
   | .error e=>.error e
   | .ok (m,r3)=>match wantP [45] r3 with
    | .error e=>.error e
    | .ok r4=>if (hdT r4).kind≠1 then errP 12 r4
     else if (dayOf y m (hdT r4).n).2≠0 then errP 23 r4
     else if least<(dayOf y m (hdT r4).n).1 then .ok ((dayOf y m (hdT r4).n).1,r4.tail)
     else errP 3 r4
theorem date_x {T r:List Tok} (h:PSt T r) (least:Int):RX 161 [.ptr 0 0,.int .i64 least] [pobj T r] 1 (dateP least r) (fun v=>[.int .i64 v.1]) (fun v=>[pobj T v.2]) (fun _=>[]):=by
 refine xO (cxXOk (fun ch=>∃ er,dateP least r=.error er∧ch=stopC er) 1 52 [0,1,4,5,6,7,8,9]) Tryz.func161 ?_
 conv=>whnf
 rcases e1:numP 0 1000000000000000 r with e | ⟨y,r1⟩
 ·exact CallG.stop rfl (riox_stop (rx_er (num_x h 0 1000000000000000) e1) [0] rfl rfl rfl ab0) (fun ch hc=>⟨e,by simp only [dateP,e1],hc⟩)
 refine cR (rx_ok (num_x h 0 1000000000000000) e1) [0] (cW ?_)
 have q1:=h.to (numP_suf e1).1
 obtain ⟨_,y0,y1⟩:=numP_le h e1
 rcases e2:wantP [45] r1 with e | r2
 ·exact CallG.stop rfl (riox_stop (rx_er (want1_x q1 [45]) e2) [0,1] rfl rfl rfl ab0) (fun ch hc=>⟨e,by simp only [dateP,e1,e2],hc⟩)
 refine cR (rx_ok (want1_x q1 [45]) e2) [0,1] (cW ?_)
 have q2:=q1.to (wantP_suf e2)
 rcases e3:numP 0 1000000000000000 r2 with e | ⟨m,r3⟩
 ·exact CallG.stop rfl (riox_stop (rx_er (num_x q2 0 1000000000000000) e3) [0] rfl rfl rfl ab0) (fun ch hc=>⟨e,by simp only [dateP,e1,e2,e3],hc⟩)
 refine cR (rx_ok (num_x q2 0 1000000000000000) e3) [0] (cW ?_)
 have q3:=q2.to (numP_suf e3).1
 rcases e4:wantP [45] r3 with e | r4
 ·exact CallG.stop rfl (riox_stop (rx_er (want1_x q3 [45]) e4) [0,2] rfl rfl rfl ab0) (fun ch hc=>⟨e,by simp only [dateP,e1,e2,e3,e4],hc⟩)
 refine cR (rx_ok (want1_x q3 [45]) e4) [0,2] (cW ?_)
 have q4:=q3.to (wantP_suf e4)
 have hx:=next_ok q4
 obtain ⟨_,n0,n1⟩:=q4.txt _ q4.hd
 have hd:=dayof_ok y m (hdT r4).n y0 y1 (by omega)
 have hat:=q4.at
 have hqp:=q4.pos
 have hqle:=q4.le
 have hbig:=h.big
 refine cO (fun _=>hx) (cW ?_)
 cases hk:decide ((hdT r4).kind=1) with
 | false =>
  have hs:dateP least r=.error ((hdT r4).pos,12):=by simp only [dateP,e1,e2,e3,e4,errP,ne_eq,of_decide_eq_false hk,not_false_eq_true,if_true]
  exact CallG.stop rfl (riox_stop (chk_f q4 12) [0] rfl rfl rfl ab0) ((fun ch hc=>⟨_,hs,hc⟩))
 | true =>
  have hk':=of_decide_eq_true hk
  refine cR ((chk_t q4 12)) [0] (cW ?_)
  unfold dayR at hd
  refine cO (fun _=>hd) (cW ?_)
  cases h0:decide ((dayOf y m (hdT r4).n).2=0) with
  | false =>
   have hs:dateP least r=.error ((hdT r4).pos,23):=by simp only [dateP,e1,e2,e3,e4,errP,ne_eq,hk',not_true_eq_false,if_false,of_decide_eq_false h0,not_false_eq_true,if_true]
   exact CallG.stop rfl (riox_stop (chk_f q4 23) [0] rfl rfl rfl ab0) ((fun ch hc=>⟨_,hs,hc⟩))
  | true =>
   have h0':=of_decide_eq_true h0
   refine cR ((chk_t q4 23)) [0] (cW ?_)
   cases hl:decide (least<(dayOf y m (hdT r4).n).1) with
   | false =>
    have hs:dateP least r=.error ((hdT r4).pos,3):=by simp only [dateP,e1,e2,e3,e4,errP,ne_eq,hk',not_true_eq_false,if_false,h0',of_decide_eq_false hl]
    exact CallG.stop rfl (riox_stop (chk_f q4 3) [0] rfl rfl rfl ab0) ((fun ch hc=>⟨_,hs,hc⟩))
   | true =>
    have hs:dateP least r=.ok ((dayOf y m (hdT r4).n).1,r4.tail):=by simp only [dateP,e1,e2,e3,e4,errP,ne_eq,hk',not_true_eq_false,if_false,h0',of_decide_eq_true hl,if_true]
    refine cR ((chk_t q4 3)) [0] (cW ?_)
    refine iO (cW ?_)
    rw [hat]
    refine ⟨⟨[(4,.int .i64 ((dayOf y m (hdT r4).n).1))],[(0,.cells 183 (pcell T (r4.tail)))],1⟩,(wk_of [(0,.id 0)] rfl ⟨wa0,trivial⟩ ⟨wb0,trivial⟩),rfl,rfl,(cW ?_)⟩
    exact ⟨rfl,((dayOf y m (hdT r4).n).1,r4.tail),hs,rfl,rfl,rfl⟩
def oneP (s:List UInt8) (ws:List (List UInt8)) (r:List Tok):Ps Int :=
 match wantP s r with
 | .error e=>.error e
 | .ok r1=>if idxP (fun w=>isT w r1) ws<0 then errP 12 r1
  else match wantP [59] r1.tail with
   | .error e=>.error e
   | .ok r2=>.ok (idxP (fun w=>isT w r1) ws,r2)
theorem has165 {T r:List Tok} (h:PSt T r) (ws:List (List UInt8)) (hl:ws.length≤1000):RIO Tryz.prog 199 [.sl 1 encS [] ws,.fn (.func 196) [.ptr 0 0] []] [pobj T r] 1
  (fun vs bs es=>vs=[.int .i64 (idxP (fun w=>isT w r) ws)]∧bs=[pobj T (if idxP (fun w=>isT w r) ws<0 then r else r.tail)]∧es=[]):=by
 refine rO (cxPOk 1 19 [0,1,4,5,7,8,9,16]) Tryz.func199 ?_
 conv=>whnf
 refine loop_inv (cxPOk _ _ _) (fun k:Nat=>k≤ws.length∧∀ j,j<k→isT (ws.getD j []) r=false) (fun k=>ws.length-k) (fun k=>⟨[(0,.sl 1 encS [] ws),(1,.fn (.func 196) [.ptr 0 0] []),(7,.int .i64 (ws.length:Nat)),(8,.int .i64 (k:Nat))],[(0,.cells 183 (pcell T r))],1⟩) 0 ⟨by show 0≤_;omega,fun j hj=>by omega⟩ ((wk_of [(0,.id 0)] rfl ⟨wa0,.fn _ _ _ _ _ (.cons (.ptr _ _ _ rfl) .nil) .nil,wa0,wa0,trivial⟩ ⟨wb0,trivial⟩)) ?_
 intro k ⟨hk,hP⟩
 have hk:k≤ws.length:=hk
 conv=>whnf
 refine ⟨fun hd=>?_,fun hd=>?_⟩
 ·have hd:=of_decide_eq_true hd
  have hlt:k<ws.length:=by omega
  have hek:(k:Int).toNat=k:=Int.toNat_natCast k
  conv=>whnf
  refine iO (cW ?_)
  refine And.intro rfl (cW ?_)
  rw [hek]
  cases hb:isT (ws.getD k []) r with
  | true =>
   have hi:idxP (fun w=>isT w r) ws=k:=idxP_found (d:=[]) hlt hP hb
   rw [hi]
   refine cR ((has_t h hb)) [0] (cW ?_)
   refine gT (cW ?_)
   refine ⟨⟨[(4,.int .i64 (k:Nat))],[(0,.cells 183 (pcell T r.tail))],1⟩,(wk_of [(0,.id 0)] rfl ⟨wa0,trivial⟩ ⟨wb0,trivial⟩),rfl,rfl,(cW ?_)⟩
   exact ⟨rfl,rfl,(by rw [if_neg (by omega)];rfl),rfl⟩
  | false =>
   refine cR ((has_f h hb)) [0] (cW ?_)
   refine gF (cW ?_)
   refine iO (cW ?_)
   exact ⟨k+1,⟨hlt,fun j hj=>(by
    by_cases e:j=k
    ·rw [e];exact hb
    ·exact hP j (by omega))⟩,(by show ws.length-(k+1)<ws.length-k;omega),(wk_of [(0,.id 0)] rfl ⟨wa0,.fn _ _ _ _ _ (.cons (.ptr _ _ _ rfl) .nil) .nil,wa0,wa0,trivial⟩ ⟨wb0,trivial⟩)⟩
 ·have hd:=of_decide_eq_false hd
  have hke:k=ws.length:=by omega
  have hi:idxP (fun w=>isT w r) ws=-1:=idxP_none (d:=[]) (fun j hj=>hP j (by omega))
  rw [hi]
  conv=>whnf
  refine ⟨⟨[(4,.int .i64 (-1))],[(0,.cells 183 (pcell T r))],1⟩,(wk_of [(0,.id 0)] rfl ⟨wa0,trivial⟩ ⟨wb0,trivial⟩),rfl,rfl,(cW ?_)⟩
  exact ⟨rfl,rfl,(by rw [if_pos (by omega)];rfl),rfl⟩
theorem one_x {T r:List Tok} (h:PSt T r) (s:List UInt8) (ws:List (List UInt8)) (hl:ws.length≤1000):RX 163 [.ptr 0 0,.str s,.sl 1 encS [] ws] [pobj T r] 1 (oneP s ws r) (fun v=>[.int .i64 v.1]) (fun v=>[pobj T v.2]) (fun _=>[]):=by
 refine xO (cxXOk (fun ch=>∃ er,oneP s ws r=.error er∧ch=stopC er) 1 24 [0,1,2,6,7]) Tryz.func163 ?_
 conv=>whnf
 rcases e1:wantP s r with e | r1
 ·exact CallG.stop rfl (riox_stop (rx_er (want1_x h s) e1) [0,1] rfl rfl rfl ab0) (fun ch hc=>⟨e,by simp only [oneP,e1],hc⟩)
 refine cR (rx_ok (want1_x h s) e1) [0,1] (cW ?_)
 have q1:=h.to (wantP_suf e1)
 have hh:=has165 q1 ws hl
 have hge:=idxP_ge (fun w=>isT w r1) ws
 cases hi:decide (0≤idxP (fun w=>isT w r1) ws) with
 | false =>
  have hi':=of_decide_eq_false hi
  rw [if_pos (by omega)] at hh
  have hs:oneP s ws r=.error ((hdT r1).pos,12):=by simp only [oneP,e1,errP];rw [if_pos (by omega)]
  refine cR (hh) [0] (cW ?_)
  rw [hi]
  exact CallG.stop rfl (riox_stop (chk_f q1 12) [0] rfl rfl rfl ab0) ((fun ch hc=>⟨_,hs,hc⟩))
 | true =>
  have hi':=of_decide_eq_true hi
  rw [if_neg (by omega)] at hh
  have hlt:=idxP_lt (fun w=>isT w r1) [] ws
  have hb:isT (ws.getD (idxP (fun w=>isT w r1) ws).toNat []) r1=true:=by
   rcases hlt with hlt | hlt
   ·omega
   ·exact hlt.2
  have q2:=q1.tail (isT_kind hb)
  have hs:oneP s ws r=match wantP [59] r1.tail with
   | .error e=>.error e
   | .ok r2=>.ok (idxP (fun w=>isT w r1) ws,r2):=by simp only [oneP,e1];rw [if_neg (by omega)]
  refine cR (hh) [0] (cW ?_)
  rw [hi]
  refine cR ((chk_t q2 12)) [0] (cW ?_)
  rcases e2:wantP [59] r1.tail with e | r2
  ·exact CallG.stop rfl (riox_stop (rx_er (want1_x q2 [59]) e2) [0,2] rfl rfl rfl ab0) (fun ch hc=>⟨e,by simp only [hs,e2],hc⟩)
  refine cR (rx_ok (want1_x q2 [59]) e2) [0,2] (cW ?_)
  refine ⟨⟨[(6,.int .i64 (idxP (fun w=>isT w r1) ws))],[(0,.cells 183 (pcell T r2))],1⟩,(wk_of [(0,.id 0)] rfl ⟨wa0,trivial⟩ ⟨wb0,trivial⟩),rfl,rfl,(cW ?_)⟩
  exact ⟨rfl,(idxP (fun w=>isT w r1) ws,r2),by simp only [hs,e2],rfl,rfl,rfl⟩
def freshP (names:List (List UInt8)) (r:List Tok):Ps (List UInt8) :=
 if namedB r=false then errP 12 r else if (hdT r).text∈names then errP 5 r else .ok ((hdT r).text,r.tail)
theorem fresh_x {T r:List Tok} (h:PSt T r) (names:List (List UInt8)) (hl:names.length≤1000):RX 201 [.ptr 0 0,.own 1] [pobj T r,.row 9 1 encS [] names] 2 (freshP names r) (fun v=>[.str v.1]) (fun v=>[pobj T v.2,.row 9 1 encS [] names]) (fun _=>[]):=by
 have hn:=named_ok h
 have hx:=next_ok h
 have hc:=contains_ok names (hdT r).text (by omega)
 cases hb:namedB r with
 | false =>
  rw [hb] at hn
  have hs:freshP names r=.error ((hdT r).pos,12):=by simp only [freshP,hb,if_true,errP]
  refine xO (cxXOk (fun ch=>∃ er,freshP names r=.error er∧ch=stopC er) 2 19 [0,1,4]) Tryz.func201 ?_
  conv=>whnf
  refine cO (fun _=>hn) (cW ?_)
  exact CallG.stop rfl (riox_stop (chk_f h 12) [0] rfl rfl rfl ab0) ((fun ch hc=>⟨_,hs,hc⟩))
 | true =>
  have hnm:nameP r=.ok ((hdT r).text,r.tail):=by simp only [nameP,hb,if_true]
  rw [hb] at hn
  cases hm:decide ((hdT r).text∈names) with
  | true =>
   rw [hm] at hc
   have hs:freshP names r=.error ((hdT r).pos,5):=by simp only [freshP,hb,Bool.true_eq_false,if_false,of_decide_eq_true hm,if_true,errP]
   refine xO (cxXOk (fun ch=>∃ er,freshP names r=.error er∧ch=stopC er) 2 19 [0,1,4]) Tryz.func201 ?_
   conv=>whnf
   refine cO (fun _=>hn) (cW ?_)
   refine cR ((chk_t h 12)) [0] (cW ?_)
   refine cO (fun _=>hx) (cW ?_)
   refine cO (fun _=>hc) (cW ?_)
   exact CallG.stop rfl (riox_stop (chk_f h 5) [0] rfl rfl rfl ab0) ((fun ch hc=>⟨_,hs,hc⟩))
  | false =>
   rw [hm] at hc
   have hs:freshP names r=.ok ((hdT r).text,r.tail):=by simp only [freshP,hb,Bool.true_eq_false,if_false,of_decide_eq_false hm]
   refine xO (cxXOk (fun ch=>∃ er,freshP names r=.error er∧ch=stopC er) 2 19 [0,1,4]) Tryz.func201 ?_
   conv=>whnf
   refine cO (fun _=>hn) (cW ?_)
   refine cR ((chk_t h 12)) [0] (cW ?_)
   refine cO (fun _=>hx) (cW ?_)
   refine cO (fun _=>hc) (cW ?_)
   refine cR ((chk_t h 5)) [0] (cW ?_)
   refine cR ((rx_ok (name_x h) hnm)) [0] (cW ?_)
   refine ⟨_,Wk.refl _,rfl,rfl,(cW ?_)⟩
   exact ⟨rfl,((hdT r).text,r.tail),hs,rfl,rfl,rfl⟩
abbrev celN (x:Ind) (ca l cv fv cl:AV):List AV:=[.str x.name,.str x.issuer,.int .i64 x.face,.int .i64 x.frm,.int .i64 x.to,.int .i64 x.every,.int .i64 x.count,.int .i64 x.adjust,.int .i64 x.record,.int .i64 x.rank,
 l,.int .i64 x.coupon.op,.int .i64 x.coupon.n,.int .i64 x.coupon.unit,.str x.coupon.s,ca,.int .i64 x.cap,cv,fv,.int .i64 x.cross,cl,.int .i64 x.notice,.int .i64 x.sink,.int .i64 x.majority,.int .i64 x.fast]
def letsP:Nat→List LetE→List Tok→Ps (List LetE)
 | 0,ls,r=>.ok (ls,r)
 | f+1,ls,r =>
  if isT [108,101,116] r=false then .ok (ls,r)
  else if ¬ (ls.length:Int)<20 then errP 6 r
  else match freshP (ls.map LetE.name) r.tail with
   | .error e=>.error e
   | .ok (s,r1)=>match wantP [61] r1 with
    | .error e=>.error e
    | .ok r2=>match wholeP [59] r2 with
     | .error e=>.error e
     | .ok (x,r3)=>letsP f (ls++[⟨s,x⟩]) r3
theorem freshP_suf {names:List (List UInt8)} {r r':List Tok} {s:List UInt8} (h:freshP names r=.ok (s,r')):Suf r r':=by
 unfold freshP at h
 split at h
 ·cases h
 ·rename_i hb
  split at h
  ·cases h
  ·exact nameP_suf (s:=s) (by unfold nameP;rw [if_pos zp43];exact h)
theorem wholeP_suf {s:List UInt8} {r r':List Tok} {x:Exp} (h:wholeP s r=.ok (x,r')):Suf r r':=by
 unfold wholeP at h
 split at h
 ·cases h
 ·rename_i y r1 e1
  split at h
  ·cases h
  ·rename_i hb
   split at h
   ·cases h
    exact (expP_suf _ _ _ _ _ e1).trans (.tail (isT_kind zp43))
   ·cases h
theorem zt149 {p:Prop}(h:p:=by
 rw [Int.toNat_natCast,List.getD_eq_getElem?_getD,List.getElem?_append_right (by omega),hnl,Nat.sub_self]
 rfl):p:=h
theorem zt183 {p:Prop}(h:p:=by
 conv=>whnf
 exact ⟨rfl,(ls,q),hs,rfl,rfl,rfl⟩):p:=h
theorem zp34 {p:Prop} (h:p:=by rw [List.map_append];rfl):p:=h
theorem zp20 {p:Prop} (h:p:=by first | exact .row _ _ _ _ _ _ _ rfl zp34 | exact .lstrow _ _ _ _ _ _ _ rfl zp34 | exact .nilrow _ _ _ _ _ zp34 | exact .truncrow _ _ _ _ _ _ _ _ rfl (by omega) zp34):p:=h
theorem zp22 {p:Prop} (h:p:=by show (ls++[_]).length≤20;rw [List.length_append];show ls.length+1≤20;omega):p:=h
theorem lets_x {T r:List Tok} (h:PSt T r) (x:Ind):RX 166 [.ptr 0 0,.ptr 1 0] [pobj T r,.cells 56 (celN x .nils .nils .nils .nils .nils)] 2 (letsP r.length [] r) (fun _=>[]) (fun v=>[pobj T v.2,.cells 56 (celN x .nils (.sl 6 encL l0 v.1) .nils .nils .nils)]) (fun _=>[]):=by
 refine xO (cxXOk (fun ch=>∃ er,letsP r.length [] r=.error er∧ch=stopC er) 2 46 [0,1,4,6]) Tryz.func166 ?_
 conv=>whnf
 refine loop_inv (cxXOk _ _ _ _) (fun s:Nat×(List LetE×List Tok)=>PSt T s.2.2∧s.2.2.length≤s.1∧s.2.1.length≤20∧letsP r.length [] r=letsP s.1 s.2.1 s.2.2) (fun s=>s.1) (fun s=>⟨[(0,.ptr 0 0),(1,.ptr 1 0),(4,.own 2)],[(0,.cells 183 (pcell T (s.2.2))),(1,.cells 56 (celN x .nils (.own 3) .nils .nils .nils)),(2,.row 9 1 encS [] ((s.2.1).map LetE.name)),(3,.row 223 6 encL l0 (s.2.1))],4⟩) (r.length,([],r)) ⟨h,Nat.le_refl _,by simp,rfl⟩ ((wk_of [(0,.id 0),(1,.id 1),(2,.nil),(3,.nil)] rfl ⟨wc0,wc0,ag0,trivial⟩ ⟨wb0,wb0,⟨_,rfl,ae0⟩,⟨_,rfl,ae0⟩,trivial⟩)) ?_
 rintro ⟨f,ls,q⟩ ⟨hq,hqf,hls,hsp⟩
 dsimp only at hq hqf hls hsp ⊢
 obtain ⟨f,rfl⟩:∃ g,f=g+1:=⟨f-1,by have:=hq.pos;omega⟩
 have hi:=is_ok hq [108,101,116]
 cases hb:isT [108,101,116] q with
 | false =>
  rw [hb] at hi
  conv=>whnf
  refine cO (fun _=>hi) (cW ?_)
  refine gF (cW ?_)
  have hs:letsP r.length [] r=.ok (ls,q):=by rw [hsp,letsP,if_pos hb]
  refine ⟨⟨[(0,.ptr 0 0)],[(0,.cells 183 (pcell T q)),(1,.cells 56 (celN x .nils (.sl 6 encL l0 ls) .nils .nils .nils))],2⟩,(wk_frz [3]).trans (wk_of [(0,.id 0),(1,.id 1)] rfl ⟨wc0,trivial⟩ ⟨wb0,wb0,trivial⟩),rfl,rfl,?_⟩
  exact zt183
 | true =>
  rw [hb] at hi
  have q1:=hq.tail (isT_kind hb)
  have hat:=hq.at
  have hqp:=hq.pos
  have hqle:=hq.le
  have hbig:=hq.big
  have hnl:(ls.map LetE.name).length=ls.length:=List.length_map ..
  conv=>whnf
  refine cO (fun _=>hi) (cW ?_)
  refine gT (cW ?_)
  cases h20:decide ((ls.length:Int)<20) with
  | false =>
   have hs:letsP r.length [] r=.error ((hdT q).pos,6):=by rw [hsp,letsP,if_neg (by simp [hb]),if_pos (of_decide_eq_false h20)];rfl
   rw [hnl,h20]
   exact zt42
  | true =>
   have h20':=of_decide_eq_true h20
   have hs:letsP r.length [] r=match freshP (ls.map LetE.name) q.tail with
    | .error e=>.error e
    | .ok (s,r1)=>match wantP [61] r1 with
     | .error e=>.error e
     | .ok r2=>match wholeP [59] r2 with
      | .error e=>.error e
      | .ok (x,r3)=>letsP f (ls++[⟨s,x⟩]) r3:=by rw [hsp,letsP,if_neg (by simp [hb]),if_neg (by omega)]
   rw [hnl,h20]
   refine cR ((chk_t hq 6)) [0] (cW ?_)
   refine iO (cW ?_)
   rw [hat]
   conv=>whnf
   rcases e1:freshP (ls.map LetE.name) q.tail with e | ⟨s,r1⟩
   ·exact CallG.stop rfl (riox_stop (rx_er (fresh_x q1 (ls.map LetE.name) (by omega)) e1) [0,2] rfl rfl rfl ab0) (fun ch hc=>⟨e,by simp only [hs,e1],hc⟩)
   refine cR (rx_ok (fresh_x q1 (ls.map LetE.name) om0) e1) [0,2] (cW ?_)
   refine And.intro rfl (cW ?_)
   refine And.intro ⟨rfl,rfl⟩ (And.intro (by show ((List.map LetE.name ls).length+1)*16≤140737488355328;rw [hnl];omega) (cW ?_))
   refine Exists.intro s (And.intro rfl (cW ?_))
   have q2:=q1.to (freshP_suf e1)
   rcases e2:wantP [61] r1 with e | r2
   ·exact CallG.stop rfl (riox_stop (rx_er (want1_x q2 [61]) e2) [0,6] rfl rfl rfl ab0) (fun ch hc=>⟨e,by simp only [hs,e1,e2],hc⟩)
   refine cR (rx_ok (want1_x q2 [61]) e2) [0,6] (cW ?_)
   have q3:=q2.to (wantP_suf e2)
   have hnl2:((List.map LetE.name ls++[s]).length:Int)=ls.length+1:=by rw [List.length_append,hnl];rfl
   have hgs:(List.map LetE.name ls++[s]).getD ((ls.length:Nat):Int).toNat []=s:=by
    exact zt149
   have hlt2:((ls.length:Nat):Int).toNat<(List.map LetE.name ls++[s]).length:=by rw [Int.toNat_natCast,List.length_append,hnl];exact Nat.lt_succ_self _
   have hm1:((ls.length:Nat):Int)+1-1=(ls.length:Nat):=by omega
   rcases e3:wholeP [59] r2 with e | ⟨y,r3⟩
   ·refine DrawG.effp ad0 12 (cW ?_)
    rw [hnl2]
    refine iO (cW ?_)
    rw [hm1]
    refine iO (cW ?_)
    rw [hgs]
    refine And.intro hlt2 (And.intro rfl (cW ?_))
    exact .mk [0] _ (riox_stop ((rx_er (whole_x q3 [59]) e3)) [0] rfl rfl rfl ab0) ((fun ch hc=>⟨e,by simp only [hs,e1,e2,e3],hc⟩)) ⟨by kernel_rfl,by kernel_rfl⟩
   refine .eff ad0 (cW ?_)
   rw [hnl2]
   refine iO (cW ?_)
   rw [hm1]
   refine iO (cW ?_)
   rw [hgs]
   refine And.intro hlt2 (And.intro rfl (cW ?_))
   refine cR ((rx_ok (whole_x q3 [59]) e3)) [0] (cW ?_)
   refine And.intro rfl (cW ?_)
   refine And.intro ⟨rfl,rfl⟩ (And.intro (by show (ls.length+1)*80≤140737488355328;omega) (cW ?_))
   refine Exists.intro ⟨s,y⟩ (And.intro rfl (cW ?_))
   refine ⟨by kernel_rfl,(cW (cW ?_))⟩
   have q4:=q3.to (wholeP_suf e3)
   have hl4:r3.length≤f:=by
    have a:=((Suf.refl _).trans (freshP_suf e1)).le
    have b:=(wantP_suf e2).le
    have c:=(wholeP_suf e3).le
    have d:=hq.tl
    omega
   exact ⟨(f,(ls++[⟨s,y⟩],r3)),⟨q4,hl4,zp22,(by simp only [hs,e1,e2,e3])⟩,Nat.lt_succ_self f,(wk_of [(0,.id 0),(1,.id 1),(2,.id 5),(3,.id 9)] rfl ⟨wc0,wc0,ag0,trivial⟩ ⟨wb0,wb0,⟨_,rfl,zp20⟩,⟨_,rfl,ae0⟩,trivial⟩)⟩
def covsP:Nat→List Cov→List Tok→Ps (List Cov)
 | 0,ls,r=>.ok (ls,r)
 | f+1,ls,r =>
  if isT [99,111,118,101,110,97,110,116] r=false then .ok (ls,r)
  else if ¬ (ls.length:Int)<20 then errP 6 r
  else match freshP (ls.map Cov.name) r.tail with
   | .error e=>.error e
   | .ok (s,r1)=>match wantP [109,117,115,116] r1 with
    | .error e=>.error e
    | .ok r2=>match wholeP [103,114,97,99,101] r2 with
     | .error e=>.error e
     | .ok (x,r3)=>match numP 0 1000 r3 with
      | .error e=>.error e
      | .ok (n,r4)=>match wantP [59] r4 with
       | .error e=>.error e
       | .ok r5=>covsP f (ls++[⟨s,x,n⟩]) r5
theorem covs_x {T r:List Tok} (h:PSt T r) (x:Ind):RX 168 [.ptr 0 0,.ptr 1 0] [pobj T r,.cells 56 (celN x (.lsl 5 (argsE x.coupon)) (.sl 6 encL l0 x.lets) .nils .nils .nils)] 2 (covsP r.length [] r) (fun _=>[]) (fun v=>[pobj T v.2,.cells 56 (celN x (.lsl 5 (argsE x.coupon)) (.sl 6 encL l0 x.lets) (.sl 7 encC c0 v.1) .nils .nils)]) (fun _=>[]):=by
 refine xO (cxXOk (fun ch=>∃ er,covsP r.length [] r=.error er∧ch=stopC er) 2 54 [0,1,4,5,7]) Tryz.func168 ?_
 conv=>whnf
 refine loop_inv (cxXOk _ _ _ _) (fun s:Nat×(List Cov×List Tok)=>PSt T s.2.2∧s.2.2.length≤s.1∧s.2.1.length≤20∧covsP r.length [] r=covsP s.1 s.2.1 s.2.2) (fun s=>s.1) (fun s=>⟨[(0,.ptr 0 0),(1,.ptr 1 0),(4,.own 2)],[(0,.cells 183 (pcell T (s.2.2))),(1,.cells 56 (celN x (.lsl 5 (argsE x.coupon)) (.sl 6 encL l0 x.lets) (.own 3) .nils .nils)),(2,.row 9 1 encS [] ((s.2.1).map Cov.name)),(3,.row 227 7 encC c0 (s.2.1))],4⟩) (r.length,([],r)) ⟨h,Nat.le_refl _,by simp,rfl⟩ ((wk_of [(0,.id 0),(1,.id 1),(2,.nil),(3,.nil)] rfl ⟨wc0,wc0,ag0,trivial⟩ ⟨wb0,wb0,⟨_,rfl,ae0⟩,⟨_,rfl,ae0⟩,trivial⟩)) ?_
 rintro ⟨f,ls,q⟩ ⟨hq,hqf,hls,hsp⟩
 dsimp only at hq hqf hls hsp ⊢
 obtain ⟨f,rfl⟩:∃ g,f=g+1:=⟨f-1,by have:=hq.pos;omega⟩
 have hi:=is_ok hq [99,111,118,101,110,97,110,116]
 cases hb:isT [99,111,118,101,110,97,110,116] q with
 | false =>
  rw [hb] at hi
  conv=>whnf
  refine cO (fun _=>hi) (cW ?_)
  refine gF (cW ?_)
  have hs:covsP r.length [] r=.ok (ls,q):=by rw [hsp,covsP,if_pos hb]
  refine ⟨⟨[(0,.ptr 0 0)],[(0,.cells 183 (pcell T q)),(1,.cells 56 (celN x (.lsl 5 (argsE x.coupon)) (.sl 6 encL l0 x.lets) (.sl 7 encC c0 ls) .nils .nils))],2⟩,(wk_frz [3]).trans (wk_of [(0,.id 0),(1,.id 1)] rfl ⟨wc0,trivial⟩ ⟨wb0,wb0,trivial⟩),rfl,rfl,?_⟩
  exact zt183
 | true =>
  rw [hb] at hi
  have q1:=hq.tail (isT_kind hb)
  have hat:=hq.at
  have hqp:=hq.pos
  have hqle:=hq.le
  have hbig:=hq.big
  have hnl:(ls.map Cov.name).length=ls.length:=List.length_map ..
  conv=>whnf
  refine cO (fun _=>hi) (cW ?_)
  refine gT (cW ?_)
  cases h20:decide ((ls.length:Int)<20) with
  | false =>
   have hs:covsP r.length [] r=.error ((hdT q).pos,6):=by rw [hsp,covsP,if_neg (by simp [hb]),if_pos (of_decide_eq_false h20)];rfl
   rw [hnl,h20]
   exact zt42
  | true =>
   have h20':=of_decide_eq_true h20
   have hs:covsP r.length [] r=match freshP (ls.map Cov.name) q.tail with
    | .error e=>.error e
    | .ok (s,r1)=>match wantP [109,117,115,116] r1 with
     | .error e=>.error e
     | .ok r2=>match wholeP [103,114,97,99,101] r2 with
      | .error e=>.error e
      | .ok (x,r3)=>match numP 0 1000 r3 with
       | .error e=>.error e
       | .ok (n,r4)=>match wantP [59] r4 with
        | .error e=>.error e
        | .ok r5=>covsP f (ls++[⟨s,x,n⟩]) r5:=by rw [hsp,covsP,if_neg (by simp [hb]),if_neg (by omega)]
   rw [hnl,h20]
   refine cR ((chk_t hq 6)) [0] (cW ?_)
   refine iO (cW ?_)
   rw [hat]
   conv=>whnf
   rcases e1:freshP (ls.map Cov.name) q.tail with e | ⟨s,r1⟩
   ·exact CallG.stop rfl (riox_stop (rx_er (fresh_x q1 (ls.map Cov.name) (by omega)) e1) [0,2] rfl rfl rfl ab0) (fun ch hc=>⟨e,by simp only [hs,e1],hc⟩)
   refine cR (rx_ok (fresh_x q1 (ls.map Cov.name) om0) e1) [0,2] (cW ?_)
   refine And.intro rfl (cW ?_)
   refine And.intro ⟨rfl,rfl⟩ (And.intro (by show ((List.map Cov.name ls).length+1)*16≤140737488355328;rw [hnl];omega) (cW ?_))
   refine Exists.intro s (And.intro rfl (cW ?_))
   have q2:=q1.to (freshP_suf e1)
   rcases e2:wantP [109,117,115,116] r1 with e | r2
   ·exact CallG.stop rfl (riox_stop (rx_er (want1_x q2 [109,117,115,116]) e2) [0,6] rfl rfl rfl ab0) (fun ch hc=>⟨e,by simp only [hs,e1,e2],hc⟩)
   refine cR (rx_ok (want1_x q2 [109,117,115,116]) e2) [0,6] (cW ?_)
   have q3:=q2.to (wantP_suf e2)
   have hnl2:((List.map Cov.name ls++[s]).length:Int)=ls.length+1:=by rw [List.length_append,hnl];rfl
   have hgs:(List.map Cov.name ls++[s]).getD ((ls.length:Nat):Int).toNat []=s:=by
    exact zt149
   have hlt2:((ls.length:Nat):Int).toNat<(List.map Cov.name ls++[s]).length:=by rw [Int.toNat_natCast,List.length_append,hnl];exact Nat.lt_succ_self _
   have hm1:((ls.length:Nat):Int)+1-1=(ls.length:Nat):=by omega
   rcases e3:wholeP [103,114,97,99,101] r2 with e | ⟨y,r3⟩
   ·refine DrawG.effp ad0 7 (cW ?_)
    rw [hnl2]
    refine iO (cW ?_)
    rw [hm1]
    refine iO (cW ?_)
    rw [hgs]
    refine And.intro hlt2 (And.intro rfl (cW ?_))
    exact .mk [0] _ (riox_stop ((rx_er (whole_x q3 [103,114,97,99,101]) e3)) [0] rfl rfl rfl ab0) ((fun ch hc=>⟨e,by simp only [hs,e1,e2,e3],hc⟩)) ⟨by kernel_rfl,by kernel_rfl⟩
   refine .eff ad0 (cW ?_)
   rw [hnl2]
   refine iO (cW ?_)
   rw [hm1]
   refine iO (cW ?_)
   rw [hgs]
   refine And.intro hlt2 (And.intro rfl (cW ?_))
   refine cR ((rx_ok (whole_x q3 [103,114,97,99,101]) e3)) [0] (cW ?_)
   refine ⟨by kernel_rfl,(cW (cW ?_))⟩
   have q4:=q3.to (wholeP_suf e3)
   rcases e4:numP 0 1000 r3 with e | ⟨n,r4⟩
   ·exact CallG.stop rfl (riox_stop (rx_er (num_x q4 0 1000) e4) [0] rfl rfl rfl ab0) (fun ch hc=>⟨e,by simp only [hs,e1,e2,e3,e4],hc⟩)
   refine cR (rx_ok (num_x q4 0 1000) e4) [0] (cW ?_)
   have q5:=q4.to (numP_suf e4).1
   rcases e5:wantP [59] r4 with e | r5
   ·exact CallG.stop rfl (riox_stop (rx_er (want1_x q5 [59]) e5) [0,9] rfl rfl rfl ab0) (fun ch hc=>⟨e,by simp only [hs,e1,e2,e3,e4,e5],hc⟩)
   refine cR (rx_ok (want1_x q5 [59]) e5) [0,9] (cW ?_)
   have q6:=q5.to (wantP_suf e5)
   refine .eff ad0 (cW ?_)
   refine And.intro rfl (cW ?_)
   refine And.intro ⟨rfl,rfl⟩ (And.intro (by show (ls.length+1)*88≤140737488355328;omega) (cW ?_))
   refine Exists.intro ⟨s,y,n⟩ (And.intro rfl (cW ?_))
   refine ⟨by kernel_rfl,(cW (cW ?_))⟩
   have hl4:r5.length≤f:=by
    have a:=((Suf.refl _).trans (freshP_suf e1)).le
    have b:=(wantP_suf e2).le
    have c:=(wholeP_suf e3).le
    have c4:=(numP_suf e4).1.le
    have c5:=(wantP_suf e5).le
    have d:=hq.tl
    omega
   exact ⟨(f,(ls++[⟨s,y,n⟩],r5)),⟨q6,hl4,zp22,(by simp only [hs,e1,e2,e3,e4,e5])⟩,Nat.lt_succ_self f,(wk_of [(0,.id 0),(1,.id 1),(2,.id 5),(3,.id 11)] rfl ⟨wc0,wc0,ag0,trivial⟩ ⟨wb0,wb0,⟨_,rfl,zp20⟩,⟨_,rfl,ae0⟩,trivial⟩)⟩
def favL:Nat→List (List UInt8)→List Tok→Ps (List (List UInt8))
 | 0,ls,r=>.ok (ls,r)
 | f+1,ls,r =>
  if ls.length=0∨isT [59] r=false then
   if namedB r=false then errP 12 r
   else if ¬ (ls.length:Int)<20 then errP 6 r
   else match freshP ls r with
    | .error e=>.error e
    | .ok (s,r1)=>favL f (ls++[s]) r1
  else .ok (ls,r)
def favP (r:List Tok):Ps (List (List UInt8)) :=
 if isT [102,97,118,111,117,114] r=false then .ok ([],r)
 else match favL r.tail.length [] r.tail with
  | .error e=>.error e
  | .ok (ls,r1)=>match wantP [59] r1 with
   | .error e=>.error e
   | .ok r2=>.ok (ls,r2)
def callsP:Nat→List CallE→List Tok→Ps (List CallE)
 | 0,ls,r=>.ok (ls,r)
 | f+1,ls,r =>
  if isT [99,97,108,108] r=false then .ok (ls,r)
  else if ¬ (ls.length:Int)<20 then errP 6 r
  else match dateP (-1) r.tail with
   | .error e=>.error e
   | .ok (d,r1)=>match wantP [97,116] r1 with
    | .error e=>.error e
    | .ok r2=>match numP 0 10000 r2 with
     | .error e=>.error e
     | .ok (n,r3)=>match wantP [59] r3 with
      | .error e=>.error e
      | .ok r4=>callsP f (ls++[⟨d,n⟩]) r4
theorem dateP_suf {least d:Int} {r r':List Tok} (h:dateP least r=.ok (d,r')):Suf r r':=by
 unfold dateP at h
 split at h
 ·cases h
 rename_i e1
 split at h
 ·cases h
 rename_i e2
 split at h
 ·cases h
 rename_i e3
 split at h
 ·cases h
 rename_i e4
 split at h
 ·cases h
 rename_i hk
 split at h
 ·cases h
 split at h
 ·cases h
  exact ((((numP_suf e1).1.trans (wantP_suf e2)).trans (numP_suf e3).1).trans (wantP_suf e4)).trans (.tail om0)
 ·cases h
theorem calls_x {T r:List Tok} (h:PSt T r) (x:Ind):RX 171 [.ptr 0 0,.ptr 1 0] [pobj T r,.cells 56 (celN x (.lsl 5 (argsE x.coupon)) (.sl 6 encL l0 x.lets) (.sl 7 encC c0 x.cov) (.sl 1 encS [] x.favour) .nils)] 2 (callsP r.length [] r) (fun _=>[]) (fun v=>[pobj T v.2,.cells 56 (celN x (.lsl 5 (argsE x.coupon)) (.sl 6 encL l0 x.lets) (.sl 7 encC c0 x.cov) (.sl 1 encS [] x.favour) (.sl 2 encK k0 v.1))]) (fun _=>[]):=by
 refine xO (cxXOk (fun ch=>∃ er,callsP r.length [] r=.error er∧ch=stopC er) 2 44 [0,1,4,6]) Tryz.func171 ?_
 conv=>whnf
 refine loop_inv (cxXOk _ _ _ _) (fun s:Nat×(List CallE×List Tok)=>PSt T s.2.2∧s.2.2.length≤s.1∧s.2.1.length≤20∧callsP r.length [] r=callsP s.1 s.2.1 s.2.2) (fun s=>s.1) (fun s=>⟨[(0,.ptr 0 0),(1,.ptr 1 0)],[(0,.cells 183 (pcell T (s.2.2))),(1,.cells 56 (celN x (.lsl 5 (argsE x.coupon)) (.sl 6 encL l0 x.lets) (.sl 7 encC c0 x.cov) (.sl 1 encS [] x.favour) (.own 2))),(2,.row 229 2 encK k0 (s.2.1))],3⟩) (r.length,([],r)) ⟨h,Nat.le_refl _,by simp,rfl⟩ ((wk_of [(0,.id 0),(1,.id 1),(2,.nil)] rfl ⟨wc0,wc0,trivial⟩ ⟨wb0,wb0,⟨_,rfl,ae0⟩,trivial⟩)) ?_
 rintro ⟨f,ls,q⟩ ⟨hq,hqf,hls,hsp⟩
 dsimp only at hq hqf hls hsp ⊢
 obtain ⟨f,rfl⟩:∃ g,f=g+1:=⟨f-1,by have:=hq.pos;omega⟩
 have hi:=is_ok hq [99,97,108,108]
 cases hb:isT [99,97,108,108] q with
 | false =>
  rw [hb] at hi
  conv=>whnf
  refine cO (fun _=>hi) (cW ?_)
  refine gF (cW ?_)
  have hs:callsP r.length [] r=.ok (ls,q):=by rw [hsp,callsP,if_pos hb]
  refine ⟨⟨[(0,.ptr 0 0)],[(0,.cells 183 (pcell T q)),(1,.cells 56 (celN x (.lsl 5 (argsE x.coupon)) (.sl 6 encL l0 x.lets) (.sl 7 encC c0 x.cov) (.sl 1 encS [] x.favour) (.sl 2 encK k0 ls)))],2⟩,(wk_frz [2]).trans (wk_of [(0,.id 0),(1,.id 1)] rfl ⟨wc0,trivial⟩ ⟨wb0,wb0,trivial⟩),rfl,rfl,?_⟩
  exact zt183
 | true =>
  rw [hb] at hi
  have q1:=hq.tail (isT_kind hb)
  have hat:=hq.at
  have hqp:=hq.pos
  have hqle:=hq.le
  have hbig:=hq.big
  conv=>whnf
  refine cO (fun _=>hi) (cW ?_)
  refine gT (cW ?_)
  cases h20:decide ((ls.length:Int)<20) with
  | false =>
   have hs:callsP r.length [] r=.error ((hdT q).pos,6):=by rw [hsp,callsP,if_neg (by simp [hb]),if_pos (of_decide_eq_false h20)];rfl
   exact zt42
  | true =>
   have h20':=of_decide_eq_true h20
   have hs:callsP r.length [] r=match dateP (-1) q.tail with
    | .error e=>.error e
    | .ok (d,r1)=>match wantP [97,116] r1 with
     | .error e=>.error e
     | .ok r2=>match numP 0 10000 r2 with
      | .error e=>.error e
      | .ok (n,r3)=>match wantP [59] r3 with
       | .error e=>.error e
       | .ok r4=>callsP f (ls++[⟨d,n⟩]) r4:=by rw [hsp,callsP,if_neg (by simp [hb]),if_neg (by omega)]
   refine cR ((chk_t hq 6)) [0] (cW ?_)
   refine iO (cW ?_)
   rw [hat]
   conv=>whnf
   rcases e1:dateP (-1) q.tail with e | ⟨d,r1⟩
   ·exact CallG.stop rfl (riox_stop (rx_er (date_x q1 (-1)) e1) [0] rfl rfl rfl ab0) (fun ch hc=>⟨e,by simp only [hs,e1],hc⟩)
   refine cR (rx_ok (date_x q1 (-1)) e1) [0] (cW ?_)
   have q2:=q1.to (dateP_suf e1)
   rcases e2:wantP [97,116] r1 with e | r2
   ·exact CallG.stop rfl (riox_stop (rx_er (want1_x q2 [97,116]) e2) [0,4] rfl rfl rfl ab0) (fun ch hc=>⟨e,by simp only [hs,e1,e2],hc⟩)
   refine cR (rx_ok (want1_x q2 [97,116]) e2) [0,4] (cW ?_)
   have q3:=q2.to (wantP_suf e2)
   rcases e3:numP 0 10000 r2 with e | ⟨n,r3⟩
   ·exact CallG.stop rfl (riox_stop (rx_er (num_x q3 0 10000) e3) [0] rfl rfl rfl ab0) (fun ch hc=>⟨e,by simp only [hs,e1,e2,e3],hc⟩)
   refine cR (rx_ok (num_x q3 0 10000) e3) [0] (cW ?_)
   have q4:=q3.to (numP_suf e3).1
   rcases e4:wantP [59] r3 with e | r4
   ·exact CallG.stop rfl (riox_stop (rx_er (want1_x q4 [59]) e4) [0,5] rfl rfl rfl ab0) (fun ch hc=>⟨e,by simp only [hs,e1,e2,e3,e4],hc⟩)
   refine cR (rx_ok (want1_x q4 [59]) e4) [0,5] (cW ?_)
   have q5:=q4.to (wantP_suf e4)
   refine .eff ad0 (cW ?_)
   refine And.intro rfl (cW ?_)
   refine And.intro ⟨rfl,rfl⟩ (And.intro (by show (ls.length+1)*16≤140737488355328;omega) (cW ?_))
   refine Exists.intro ⟨d,n⟩ (And.intro rfl (cW ?_))
   refine ⟨by kernel_rfl,(cW (cW ?_))⟩
   have hl4:r4.length≤f:=by
    have a:=(dateP_suf e1).le
    have b:=(wantP_suf e2).le
    have c:=(numP_suf e3).1.le
    have c4:=(wantP_suf e4).le
    have d:=hq.tl
    omega
   exact ⟨(f,(ls++[⟨d,n⟩],r4)),⟨q5,hl4,zp22,(by simp only [hs,e1,e2,e3,e4])⟩,Nat.lt_succ_self f,(wk_of [(0,.id 0),(1,.id 1),(2,.id 7)] rfl ⟨wc0,wc0,trivial⟩ ⟨wb0,wb0,⟨_,rfl,ae0⟩,trivial⟩)⟩
theorem favL_go {f:Nat} {ls:List (List UInt8)} {r:List Tok} (hg:ls.length=0∨isT [59] r=false) (hn:namedB r=true) (h20:(ls.length:Int)<20):favL (f+1) ls r=match freshP ls r with
  | .error e=>.error e
  | .ok (s,r1)=>favL f (ls++[s]) r1:=by
 rw [favL,if_pos hg,if_neg (by simp [hn]),if_neg (by omega)]
theorem freshP_lt {T:List Tok} {names:List (List UInt8)} {r r':List Tok} {s:List UInt8} (hp:PSt T r) (h:freshP names r=.ok (s,r')):r'.length+1=r.length:=by
 unfold freshP at h
 split at h
 ·cases h
 ·split at h
  ·cases h
  ·cases h;exact hp.tl
def favK (s:Ps (List (List UInt8))):Ps (List (List UInt8)):=match s with
 | .error e=>.error e
 | .ok (ls,r1)=>match wantP [59] r1 with
  | .error e=>.error e
  | .ok r2=>.ok (ls,r2)
theorem zt4 {p:Prop}(h:p:=by
 conv=>whnf
 refine gT (cW ?_)
 cases hn:namedB q with
 | false =>
  have hs:favP r=.error ((hdT q).pos,12):=by rw [hsp,favL,if_pos hg,if_pos hn];rfl
  have hnm:=named_ok hq
  rw [hn] at hnm
  refine cO (fun _=>hnm) (cW ?_)
  exact zt174
 | true =>
  have hnm:=named_ok hq
  rw [hn] at hnm
  refine cO (fun _=>hnm) (cW ?_)
  refine cR ((chk_t hq 12)) [0] (cW ?_)
  cases h20:decide ((ls.length:Int)<20) with
  | false =>
   have hs:favP r=.error ((hdT q).pos,6):=by rw [hsp,favL,if_pos hg,if_neg (by simp [hn]),if_pos (of_decide_eq_false h20)];rfl
   exact zt42
  | true =>
   have h20':=of_decide_eq_true h20
   have hs:favP r=favK (match freshP ls q with
    | .error e=>.error e
    | .ok (s,r1)=>favL f (ls++[s]) r1):=by rw [hsp,favL_go hg hn h20']
   refine cR ((chk_t hq 6)) [0] (cW ?_)
   rcases e1:freshP ls q with e | ⟨s,r1⟩
   ·have hs':favP r=.error e:=by rw [hs,e1];rfl
    refine DrawG.effp ad0 10 (cW ?_)
    exact .mk [0,2] _ (riox_stop ((rx_er (fresh_x hq ls om0) e1)) [0,2] rfl rfl rfl ab0) ((fun ch hc=>⟨e,hs',hc⟩)) ⟨by kernel_rfl,by kernel_rfl⟩
   have hs':favP r=favK (favL f (ls++[s]) r1):=by rw [hs,e1]
   have q2:=hq.to (freshP_suf e1)
   have hl2:=freshP_lt hq e1
   refine .eff ad0 (cW ?_)
   refine cR ((rx_ok (fresh_x hq ls om0) e1)) [0,2] (cW ?_)
   refine And.intro rfl (cW ?_)
   refine And.intro ⟨rfl,rfl⟩ (And.intro (by show (ls.length+1)*16≤140737488355328;omega) (cW ?_))
   refine Exists.intro s (And.intro rfl (cW ?_))
   refine ⟨by kernel_rfl,(cW (cW ?_))⟩
   exact ⟨(f,(ls++[s],r1)),⟨q2,(by show r1.length≤f;omega),zp22,hs'⟩,Nat.lt_succ_self f,(wk_of [(0,.id 0),(1,.id 1),(2,.id 4)] rfl ⟨wc0,wc0,trivial⟩ ⟨wb0,wb0,⟨_,rfl,ae0⟩,trivial⟩)⟩):p:=h
theorem fav_x {T r:List Tok} (h:PSt T r) (x:Ind):RX 169 [.ptr 0 0,.ptr 1 0] [pobj T r,.cells 56 (celN x (.lsl 5 (argsE x.coupon)) (.sl 6 encL l0 x.lets) (.sl 7 encC c0 x.cov) .nils .nils)] 2 (favP r) (fun _=>[]) (fun v=>[pobj T v.2,.cells 56 (celN x (.lsl 5 (argsE x.coupon)) (.sl 6 encL l0 x.lets) (.sl 7 encC c0 x.cov) (.sl 1 encS [] v.1) .nils)]) (fun _=>[]):=by
 cases hb:isT [102,97,118,111,117,114] r with
 | false =>
  have hs:favP r=.ok ([],r):=by rw [favP,if_pos hb]
  refine xO (cxXOk (fun ch=>∃ er,favP r=.error er∧ch=stopC er) 2 48 [0,1,6,17]) Tryz.func169 ?_
  conv=>whnf
  refine cR ((has_f h hb)) [0] (cW ?_)
  refine gT (cW ?_)
  refine ⟨⟨[(0,.ptr 0 0)],[(0,.cells 183 (pcell T r)),(1,.cells 56 (celN x (.lsl 5 (argsE x.coupon)) (.sl 6 encL l0 x.lets) (.sl 7 encC c0 x.cov) (.sl 1 encS [] (([]:List (List UInt8)))) .nils))],2⟩,(wk_of [(0,.id 0),(1,.id 1)] rfl ⟨wc0,trivial⟩ ⟨wb0,⟨_,rfl,.cells _ _ _ _ rfl (by repeat (first | exact .nil | refine .cons (by first | exact .base (.tree _ _ rfl rfl) | exact .base (.own _ _ rfl) | exact .base (.ptr _ _ _ rfl) | exact .base (.map _ _ rfl) | exact .base (.nilown _ rfl) | exact .fn _ _ _ _ _ .nil zp7 | exact .base (.tree _ _ (LeT.nils_sl 1 encS []) rfl) | exact .base (.leT _ _ (LeT.nils_sl 1 encS []) rfl)) ?_)) rfl⟩,trivial⟩),rfl,rfl,?_⟩
  conv=>whnf
  exact ⟨rfl,([],r),hs,rfl,rfl,rfl⟩
 | true =>
  have h1:=h.tail (isT_kind hb)
  have hs0:favP r=favK (favL r.tail.length [] r.tail):=by
   rw [favP,if_neg (by simp [hb])]
   unfold favK
   try (cases favL r.tail.length [] r.tail<;>rfl)
  refine xO (cxXOk (fun ch=>∃ er,favP r=.error er∧ch=stopC er) 2 48 [0,1,6,17]) Tryz.func169 ?_
  conv=>whnf
  refine cR ((has_t h hb)) [0] (cW ?_)
  refine gF (cW ?_)
  refine loop_inv (cxXOk _ _ _ _) (fun s:Nat×(List (List UInt8)×List Tok)=>PSt T s.2.2∧s.2.2.length≤s.1∧s.2.1.length≤20∧favP r=favK (favL s.1 s.2.1 s.2.2)) (fun s=>s.1) (fun s=>⟨[(0,.ptr 0 0),(1,.ptr 1 0)],[(0,.cells 183 (pcell T (s.2.2))),(1,.cells 56 (celN x (.lsl 5 (argsE x.coupon)) (.sl 6 encL l0 x.lets) (.sl 7 encC c0 x.cov) (.own 2) .nils)),(2,.row 9 1 encS [] (s.2.1))],3⟩) (r.tail.length,([],r.tail)) ⟨h1,Nat.le_refl _,by simp,hs0⟩ ((wk_of [(0,.id 0),(1,.id 1),(2,.nil)] rfl ⟨wc0,wc0,trivial⟩ ⟨wb0,wb0,⟨_,rfl,ae0⟩,trivial⟩)) ?_
  rintro ⟨f,ls,q⟩ ⟨hq,hqf,hls,hsp⟩
  dsimp only at hq hqf hls hsp ⊢
  obtain ⟨f,rfl⟩:∃ g,f=g+1:=⟨f-1,by have:=hq.pos;omega⟩
  cases h0:decide ((ls.length:Int)=0) with
  | true =>
   have hg:ls.length=0∨isT [59] q=false:=.inl (by have:=of_decide_eq_true h0;omega)
   conv=>whnf
   rw [h0]
   refine cF [.rop (pcell T q),.str [59]] [.val (.bool false)] ?_
   exact zt4
  | false =>
   have h0':=of_decide_eq_false h0
   cases h59:isT [59] q with
   | false =>
    have hg:ls.length=0∨isT [59] q=false:=.inr h59
    conv=>whnf
    rw [h0]
    refine cO (fun _=>(is_f hq h59)) ?_
    exact zt4
   | true =>
    have hs:favP r=favK (.ok (ls,q)):=by rw [hsp,favL,if_neg (fun hc=>hc.elim (fun h=>by omega) (fun h=>by rw [h59] at h;cases h))]
    conv=>whnf
    rw [h0]
    refine cO (fun _=>(is_t hq h59)) (cW ?_)
    refine gF (cW ?_)
    rcases e2:wantP [59] q with e | r2
    ·exact CallG.stop rfl (riox_stop (rx_er (want1_x hq [59]) e2) [0,3] rfl rfl rfl ab0) (fun ch hc=>⟨e,by simp only [hs,favK,e2],hc⟩)
    refine cR (rx_ok (want1_x hq [59]) e2) [0,3] (cW ?_)
    refine ⟨⟨[(0,.ptr 0 0)],[(0,.cells 183 (pcell T r2)),(1,.cells 56 (celN x (.lsl 5 (argsE x.coupon)) (.sl 6 encL l0 x.lets) (.sl 7 encC c0 x.cov) (.sl 1 encS [] ls) .nils))],2⟩,(wk_frz [2]).trans (wk_of [(0,.id 0),(1,.id 1)] rfl ⟨wc0,trivial⟩ ⟨wb0,wb0,trivial⟩),rfl,rfl,(cW ?_)⟩
    exact ⟨rfl,(ls,r2),by simp only [hs,favK,e2],rfl,rfl,rfl⟩
theorem ok_bind {ε α β:Type} (a:α) (f:α→Except ε β):(Except.ok a >>= f)=f a:=rfl
theorem er_bind {ε α β:Type} (e:ε) (f:α→Except ε β):((Except.error e:Except ε α) >>= f)=.error e:=rfl
theorem partP_suf {s:List UInt8} {a b n:Int} {r r':List Tok} (h:partP s a b r=.ok (n,r')):Suf r r':=by
 unfold partP at h
 split at h
 ·cases h
 rename_i e1
 split at h
 ·cases h
 rename_i e2
 split at h
 ·cases h
 rename_i e3
 cases h
 exact ((wantP_suf e1).trans (numP_suf e2).1).trans (wantP_suf e3)
theorem maybeP_suf {s:List UInt8} {a n0 n:Int} {r r':List Tok} (h:maybeP s a n0 r=.ok (n,r')):Suf r r':=by
 unfold maybeP at h
 split at h
 ·exact partP_suf h
 ·cases h;exact .refl _
theorem oneP_suf {s:List UInt8} {ws:List (List UInt8)} {n:Int} {r r':List Tok} (h:oneP s ws r=.ok (n,r')):Suf r r':=by
 unfold oneP at h
 split at h
 ·cases h
 rename_i r1 e1
 split at h
 ·cases h
 rename_i hi
 split at h
 ·cases h
 rename_i e2
 cases h
 have hlt:=idxP_lt (fun w=>isT w r1) [] ws
 have hb:isT (ws.getD (idxP (fun w=>isT w r1) ws).toNat []) r1=true:=by
  rcases hlt with hlt | hlt
  ·exact (hi hlt).elim
  ·exact hlt.2
 exact ((wantP_suf e1).trans (.tail (isT_kind hb))).trans (wantP_suf e2)
theorem letsP_suf:∀ (f:Nat) {ls ls':List LetE} {r r':List Tok},letsP f ls r=.ok (ls',r')→Suf r r'
 | 0,ls,ls',r,r',h=>by cases h;exact .refl _
 | f+1,ls,ls',r,r',h=>by
  unfold letsP at h
  split at h
  ·cases h;exact .refl _
  rename_i hb
  split at h
  ·cases h
  split at h
  ·cases h
  rename_i e1
  split at h
  ·cases h
  rename_i e2
  split at h
  ·cases h
  rename_i e3
  exact ((((Suf.tail (isT_kind zp43)).trans (freshP_suf e1)).trans (wantP_suf e2)).trans (wholeP_suf e3)).trans (letsP_suf f h)
theorem covsP_suf:∀ (f:Nat) {ls ls':List Cov} {r r':List Tok},covsP f ls r=.ok (ls',r')→Suf r r'
 | 0,ls,ls',r,r',h=>by cases h;exact .refl _
 | f+1,ls,ls',r,r',h=>by
  unfold covsP at h
  split at h
  ·cases h;exact .refl _
  rename_i hb
  split at h
  ·cases h
  split at h
  ·cases h
  rename_i e1
  split at h
  ·cases h
  rename_i e2
  split at h
  ·cases h
  rename_i e3
  split at h
  ·cases h
  rename_i e4
  split at h
  ·cases h
  rename_i e5
  exact ((((((Suf.tail (isT_kind zp43)).trans (freshP_suf e1)).trans (wantP_suf e2)).trans (wholeP_suf e3)).trans (numP_suf e4).1).trans (wantP_suf e5)).trans (covsP_suf f h)
theorem callsP_suf:∀ (f:Nat) {ls ls':List CallE} {r r':List Tok},callsP f ls r=.ok (ls',r')→Suf r r'
 | 0,ls,ls',r,r',h=>by cases h;exact .refl _
 | f+1,ls,ls',r,r',h=>by
  unfold callsP at h
  split at h
  ·cases h;exact .refl _
  rename_i hb
  split at h
  ·cases h
  split at h
  ·cases h
  rename_i e1
  split at h
  ·cases h
  rename_i e2
  split at h
  ·cases h
  rename_i e3
  split at h
  ·cases h
  rename_i e4
  exact (((((Suf.tail (isT_kind zp43)).trans (dateP_suf e1)).trans (wantP_suf e2)).trans (numP_suf e3).1).trans (wantP_suf e4)).trans (callsP_suf f h)
theorem favL_suf:∀ (f:Nat) {ls ls':List (List UInt8)} {r r':List Tok},favL f ls r=.ok (ls',r')→Suf r r'
 | 0,ls,ls',r,r',h=>by cases h;exact .refl _
 | f+1,ls,ls',r,r',h=>by
  unfold favL at h
  split at h
  ·split at h
   ·cases h
   split at h
   ·cases h
   split at h
   ·cases h
   rename_i e1
   exact (freshP_suf e1).trans (favL_suf f h)
  ·cases h;exact .refl _
theorem favP_suf {ls:List (List UInt8)} {r r':List Tok} (h:favP r=.ok (ls,r')):Suf r r':=by
 unfold favP at h
 split at h
 ·cases h;exact .refl _
 rename_i hb
 split at h
 ·cases h
 rename_i e1
 split at h
 ·cases h
 rename_i e2
 cases h
 exact ((Suf.tail (isT_kind zp43)).trans (favL_suf _ e1)).trans (wantP_suf e2)
def indP (r:List Tok):Except Er (Ind×List Tok):=do
 let r ← wantP [105,115,115,117,101] r
 let (name,r) ← nameP r
 let r ← wantP [111,102] r
 let (issuer,r) ← nameP r
 let r ← wantP [59] r
 let (face,r) ← partP [102,97,99,101] 1 1000000000000000 r
 let r ← wantP [102,114,111,109] r
 let (frm,r) ← dateP (-1) r
 let r ← wantP [116,111] r
 let (to,r) ← dateP frm r
 let r ← wantP [101,118,101,114,121] r
 let (every,r) ← numP 1 120 r
 let r ← wantsP [[109,111,110,116,104,115],[59]] r
 let (count,r) ← oneP [99,111,117,110,116] cntW r
 let (adjust,r) ← oneP [97,100,106,117,115,116] adjW r
 let (record,r) ← partP [114,101,99,111,114,100] 0 100 r
 let (rank,r) ← partP [114,97,110,107] 0 9 r
 let (lets,r) ← letsP r.length [] r
 let r ← wantP [99,111,117,112,111,110] r
 let (coupon,r) ← wholeP [59] r
 let (cap,r) ← partP [99,97,112] 0 10000 r
 let (cov,r) ← covsP r.length [] r
 let (favour,r) ← favP r
 let (cross,r) ← maybeP [99,114,111,115,115] 1000000000000000 (-1) r
 let (calls,r) ← callsP r.length [] r
 let (notice,r) ← maybeP [110,111,116,105,99,101] 1000 0 r
 let (sink,r) ← maybeP [115,105,110,107] 1000 0 r
 let (majority,r) ← partP [109,97,106,111,114,105,116,121] 1 1000 r
 let (fast,r) ← partP [102,97,115,116] 1 1000 r
 if (hdT r).kind=3 then .ok (⟨name,issuer,face,frm,to,every,count,adjust,record,rank,lets,coupon,cap,cov,favour,cross,calls,notice,sink,majority,fast⟩,r) else errP 12 r
theorem ind_x {T r:List Tok} (h:PSt T r):RX 119 [.ptr 0 0] [pobj T r] 1 (indP r) (fun v=>[encX v.1]) (fun v=>[pobj T v.2]) (fun v=>[.cells 56 (celX v.1)]):=by
 refine xO (cxXOk (fun ch=>∃ er,indP r=.error er∧ch=stopC er) 1 98 [0,2,3]) Tryz.func119 ?_
 conv=>whnf
 rcases e1:wantP [105,115,115,117,101] r with e | r1
 ·exact CallG.stop rfl (riox_stop (rx_er (want1_x h [105,115,115,117,101]) e1) [0,3] rfl rfl rfl ab0) (fun ch hc=>⟨e,by simp only [indP,ok_bind,er_bind,e1],hc⟩)
 refine cR (rx_ok (want1_x h [105,115,115,117,101]) e1) [0,3] (cW ?_)
 have q1:=PSt.to h (wantP_suf e1)
 rcases e2:nameP r1 with e | ⟨nm,r2⟩
 ·exact CallG.stop rfl (riox_stop (rx_er (name_x q1) e2) [0] rfl rfl rfl ab0) (fun ch hc=>⟨e,by simp only [indP,e1,ok_bind,er_bind,e2],hc⟩)
 refine cR (rx_ok (name_x q1) e2) [0] (cW ?_)
 have q2:=PSt.to q1 (nameP_suf e2)
 rcases e3:wantP [111,102] r2 with e | r3
 ·exact CallG.stop rfl (riox_stop (rx_er (want1_x q2 [111,102]) e3) [0,4] rfl rfl rfl ab0) (fun ch hc=>⟨e,by simp only [indP,e1,e2,ok_bind,er_bind,e3],hc⟩)
 refine cR (rx_ok (want1_x q2 [111,102]) e3) [0,4] (cW ?_)
 have q3:=PSt.to q2 (wantP_suf e3)
 rcases e4:nameP r3 with e | ⟨iss,r4⟩
 ·exact CallG.stop rfl (riox_stop (rx_er (name_x q3) e4) [0] rfl rfl rfl ab0) (fun ch hc=>⟨e,by simp only [indP,e1,e2,e3,ok_bind,er_bind,e4],hc⟩)
 refine cR (rx_ok (name_x q3) e4) [0] (cW ?_)
 have q4:=PSt.to q3 (nameP_suf e4)
 rcases e5:wantP [59] r4 with e | r5
 ·exact CallG.stop rfl (riox_stop (rx_er (want1_x q4 [59]) e5) [0,5] rfl rfl rfl ab0) (fun ch hc=>⟨e,by simp only [indP,e1,e2,e3,e4,ok_bind,er_bind,e5],hc⟩)
 refine cR (rx_ok (want1_x q4 [59]) e5) [0,5] (cW ?_)
 have q5:=PSt.to q4 (wantP_suf e5)
 rcases e6:partP [102,97,99,101] 1 1000000000000000 r5 with e | ⟨face,r6⟩
 ·exact CallG.stop rfl (riox_stop (rx_er (part_x q5 [102,97,99,101] 1 1000000000000000) e6) [0] rfl rfl rfl ab0) (fun ch hc=>⟨e,by simp only [indP,e1,e2,e3,e4,e5,ok_bind,er_bind,e6],hc⟩)
 refine cR (rx_ok (part_x q5 [102,97,99,101] 1 1000000000000000) e6) [0] (cW ?_)
 have q6:=PSt.to q5 (partP_suf e6)
 rcases e7:wantP [102,114,111,109] r6 with e | r7
 ·exact CallG.stop rfl (riox_stop (rx_er (want1_x q6 [102,114,111,109]) e7) [0,6] rfl rfl rfl ab0) (fun ch hc=>⟨e,by simp only [indP,e1,e2,e3,e4,e5,e6,ok_bind,er_bind,e7],hc⟩)
 refine cR (rx_ok (want1_x q6 [102,114,111,109]) e7) [0,6] (cW ?_)
 have q7:=PSt.to q6 (wantP_suf e7)
 rcases e8:dateP (-1) r7 with e | ⟨frm,r8⟩
 ·exact CallG.stop rfl (riox_stop (rx_er (date_x q7 (-1)) e8) [0] rfl rfl rfl ab0) (fun ch hc=>⟨e,by simp only [indP,e1,e2,e3,e4,e5,e6,e7,ok_bind,er_bind,e8],hc⟩)
 refine cR (rx_ok (date_x q7 (-1)) e8) [0] (cW ?_)
 have q8:=PSt.to q7 (dateP_suf e8)
 rcases e9:wantP [116,111] r8 with e | r9
 ·exact CallG.stop rfl (riox_stop (rx_er (want1_x q8 [116,111]) e9) [0,7] rfl rfl rfl ab0) (fun ch hc=>⟨e,by simp only [indP,e1,e2,e3,e4,e5,e6,e7,e8,ok_bind,er_bind,e9],hc⟩)
 refine cR (rx_ok (want1_x q8 [116,111]) e9) [0,7] (cW ?_)
 have q9:=PSt.to q8 (wantP_suf e9)
 rcases e10:dateP frm r9 with e | ⟨tto,r10⟩
 ·exact CallG.stop rfl (riox_stop (rx_er (date_x q9 frm) e10) [0] rfl rfl rfl ab0) (fun ch hc=>⟨e,by simp only [indP,e1,e2,e3,e4,e5,e6,e7,e8,e9,ok_bind,er_bind,e10],hc⟩)
 refine cR (rx_ok (date_x q9 frm) e10) [0] (cW ?_)
 have q10:=PSt.to q9 (dateP_suf e10)
 rcases e11:wantP [101,118,101,114,121] r10 with e | r11
 ·exact CallG.stop rfl (riox_stop (rx_er (want1_x q10 [101,118,101,114,121]) e11) [0,8] rfl rfl rfl ab0) (fun ch hc=>⟨e,by simp only [indP,e1,e2,e3,e4,e5,e6,e7,e8,e9,e10,ok_bind,er_bind,e11],hc⟩)
 refine cR (rx_ok (want1_x q10 [101,118,101,114,121]) e11) [0,8] (cW ?_)
 have q11:=PSt.to q10 (wantP_suf e11)
 rcases e12:numP 1 120 r11 with e | ⟨every,r12⟩
 ·exact CallG.stop rfl (riox_stop (rx_er (num_x q11 1 120) e12) [0] rfl rfl rfl ab0) (fun ch hc=>⟨e,by simp only [indP,e1,e2,e3,e4,e5,e6,e7,e8,e9,e10,e11,ok_bind,er_bind,e12],hc⟩)
 refine cR (rx_ok (num_x q11 1 120) e12) [0] (cW ?_)
 have q12:=PSt.to q11 ((numP_suf e12).1)
 rcases e13:wantsP [[109,111,110,116,104,115],[59]] r12 with e | r13
 ·exact CallG.stop rfl (riox_stop (rx_er (want_x q12 [[109,111,110,116,104,115],[59]] (by simp)) e13) [0,9] rfl rfl rfl ab0) (fun ch hc=>⟨e,by simp only [indP,e1,e2,e3,e4,e5,e6,e7,e8,e9,e10,e11,e12,ok_bind,er_bind,e13],hc⟩)
 refine cR (rx_ok (want_x q12 [[109,111,110,116,104,115],[59]] (by simp)) e13) [0,9] (cW ?_)
 have q13:=PSt.to q12 (wantsP_suf e13)
 refine cO (fun _=>cnt_ok) (cW ?_)
 rcases e14:oneP [99,111,117,110,116] cntW r13 with e | ⟨count,r14⟩
 ·exact CallG.stop rfl (riox_stop (rx_er (one_x q13 [99,111,117,110,116] cntW (by decide)) e14) [0] rfl rfl rfl ab0) (fun ch hc=>⟨e,by simp only [indP,e1,e2,e3,e4,e5,e6,e7,e8,e9,e10,e11,e12,e13,ok_bind,er_bind,e14],hc⟩)
 refine cR (rx_ok (one_x q13 [99,111,117,110,116] cntW dd0) e14) [0] (cW ?_)
 have q14:=PSt.to q13 (oneP_suf e14)
 refine cO (fun _=>adj_ok) (cW ?_)
 rcases e15:oneP [97,100,106,117,115,116] adjW r14 with e | ⟨adjust,r15⟩
 ·exact CallG.stop rfl (riox_stop (rx_er (one_x q14 [97,100,106,117,115,116] adjW (by decide)) e15) [0] rfl rfl rfl ab0) (fun ch hc=>⟨e,by simp only [indP,e1,e2,e3,e4,e5,e6,e7,e8,e9,e10,e11,e12,e13,e14,ok_bind,er_bind,e15],hc⟩)
 refine cR (rx_ok (one_x q14 [97,100,106,117,115,116] adjW dd0) e15) [0] (cW ?_)
 have q15:=PSt.to q14 (oneP_suf e15)
 rcases e16:partP [114,101,99,111,114,100] 0 100 r15 with e | ⟨record,r16⟩
 ·exact CallG.stop rfl (riox_stop (rx_er (part_x q15 [114,101,99,111,114,100] 0 100) e16) [0] rfl rfl rfl ab0) (fun ch hc=>⟨e,by simp only [indP,e1,e2,e3,e4,e5,e6,e7,e8,e9,e10,e11,e12,e13,e14,e15,ok_bind,er_bind,e16],hc⟩)
 refine cR (rx_ok (part_x q15 [114,101,99,111,114,100] 0 100) e16) [0] (cW ?_)
 have q16:=PSt.to q15 (partP_suf e16)
 rcases e17:partP [114,97,110,107] 0 9 r16 with e | ⟨rank,r17⟩
 ·exact CallG.stop rfl (riox_stop (rx_er (part_x q16 [114,97,110,107] 0 9) e17) [0] rfl rfl rfl ab0) (fun ch hc=>⟨e,by simp only [indP,e1,e2,e3,e4,e5,e6,e7,e8,e9,e10,e11,e12,e13,e14,e15,e16,ok_bind,er_bind,e17],hc⟩)
 refine cR (rx_ok (part_x q16 [114,97,110,107] 0 9) e17) [0] (cW ?_)
 have q17:=PSt.to q16 (partP_suf e17)
 rcases e18:letsP r17.length [] r17 with e | ⟨lets,r18⟩
 ·exact CallG.stop rfl (riox_stop (rx_er (lets_x q17 ⟨nm,iss,face,frm,tto,every,count,adjust,record,rank,[],ex0,0,[],[],0,[],0,0,0,0⟩) e18) [0,2] rfl rfl rfl ab0) (fun ch hc=>⟨e,by simp only [indP,e1,e2,e3,e4,e5,e6,e7,e8,e9,e10,e11,e12,e13,e14,e15,e16,e17,ok_bind,er_bind,e18],hc⟩)
 refine cR (rx_ok (lets_x q17 ⟨nm,iss,face,frm,tto,every,count,adjust,record,rank,[],ex0,0,[],[],0,[],0,0,0,0⟩) e18) [0,2] (cW ?_)
 have q18:=PSt.to q17 (letsP_suf _ e18)
 rcases e19:wantP [99,111,117,112,111,110] r18 with e | r19
 ·exact CallG.stop rfl (riox_stop (rx_er (want1_x q18 [99,111,117,112,111,110]) e19) [0,10] rfl rfl rfl ab0) (fun ch hc=>⟨e,by simp only [indP,e1,e2,e3,e4,e5,e6,e7,e8,e9,e10,e11,e12,e13,e14,e15,e16,e17,e18,ok_bind,er_bind,e19],hc⟩)
 refine cR (rx_ok (want1_x q18 [99,111,117,112,111,110]) e19) [0,10] (cW ?_)
 have q19:=PSt.to q18 (wantP_suf e19)
 rcases e20:wholeP [59] r19 with e | ⟨coupon,r20⟩
 ·exact CallG.stop rfl (riox_stop (rx_er (whole_x q19 [59]) e20) [0] rfl rfl rfl ab0) (fun ch hc=>⟨e,by simp only [indP,e1,e2,e3,e4,e5,e6,e7,e8,e9,e10,e11,e12,e13,e14,e15,e16,e17,e18,e19,ok_bind,er_bind,e20],hc⟩)
 refine cR (rx_ok (whole_x q19 [59]) e20) [0] (cW ?_)
 have q20:=PSt.to q19 (wholeP_suf e20)
 rcases e21:partP [99,97,112] 0 10000 r20 with e | ⟨cap,r21⟩
 ·exact CallG.stop rfl (riox_stop (rx_er (part_x q20 [99,97,112] 0 10000) e21) [0] rfl rfl rfl ab0) (fun ch hc=>⟨e,by simp only [indP,e1,e2,e3,e4,e5,e6,e7,e8,e9,e10,e11,e12,e13,e14,e15,e16,e17,e18,e19,e20,ok_bind,er_bind,e21],hc⟩)
 refine cR (rx_ok (part_x q20 [99,97,112] 0 10000) e21) [0] (cW ?_)
 have q21:=PSt.to q20 (partP_suf e21)
 rcases e22:covsP r21.length [] r21 with e | ⟨cov,r22⟩
 ·exact CallG.stop rfl (riox_stop (rx_er (covs_x q21 ⟨nm,iss,face,frm,tto,every,count,adjust,record,rank,lets,coupon,cap,[],[],0,[],0,0,0,0⟩) e22) [0,2] rfl rfl rfl ab0) (fun ch hc=>⟨e,by simp only [indP,e1,e2,e3,e4,e5,e6,e7,e8,e9,e10,e11,e12,e13,e14,e15,e16,e17,e18,e19,e20,e21,ok_bind,er_bind,e22],hc⟩)
 refine cR (rx_ok (covs_x q21 ⟨nm,iss,face,frm,tto,every,count,adjust,record,rank,lets,coupon,cap,[],[],0,[],0,0,0,0⟩) e22) [0,2] (cW ?_)
 have q22:=PSt.to q21 (covsP_suf _ e22)
 rcases e23:favP r22 with e | ⟨favour,r23⟩
 ·exact CallG.stop rfl (riox_stop (rx_er (fav_x q22 ⟨nm,iss,face,frm,tto,every,count,adjust,record,rank,lets,coupon,cap,cov,[],0,[],0,0,0,0⟩) e23) [0,2] rfl rfl rfl ab0) (fun ch hc=>⟨e,by simp only [indP,e1,e2,e3,e4,e5,e6,e7,e8,e9,e10,e11,e12,e13,e14,e15,e16,e17,e18,e19,e20,e21,e22,ok_bind,er_bind,e23],hc⟩)
 refine cR (rx_ok (fav_x q22 ⟨nm,iss,face,frm,tto,every,count,adjust,record,rank,lets,coupon,cap,cov,[],0,[],0,0,0,0⟩) e23) [0,2] (cW ?_)
 have q23:=PSt.to q22 (favP_suf e23)
 rcases e24:maybeP [99,114,111,115,115] 1000000000000000 (-1) r23 with e | ⟨cross,r24⟩
 ·exact CallG.stop rfl (riox_stop (rx_er (maybe_x q23 [99,114,111,115,115] 1000000000000000 (-1)) e24) [0] rfl rfl rfl ab0) (fun ch hc=>⟨e,by simp only [indP,e1,e2,e3,e4,e5,e6,e7,e8,e9,e10,e11,e12,e13,e14,e15,e16,e17,e18,e19,e20,e21,e22,e23,ok_bind,er_bind,e24],hc⟩)
 refine cR (rx_ok (maybe_x q23 [99,114,111,115,115] 1000000000000000 (-1)) e24) [0] (cW ?_)
 have q24:=PSt.to q23 (maybeP_suf e24)
 rcases e25:callsP r24.length [] r24 with e | ⟨calls,r25⟩
 ·exact CallG.stop rfl (riox_stop (rx_er (calls_x q24 ⟨nm,iss,face,frm,tto,every,count,adjust,record,rank,lets,coupon,cap,cov,favour,cross,[],0,0,0,0⟩) e25) [0,2] rfl rfl rfl ab0) (fun ch hc=>⟨e,by simp only [indP,e1,e2,e3,e4,e5,e6,e7,e8,e9,e10,e11,e12,e13,e14,e15,e16,e17,e18,e19,e20,e21,e22,e23,e24,ok_bind,er_bind,e25],hc⟩)
 refine cR (rx_ok (calls_x q24 ⟨nm,iss,face,frm,tto,every,count,adjust,record,rank,lets,coupon,cap,cov,favour,cross,[],0,0,0,0⟩) e25) [0,2] (cW ?_)
 have q25:=PSt.to q24 (callsP_suf _ e25)
 rcases e26:maybeP [110,111,116,105,99,101] 1000 0 r25 with e | ⟨notice,r26⟩
 ·exact CallG.stop rfl (riox_stop (rx_er (maybe_x q25 [110,111,116,105,99,101] 1000 0) e26) [0] rfl rfl rfl ab0) (fun ch hc=>⟨e,by simp only [indP,e1,e2,e3,e4,e5,e6,e7,e8,e9,e10,e11,e12,e13,e14,e15,e16,e17,e18,e19,e20,e21,e22,e23,e24,e25,ok_bind,er_bind,e26],hc⟩)
 refine cR (rx_ok (maybe_x q25 [110,111,116,105,99,101] 1000 0) e26) [0] (cW ?_)
 have q26:=PSt.to q25 (maybeP_suf e26)
 rcases e27:maybeP [115,105,110,107] 1000 0 r26 with e | ⟨sink,r27⟩
 ·exact CallG.stop rfl (riox_stop (rx_er (maybe_x q26 [115,105,110,107] 1000 0) e27) [0] rfl rfl rfl ab0) (fun ch hc=>⟨e,by simp only [indP,e1,e2,e3,e4,e5,e6,e7,e8,e9,e10,e11,e12,e13,e14,e15,e16,e17,e18,e19,e20,e21,e22,e23,e24,e25,e26,ok_bind,er_bind,e27],hc⟩)
 refine cR (rx_ok (maybe_x q26 [115,105,110,107] 1000 0) e27) [0] (cW ?_)
 have q27:=PSt.to q26 (maybeP_suf e27)
 rcases e28:partP [109,97,106,111,114,105,116,121] 1 1000 r27 with e | ⟨majority,r28⟩
 ·exact CallG.stop rfl (riox_stop (rx_er (part_x q27 [109,97,106,111,114,105,116,121] 1 1000) e28) [0] rfl rfl rfl ab0) (fun ch hc=>⟨e,by simp only [indP,e1,e2,e3,e4,e5,e6,e7,e8,e9,e10,e11,e12,e13,e14,e15,e16,e17,e18,e19,e20,e21,e22,e23,e24,e25,e26,e27,ok_bind,er_bind,e28],hc⟩)
 refine cR (rx_ok (part_x q27 [109,97,106,111,114,105,116,121] 1 1000) e28) [0] (cW ?_)
 have q28:=PSt.to q27 (partP_suf e28)
 rcases e29:partP [102,97,115,116] 1 1000 r28 with e | ⟨fast,r29⟩
 ·exact CallG.stop rfl (riox_stop (rx_er (part_x q28 [102,97,115,116] 1 1000) e29) [0] rfl rfl rfl ab0) (fun ch hc=>⟨e,by simp only [indP,e1,e2,e3,e4,e5,e6,e7,e8,e9,e10,e11,e12,e13,e14,e15,e16,e17,e18,e19,e20,e21,e22,e23,e24,e25,e26,e27,e28,ok_bind,er_bind,e29],hc⟩)
 refine cR (rx_ok (part_x q28 [102,97,115,116] 1 1000) e29) [0] (cW ?_)
 have q29:=PSt.to q28 (partP_suf e29)
 have hn:=next_ok q29
 refine cO (fun _=>hn) (cW ?_)
 cases hk:decide ((hdT r29).kind=3) with
 | false =>
  have hs:indP r=.error ((hdT r29).pos,12):=by simp only [indP,e1,e2,e3,e4,e5,e6,e7,e8,e9,e10,e11,e12,e13,e14,e15,e16,e17,e18,e19,e20,e21,e22,e23,e24,e25,e26,e27,e28,e29,ok_bind,er_bind,of_decide_eq_false hk,if_false,errP]
  exact CallG.stop rfl (riox_stop (chk_f q29 12) [0] rfl rfl rfl ab0) ((fun ch hc=>⟨_,hs,hc⟩))
 | true =>
  have hs:indP r=.ok (⟨nm,iss,face,frm,tto,every,count,adjust,record,rank,lets,coupon,cap,cov,favour,cross,calls,notice,sink,majority,fast⟩,r29):=by simp only [indP,e1,e2,e3,e4,e5,e6,e7,e8,e9,e10,e11,e12,e13,e14,e15,e16,e17,e18,e19,e20,e21,e22,e23,e24,e25,e26,e27,e28,e29,ok_bind,er_bind,of_decide_eq_true hk,if_true]
  refine cR ((chk_t q29 12)) [0] (cW ?_)
  refine ⟨⟨[(2,.ptr 1 0)],[(0,.cells 183 (pcell T r29)),(1,.cells 56 (celX ((⟨nm,iss,face,frm,tto,every,count,adjust,record,rank,lets,coupon,cap,cov,favour,cross,calls,notice,sink,majority,fast⟩:Ind))))],2⟩,(wk_of [(0,.id 0),(1,.id 1)] rfl ⟨wc0,trivial⟩ ⟨wb0,wb0,trivial⟩),rfl,rfl,(cW ?_)⟩
  exact ⟨rfl,(⟨nm,iss,face,frm,tto,every,count,adjust,record,rank,lets,coupon,cap,cov,favour,cross,calls,notice,sink,majority,fast⟩,r29),hs,rfl,rfl,rfl⟩
def hasP (s p:List UInt8):Bool:=decide (p.length≤s.length)&&decide (s.take p.length=p)
theorem prefix0_ok (s p:List UInt8) (hs:s.length≤9223372036854775807):APureV Tryz.prog 250 [.str s,.str p] (.bool (hasP s p)):=by
 unfold hasP
 cases hb:decide (p.length≤s.length) with
 | true =>
  have hle:=of_decide_eq_true hb
  have h1:decide (((p.length:Nat):Int)≤((s.length:Nat):Int))=true:=decide_eq_true (by omega)
  refine aO (cxOk 18 [0,1,4]) Tryz.func250 ?_
  conv=>whnf
  rw [h1]
  refine And.intro (fun _=>⟨by omega,by omega⟩) (cW ?_)
  have hc:cut none (some (.int .i64 p.length)) s 0 p.length=s.take p.length:=by
   unfold cut
   simp
  show [AR.val (AV.bool (true&&decide (cut none (some (.int .i64 p.length)) s 0 p.length=p)))]=_
  rw [hc]
 | false =>
  have hle:=of_decide_eq_false hb
  have h1:decide (((p.length:Nat):Int)≤((s.length:Nat):Int))=false:=decide_eq_false (by omega)
  refine aO (cxOk 18 [0,1,4]) Tryz.func250 ?_
  conv=>whnf
  rw [h1]
  refine And.intro (fun h=>(by cases h)) (cW ?_)
  rfl
theorem zt45 {p:Prop}(h:p:=by
 conv=>whnf
 refine cO (fun _=>h) (cW ?_)
 rfl):p:=h
theorem prefix_ok (s p:List UInt8) (hs:s.length≤9223372036854775807):APureV Tryz.prog 236 [.str s,.str p] (.bool (hasP s p)):=by
 have h:=prefix0_ok s p hs
 refine aO (cxOk 8 [0,1,4]) Tryz.func236 ?_
 exact zt45
def numV (s:List UInt8):Int:=s.foldl (fun n c=>10*n+((c.toNat:Int)-48)) 0
def numG (s:List UInt8):Bool:=decide (s≠[])&&decide (spanN digB s=s.length)&&!(decide ((s.getD 0 0).toNat=48)&&decide (s≠[48]))&&decide (s.length≤16)
def numR (s:List UInt8):Option Int:=if numG s=true∧numV s≤1000000000000000 then some (numV s) else none
def numA:Option Int→List AR
 | some n=>[.val (.int .i64 n),.val (.bool true)]
 | none=>[.val (.int .i64 0),.val (.bool false)]
theorem numV_snoc (l:List UInt8) (c:UInt8):numV (l++[c])=10*numV l+((c.toNat:Int)-48):=by simp [numV]
theorem numV_go:∀ (l:List UInt8) (a:Int),0≤a→(∀ c∈l,digB (c.toNat:Int)=true)→0≤l.foldl (fun n c=>10*n+((c.toNat:Int)-48)) a∧l.foldl (fun n c=>10*n+((c.toNat:Int)-48)) a<(a+1)*10 ^ l.length
 | [],a,ha,_=>by simp;omega
 | c::l,a,ha,h=>by
  have h2:=h c (by simp)
  unfold digB at h2
  simp only [Bool.and_eq_true,decide_eq_true_eq] at h2
  have h1:=numV_go l (10*a+((c.toNat:Int)-48)) (by omega) fun x hx=>h x (by simp [hx])
  rw [List.foldl_cons,List.length_cons,Int.pow_succ]
  refine ⟨h1.1,Int.lt_of_lt_of_le h1.2 ?_⟩
  have h3:(10*a+((c.toNat:Int)-48)+1)≤(a+1)*10:=by omega
  have h4:(0:Int)≤10 ^ l.length:=Int.pow_nonneg (by omega)
  have h5:=Int.mul_le_mul_of_nonneg_right h3 h4
  rw [Int.mul_assoc,Int.mul_comm 10 (10 ^ l.length)] at h5
  exact h5
theorem numV_bnd (l:List UInt8) (h:∀ c∈l,digB (c.toNat:Int)=true):0≤numV l∧numV l<10 ^ l.length:=by
 have:=numV_go l 0 (by omega) h
 simpa [numV] using this
theorem numb_ok (s:List UInt8) (hs:s.length≤9223372036854775807):APure Tryz.prog 235 [.str s] (fun rs=>rs=numA (numR s)):=by
 have hsp:=span_ok s 232 _ digit_ok hs
 have hpos:s≠[]→0<s.length:=fun h=>List.length_pos_iff.2 h
 have e4:decide (s=(⟨#[]⟩:ByteArray).data.toList)=decide (s=[]):=rfl
 have e5:decide (s=(⟨#[48]⟩:ByteArray).data.toList)=decide (s=[48]):=rfl
 have e3:decide ((spanN digB s:Int)=(s.length:Int))=decide (spanN digB s=s.length):=by
  by_cases h:spanN digB s=s.length
  ·simp [h]
  ·simp [h];omega
 have e6:decide (16<(s.length:Int))=!decide (s.length≤16):=by
  by_cases h:s.length≤16
  ·simp [h];omega
  ·simp [h];omega
 have e7:decide (((s.getD 0 0).toNat:Int)=48)=decide ((s.getD 0 0).toNat=48):=by
  generalize (s.getD 0 0).toNat=z
  by_cases h:z=48
  ·simp [h]
  ·simp [h];omega
 have hN:numG s=(!decide (s=[])&&decide (spanN digB s=s.length)&&!(decide ((s.getD 0 0).toNat=48)&&!decide (s=[48]))&&decide (s.length≤16)):=by
  unfold numG
  simp
 refine aO (cxOk 46 [0,2,3,4,5,28,30,31,32,44]) Tryz.func235 ?_
 conv=>whnf
 refine cO (fun _=>hsp) (cW ?_)
 refine And.intro (fun h=>⟨by omega,by
  have h2:s≠[]:=fun e=>(by subst e;cases h)
  have:=hpos h2
  omega⟩) ?_
 conv=>whnf
 rw [e4,e3,e5,e6,show (Int.toNat 0)=0 from rfl,e7]
 have hcond:(decide (s=[])||!decide (spanN digB s=s.length)||decide ((s.getD 0 0).toNat=48)&&!decide (s=[48])||!decide (s.length≤16))=!numG s:=by
  rw [hN]
  generalize decide (s=[])=a
  generalize decide (spanN digB s=s.length)=b
  generalize decide ((s.getD 0 0).toNat=48)=c
  generalize decide (s=[48])=d
  generalize decide (s.length≤16)=f
  revert a b c d f
  decide
 rw [hcond]
 cases hg:numG s with
 | false =>
  have hr:numR s=none:=by unfold numR;rw [if_neg (by simp [hg])]
  rw [hr]
  refine gT (cW ?_)
  rfl
 | true =>
  rw [hg] at hN
  have hN':=hN.symm
  simp only [Bool.and_eq_true,decide_eq_true_eq] at hN'
  have hspan:=hN'.1.1.2
  have h16:=hN'.2
  have hall:∀ k,k<s.length→digB ((s.getD k 0).toNat:Int)=true:=fun k hk=>spanN_lt (by rw [hspan];exact hk)
  have htk:∀ k,k≤s.length→0≤numV (s.take k)∧numV (s.take k)<10 ^ 16:=by
   intro k hk
   have h1:=numV_bnd (s.take k) (fun c hc=>by
    obtain ⟨i,hi,he⟩:=List.mem_iff_getElem.1 hc
    have hik:i<s.length:=by rw [List.length_take] at hi;omega
    have:=hall i hik
    rw [List.getD_eq_getElem?_getD,List.getElem?_eq_getElem hik] at this
    rw [← he,List.getElem_take]
    exact this)
   refine ⟨h1.1,Int.lt_of_lt_of_le h1.2 ?_⟩
   have h2:(10:Nat) ^ (s.take k).length≤10 ^ 16:=Nat.pow_le_pow_right (by omega) (by rw [List.length_take];omega)
   exact_mod_cast h2
  refine gF (cW ?_)
  refine loop_up (cxOk _ _) s.length (fun _=>True) (fun k=>⟨[(0,.str s),(2,.int .i64 0),(3,.bool false),(4,.int .i64 (numV (s.take k))),(30,.int .i64 (s.length:Nat)),(31,.int .i64 (k:Nat))],[],0⟩) trivial ((wk_of [] rfl ⟨wa0,wa0,wa0,wa0,wa0,wa0,trivial⟩ trivial)) ?_
  intro k hk _
  have hv:=htk k hk
  conv=>whnf
  refine ⟨fun hd=>?_,fun hd=>?_⟩
  ·have hd:=of_decide_eq_true hd
   have hlt:k<s.length:=by omega
   have hek:(k:Int).toNat=k:=Int.toNat_natCast k
   have hdig:=hall k hlt
   unfold digB at hdig
   simp only [Bool.and_eq_true,decide_eq_true_eq] at hdig
   have hv2:=htk (k+1) hlt
   conv=>whnf
   refine iO (cW ?_)
   refine iO (cW ?_)
   rw [hek]
   have hw:IntKind.u8.wrap (((s.getD k 0).toNat:Int)-48)=((s.getD k 0).toNat:Int)-48:=IntWalk.u8_in _ (by omega)
   rw [hw]
   refine iO (cW ?_)
   refine iO (cW ?_)
   refine iO (cW ?_)
   refine ⟨k+1,⟨hlt,trivial⟩,(by show s.length-(k+1)<s.length-k;omega),(wk_of [] rfl ⟨wa0,wa0,wa0,.base (.tree _ _ (congrArg (AV.int .i64) (by rw [take_getD (d:=0) hlt,numV_snoc])) rfl),wa0,wa0,trivial⟩ trivial)⟩
  ·have hd:=of_decide_eq_false hd
   have hke:k=s.length:=by omega
   rw [hke,List.take_length]
   rw [hke,List.take_length] at hv
   conv=>whnf
   refine ⟨fun hm=>?_,fun hm=>?_⟩
   ·have hm:=of_decide_eq_true hm
    have hr:numR s=none:=by unfold numR;rw [if_neg (by omega)]
    rw [hr]
    conv=>whnf
    rfl
   ·have hm:=of_decide_eq_false hm
    have hr:numR s=some (numV s):=by unfold numR;rw [if_pos ⟨hg,by omega⟩]
    rw [hr]
    conv=>whnf
    rfl
def wordT (s:List UInt8):List UInt8:=s.take (spanN (fun c=>letB c||digB c) s)
def digT (s:List UInt8):List UInt8:=s.take (spanN digB s)
def nextR (s:List UInt8):Except Int Tok :=
 if letB ((s.getD 0 0).toNat:Int)=true then
  if wordB (wordT s)=true then .ok ⟨0,wordT s,0,0⟩ else .error 11
 else if digB ((s.getD 0 0).toNat:Int)=true then
  match numR (digT s) with
  | some n=>.ok ⟨1,digT s,n,0⟩
  | none=>.error 3
 else match signs.find? (hasP s) with
  | some p=>.ok ⟨2,p,0,0⟩
  | none=>.error 10
def nextA:Except Int Tok→List AR
 | .ok t=>[.val (encTk t),.val (.int .i64 0)]
 | .error e=>[.val (encTk t0),.val (.int .i64 e)]
theorem find_at {α:Type _} {p:α→Bool} {d:α}:∀ {l:List α} {k:Nat},k<l.length→(∀ j,j<k→p (l.getD j d)=false)→p (l.getD k d)=true→l.find? p=some (l.getD k d)
 | [],k,h,_,_=>by simp at h
 | x::l,0,_,_,hp=>by
  have hp:p x=true:=hp
  rw [List.find?_cons_of_pos hp]
  rfl
 | x::l,k+1,h,hj,hp=>by
  have h0:p x=false:=hj 0 (by omega)
  rw [List.find?_cons_of_neg (by rw [h0];simp)]
  exact find_at (l:=l) (k:=k) zp19 (fun j hjk=>hj (j+1) (by omega)) hp
theorem find_no {α:Type _} {p:α→Bool} {d:α}:∀ {l:List α},(∀ j,j<l.length→p (l.getD j d)=false)→l.find? p=none
 | [],_=>rfl
 | x::l,h=>by
  have h0:p x=false:=h 0 (by simp)
  rw [List.find?_cons_of_neg (by rw [h0];simp)]
  exact find_no (l:=l) fun j hj=>h (j+1) zp16
theorem signs_rel (cs:Array Value) (h:cs=(signs.map fun s=>Value.string ⟨s.toArray⟩).toArray):cs.size=(signs.map fun s=>AV.str s).length∧∀ (S:Blocks) (w:World) (j:Nat) (c:Value) (a:AV),cs[j]?=some c→(signs.map fun s=>AV.str s)[j]?=some a→RelT S w c a:=by
 subst h
 refine ⟨by simp,fun S w j c a h1 h2=>?_⟩
 simp only [List.getElem?_toArray,List.getElem?_map,Option.map_eq_some_iff] at h1 h2
 obtain ⟨x,hx,rfl⟩:=h1
 obtain ⟨y,hy,rfl⟩:=h2
 rw [hx] at hy
 cases hy
 exact .str _ _ rfl
theorem next95 (s:List UInt8) (hne:s≠[]) (hs:s.length≤4000):APure Tryz.prog 195 [.str s] (fun rs=>rs=nextA (nextR s)):=by
 have hpos:0<s.length:=List.length_pos_iff.2 hne
 have hsp1:=span_ok s 234 _ wordd_ok (by omega)
 have hsp2:=span_ok s 232 _ digit_ok (by omega)
 have hle1:=spanN_le (fun c=>letB c||digB c) s
 have hle2:=spanN_le digB s
 have hw:=word_ok (wordT s) (by unfold wordT;rw [List.length_take];omega)
 have hn:=numb_ok (digT s) (by unfold digT;rw [List.length_take];omega)
 refine aO (cxOk 54 [0,2,3,4,5,6,7,9,10,20,24,38,43,44,45,49]) Tryz.func195 ?_
 conv=>whnf
 refine iO (cW ?_)
 refine cO (fun _=>letter_ok ((s.getD 0 0).toNat:Int)) (cW ?_)
 refine ⟨fun hl=>?_,fun hl=>?_⟩
 ·conv=>whnf
  refine cO (fun _=>hsp1) (cW ?_)
  refine iO (cW ?_)
  refine cO (fun _=>hw) (cW ?_)
  have hr:nextR s=if wordB (wordT s)=true then .ok ⟨0,wordT s,0,0⟩ else .error 11:=by unfold nextR;rw [if_pos hl]
  rw [hr]
  refine ⟨fun hb=>?_,fun hb=>?_⟩
  ·have hb':wordB (wordT s)=false:=by simpa using hb
   rw [hb',if_neg (by simp)]
   conv=>whnf
   rfl
  ·have hb':wordB (wordT s)=true:=by simpa using hb
   rw [hb',if_pos rfl]
   conv=>whnf
   rfl
 conv=>whnf
 refine iO (cW ?_)
 refine cO (fun _=>digit_ok ((s.getD 0 0).toNat:Int)) (cW ?_)
 refine ⟨fun hd=>?_,fun hd=>?_⟩
 ·conv=>whnf
  refine cO (fun _=>hsp2) (cW ?_)
  refine iO (cW ?_)
  have hr:nextR s=match numR (digT s) with
   | some n=>.ok ⟨1,digT s,n,0⟩
   | none=>.error 3:=by unfold nextR;rw [if_neg (by rw [hl];simp),if_pos hd]
  cases hN:numR (digT s) with
  | none =>
   rw [hN] at hn hr
   unfold numA at hn
   rw [hr]
   refine cO (fun _=>hn) (cW ?_)
   refine gT (cW ?_)
   rfl
  | some n =>
   rw [hN] at hn hr
   unfold numA at hn
   rw [hr]
   refine cO (fun _=>hn) (cW ?_)
   refine gF (cW ?_)
   rfl
 have hr:nextR s=match signs.find? (hasP s) with
  | some p=>.ok ⟨2,p,0,0⟩
  | none=>.error 10:=by unfold nextR;rw [if_neg (by rw [hl];simp),if_neg (by rw [hd];simp)]
 rw [hr]
 conv=>whnf
 refine .arr _ (signs.map fun s=>AV.str s) _ rfl rfl rfl rfl signs_rel (cW ?_)
 refine loop_up (cxOk _ _) 11 (fun k=>∀ j,j<k→hasP s (signs.getD j [])=false) (fun k=>⟨[(0,.str s),(2,.ptr 0 0),(3,.int .i64 0),(43,.agg (signs.map fun s=>AV.str s)),(44,.int .i64 (k:Nat))],[(0,.cells 198 [.int .i64 0,.str [],.int .i64 0,.int .i64 0])],1⟩) zp15 ((wk_of [(0,.id 0)] rfl ⟨wa0,wc0,wa0,wa0,wa0,trivial⟩ ⟨wb0,trivial⟩)) ?_
 intro k hk hP
 have hlen:signs.length=11:=rfl
 conv=>whnf
 refine ⟨fun hd2=>?_,fun hd2=>?_⟩
 ·have hd2:=of_decide_eq_true hd2
  have hlt:k<signs.length:=by omega
  have hek:(k:Int).toNat=k:=Int.toNat_natCast k
  have hp:=prefix_ok s (signs.getD k []) (by omega)
  conv=>whnf
  refine iO (cW ?_)
  have hgk:(signs.map fun s=>AV.str s).getD (k:Int).toNat .undef=.str (signs.getD k []):=by rw [hek];exact wsL_get signs hlt
  rw [hgk]
  conv=>whnf
  refine cO (fun _=>hp) (cW ?_)
  refine ⟨fun hq=>?_,fun hq=>?_⟩
  ·rw [find_at (d:=[]) hlt hP hq]
   conv=>whnf
   rfl
  ·conv=>whnf
   refine iO (cW ?_)
   refine ⟨k+1,⟨hlt,fun j hj=>(by
    by_cases e:j=k
    ·rw [e];exact hq
    ·exact hP j (by omega))⟩,(by show 11-(k+1)<11-k;omega),(wk_of [(0,.id 0)] rfl ⟨wa0,wc0,wa0,wa0,wa0,trivial⟩ ⟨wb0,trivial⟩)⟩
 ·have hd2:=of_decide_eq_false hd2
  obtain rfl:k=11:=by omega
  rw [find_no (d:=[]) (fun j hj=>hP j (by omega))]
  conv=>whnf
  rfl
def skipN (s:List UInt8) (p:Nat):Nat:=p+spanN blkB (s.drop p)
def lexL (s:List UInt8):Nat→Nat→List Tok→Except Er (List Tok)
 | 0,_,l=>.ok l
 | f+1,p,l =>
  if skipN s p=s.length then .ok (l++[⟨3,[],0,(s.length:Nat)⟩])
  else match nextR (s.drop (skipN s p)) with
   | .error e=>.error ((skipN s p:Nat),e)
   | .ok t=>lexL s f (skipN s p+t.text.length) (l++[⟨t.kind,t.text,t.n,(skipN s p:Nat)⟩])
def lexR (s:List UInt8):Except Er (List Tok):=if 4000<s.length then .error (0,6) else lexL s (s.length+1) 0 []
def lexA:Except Er (List Tok)→List AR
 | .ok l=>[.val (encTks l),.val (.int .i64 0),.val (.int .i64 0)]
 | .error e=>[.val .nils,.val (.int .i64 e.1),.val (.int .i64 e.2)]
theorem signs_pos:∀ p∈signs,1≤p.length:=by decide
theorem spanN_pos {p:Int→Bool} {s:List UInt8} (hs:s≠[]) (h:p ((s.getD 0 0).toNat:Int)=true):1≤spanN p s:=by
 cases s with
 | nil=>exact (hs rfl).elim
 | cons c s =>
  have h:p (c.toNat:Int)=true:=h
  unfold spanN
  rw [List.takeWhile_cons,if_pos h]
  simp
theorem nextR_ok {s:List UInt8} (hs:s≠[]) {t:Tok} (h:nextR s=.ok t):1≤t.text.length∧t.text <+: s:=by
 unfold nextR at h
 split at h
 ·rename_i hl
  split at h
  ·cases h
   have:=spanN_pos (p:=fun c=>letB c||digB c) hs (by simp only [hl,Bool.true_or])
   have hle:=spanN_le (fun c=>letB c||digB c) s
   exact ⟨by show 1≤(wordT s).length;unfold wordT;rw [List.length_take];omega,List.take_prefix _ _⟩
  ·cases h
 split at h
 ·rename_i hd
  split at h
  ·cases h
   have:=spanN_pos hs hd
   have hle:=spanN_le digB s
   exact ⟨by show 1≤(digT s).length;unfold digT;rw [List.length_take];omega,List.take_prefix _ _⟩
  ·cases h
 split at h
 ·rename_i p hp
  cases h
  refine ⟨signs_pos _ (List.mem_of_find?_eq_some hp),?_⟩
  have:=List.find?_some hp
  unfold hasP at this
  simp only [Bool.and_eq_true,decide_eq_true_eq] at this
  show p <+: s
  rw [← this.2]
  exact List.take_prefix _ _
 ·cases h
theorem nextR_er {s:List UInt8} {e:Int} (h:nextR s=.error e):e=11∨e=3∨e=10:=by
 unfold nextR at h
 split at h
 ·split at h
  ·cases h
  ·cases h;omega
 split at h
 ·split at h
  ·cases h
  ·cases h;omega
 split at h
 ·cases h
 ·cases h;omega
theorem zt76 {p:Prop}(h:p:=by
 have:=congrArg List.length h
 rw [List.length_drop] at this
 simp only [List.length_nil] at this
 omega):p:=h
theorem zt146 {p:Prop}(h:p:=by
 refine ⟨_,Wk.refl _,(cW ?_)⟩
 rfl):p:=h
theorem lex34 (s:List UInt8) (hs:s.length≤9223372036854775807):APure Tryz.prog 157 [.str s] (fun rs=>rs=lexA (lexR s)):=by
 cases h4:decide (4000<s.length) with
 | true =>
  have h4':=of_decide_eq_true h4
  have hr:lexR s=.error (0,6):=by unfold lexR;rw [if_pos h4']
  rw [hr]
  refine aW (cxOk 49 [0,2,3,4,5,6,7,8,11,21,35]) Tryz.func157 ?_
  conv=>whnf
  rw [decide_eq_true (show (4000:Int)<((s.length:Nat):Int) by omega)]
  refine gT (cW ?_)
  exact zt146
 | false =>
  have h4':=of_decide_eq_false h4
  have hr:lexR s=lexL s (s.length+1) 0 []:=by unfold lexR;rw [if_neg h4']
  refine aW (cxOk 49 [0,2,3,4,5,6,7,8,11,21,35]) Tryz.func157 ?_
  conv=>whnf
  rw [decide_eq_false (show ¬ (4000:Int)<((s.length:Nat):Int) by omega)]
  refine gF (cW ?_)
  refine loop_inv (cxOk _ _) (fun x:Nat×(Nat×List Tok)=>x.2.1≤s.length∧s.length<x.2.1+x.1∧x.2.2.length≤x.2.1∧lexR s=lexL s x.1 x.2.1 x.2.2) (fun x=>x.1) (fun x=>⟨[(0,.str s),(5,.own 0),(6,.int .i64 ((x.2.1):Nat))],[(0,.row 198 4 encTk t0 (x.2.2))],1⟩) (s.length+1,(0,[])) ⟨by show 0≤_;omega,by show _<0+(_+1);omega,by simp,hr⟩ ((wk_of [(0,.nil)] rfl ⟨wa0,ag0,wa0,trivial⟩ ⟨⟨_,rfl,ae0⟩,trivial⟩)) ?_
  rintro ⟨f,p,l⟩ ⟨hp,hpf,hl,hsp⟩
  dsimp only at hp hpf hl hsp ⊢
  obtain ⟨f,rfl⟩:∃ g,f=g+1:=⟨f-1,by omega⟩
  have hbl:=span_ok (s.drop p) 194 _ blank_ok (by rw [List.length_drop];omega)
  have hbn:=spanN_le blkB (s.drop p)
  rw [List.length_drop] at hbn
  conv=>whnf
  refine iO (cW ?_)
  refine cO (fun _=>hbl) (cW ?_)
  refine iO (cW ?_)
  have hq:(p:Int)+(spanN blkB (s.drop p):Nat)=((skipN s p:Nat):Int):=(Int.natCast_add _ _).symm
  have hqle:skipN s p≤s.length:=by unfold skipN;omega
  have hqp:p≤skipN s p:=by unfold skipN;omega
  rw [hq]
  cases he:decide (skipN s p=s.length) with
  | true =>
   have he':=of_decide_eq_true he
   rw [decide_eq_true (show ((skipN s p:Nat):Int)=((s.length:Nat):Int) by omega)]
   have hs':lexR s=.ok (l++[⟨3,[],0,(s.length:Nat)⟩]):=by rw [hsp,lexL,if_pos he']
   rw [hs',he']
   refine gT (cW ?_)
   refine And.intro rfl (cW ?_)
   refine And.intro ⟨rfl,rfl⟩ (And.intro (by show (l.length+1)*40≤140737488355328;omega) (cW ?_))
   refine Exists.intro ⟨3,[],0,(s.length:Nat)⟩ (And.intro rfl (cW ?_))
   refine ⟨_,wk_frz [2],(cW ?_)⟩
   rfl
  | false =>
   have he':=of_decide_eq_false he
   rw [decide_eq_false (show ¬ ((skipN s p:Nat):Int)=((s.length:Nat):Int) by omega)]
   have hne:s.drop (skipN s p)≠[]:=fun h=>by
    exact zt76
   have hnx:=next95 (s.drop (skipN s p)) hne (by rw [List.length_drop];omega)
   refine gF (cW ?_)
   refine iO (cW ?_)
   cases hN:nextR (s.drop (skipN s p)) with
   | error e =>
    rw [hN] at hnx
    have hs':lexR s=.error ((skipN s p:Nat),e):=by rw [hsp,lexL,if_neg he',hN]
    have hen:=nextR_er hN
    rw [hs']
    unfold nextA at hnx
    refine cO (fun _=>hnx) (cW ?_)
    rw [decide_eq_false (show ¬ e=0 by omega)]
    refine gT (cW ?_)
    exact zt146
   | ok t =>
    rw [hN] at hnx
    obtain ⟨ht1,htp⟩:=nextR_ok hne hN
    have htl:=htp.length_le
    rw [List.length_drop] at htl
    have hs':lexR s=lexL s f (skipN s p+t.text.length) (l++[⟨t.kind,t.text,t.n,(skipN s p:Nat)⟩]):=by rw [hsp,lexL,if_neg he',hN]
    unfold nextA at hnx
    refine cO (fun _=>hnx) (cW ?_)
    refine gF (cW ?_)
    refine And.intro rfl (cW ?_)
    refine And.intro ⟨rfl,rfl⟩ (And.intro (by show (l.length+1)*40≤140737488355328;omega) (cW ?_))
    refine Exists.intro ⟨t.kind,t.text,t.n,(skipN s p:Nat)⟩ (And.intro rfl (cW ?_))
    refine iO (cW ?_)
    exact ⟨(f,(skipN s p+t.text.length,l++[⟨t.kind,t.text,t.n,(skipN s p:Nat)⟩])),⟨(by show skipN s p+t.text.length≤s.length;omega),(by show s.length<skipN s p+t.text.length+f;omega),(by show (l++[_]).length≤skipN s p+t.text.length;rw [List.length_append];show l.length+1≤_;omega),hs'⟩,Nat.lt_succ_self f,(wk_of [(0,.id 3)] rfl ⟨wa0,ag0,wa0,trivial⟩ ⟨⟨_,rfl,ae0⟩,trivial⟩)⟩
theorem digT_all (s:List UInt8):∀ c∈digT s,digB (c.toNat:Int)=true:=by
 intro c hc
 have h1:digT s=s.takeWhile fun b=>digB (b.toNat:Int):=by
  unfold digT spanN
  exact (List.prefix_iff_eq_take.1 (List.takeWhile_prefix _)).symm
 rw [h1] at hc
 exact (List.all_eq_true.1 (List.all_takeWhile (p:=fun b:UInt8=>digB (b.toNat:Int)) (l:=s))) _ hc
theorem nextR_mk {s:List UInt8} {t:Tok} (h:nextR s=.ok t):t.kind≠3∧0≤t.n∧t.n≤1000000000000000:=by
 unfold nextR at h
 split at h
 ·split at h
  ·cases h;exact ⟨by simp,by simp,by simp⟩
  ·cases h
 split at h
 ·split at h
  ·rename_i n hn
   cases h
   unfold numR at hn
   split at hn
   ·rename_i hc
    cases hn
    exact ⟨by simp,(numV_bnd _ (digT_all s)).1,hc.2⟩
   ·cases hn
  ·cases h
 split at h
 ·cases h;exact ⟨by simp,by simp,by simp⟩
 ·cases h
theorem fin1_snoc {l:List Tok} {t:Tok} (h:∀ x∈l,x.kind≠3) (ht:t.kind=3):Fin1 (l++[t]):=by
 induction l with
 | nil=>exact ht
 | cons x l ih =>
  have h1:=ih fun y hy=>h y (List.mem_cons_of_mem _ hy)
  have h2:=h x List.mem_cons_self
  cases l with
  | nil=>exact ⟨h2,h1⟩
  | cons y l=>exact ⟨h2,h1⟩
theorem zt175 {p:Prop}(h:p:=by
 have:=spanN_le blkB (s.drop p)
 rw [List.length_drop] at this
 unfold skipN;omega):p:=h
theorem lexL_ok {s:List UInt8}:∀ (f p:Nat) (l T:List Tok),(∀ t∈l,t.kind≠3∧t.text.length≤4000∧0≤t.n∧t.n≤1000000000000000)→s.length≤4000→p≤s.length→s.length<p+f→l.length≤p→lexL s f p l=.ok T→Fin1 T∧T.length≤s.length+1∧∀ t∈T,t.text.length≤4000∧0≤t.n∧t.n≤1000000000000000:=by
 intro f
 induction f with
 | zero=>intro p l T _ _ hp hf;omega
 | succ f ih =>
  intro p l T hl h4 hp hf hlp h
  unfold lexL at h
  split at h
  ·cases h
   refine ⟨fin1_snoc (fun x hx=>(hl x hx).1) rfl,by rw [List.length_append];simp;omega,fun t ht=>?_⟩
   rcases List.mem_append.1 ht with ht | ht
   ·exact (hl t ht).2
   ·have:t=_:=List.mem_singleton.1 ht
    subst this
    exact ⟨by simp,by simp,by simp⟩
  ·rename_i hne'
   split at h
   ·cases h
   ·rename_i t hN
    have hq:skipN s p≤s.length:=by
     exact zt175
    have hqp:p≤skipN s p:=by unfold skipN;omega
    have hne:s.drop (skipN s p)≠[]:=fun h=>by
     exact zt76
    obtain ⟨t1,t2⟩:=nextR_ok hne hN
    obtain ⟨k1,k2,k3⟩:=nextR_mk hN
    have t3:=t2.length_le
    rw [List.length_drop] at t3
    refine ih _ _ T (fun x hx=>?_) h4 (by omega) (by omega) (by rw [List.length_append];simp;omega) h
    rcases List.mem_append.1 hx with hx | hx
    ·exact hl x hx
    ·have:x=_:=List.mem_singleton.1 hx
     subst this
     exact ⟨k1,by show t.text.length≤4000;omega,k2,k3⟩
theorem lexR_ok {s:List UInt8} {T:List Tok} (h:lexR s=.ok T):PSt T T:=by
 unfold lexR at h
 split at h
 ·cases h
 ·rename_i h4
  obtain ⟨a,b,c⟩:=lexL_ok _ _ _ T (fun t ht=>by cases ht) (by omega) (by omega) (by omega) (by simp) h
  exact ⟨List.suffix_refl _,a,by omega,c⟩
theorem open_ok (s:List UInt8) (hs:s.length≤9223372036854775807) {T:List Tok} (h:lexR s=.ok T):RIO Tryz.prog 116 [.str s] [] 0 (fun vs bs es=>vs=[.ptr 0 0,.int .i64 0,.int .i64 0]∧bs=[]∧es=[pobj T T]):=by
 have hl:=lex34 s hs
 rw [h] at hl
 unfold lexA at hl
 refine rO (cxPOk 0 19 [0,2,3,4,5,6,7]) Tryz.func116 ?_
 conv=>whnf
 refine cO (fun _=>hl) (cW ?_)
 refine ⟨⟨[(2,.ptr 0 0),(3,.int .i64 0),(4,.int .i64 0)],[(0,.cells 183 (pcell T T))],1⟩,(wk_of [(0,.id 0)] rfl ⟨wc0,wa0,wa0,trivial⟩ ⟨⟨_,rfl,.cells _ _ _ _ rfl (by repeat (first | exact .nil | refine .cons (by first | exact .base (.tree _ _ rfl rfl) | exact .base (.own _ _ rfl) | exact .base (.ptr _ _ _ rfl) | exact .base (.map _ _ rfl) | exact .base (.nilown _ rfl) | exact .fn _ _ _ _ _ .nil zp7 | exact .base (.tree _ _ (congrArg (AV.int .i64) (by rw [Nat.sub_self];rfl)) rfl) | exact .base (.leT _ _ (congrArg (AV.int .i64) (by rw [Nat.sub_self];rfl)) rfl)) ?_)) rfl⟩,trivial⟩),rfl,rfl,?_⟩
 exact zt9
theorem open_er (s:List UInt8) (hs:s.length≤9223372036854775807) {e:Er} (h:lexR s=.error e):RIO Tryz.prog 116 [.str s] [] 0 (fun vs bs es=>vs=[.ptr 0 0,.int .i64 e.1,.int .i64 e.2]∧bs=[]∧es=[.cells 183 [.nils,.int .i64 0]]):=by
 have hl:=lex34 s hs
 rw [h] at hl
 unfold lexA at hl
 refine rO (cxPOk 0 19 [0,2,3,4,5,6,7]) Tryz.func116 ?_
 conv=>whnf
 refine cO (fun _=>hl) ?_
 exact zt58
theorem caught_er (a b c d:Int):RIO Tryz.prog 118 [.ival 185 [.int .i64 a,.int .i64 b],.ptr 0 0,.ptr 1 0] [.cells 3 [.int .i64 c],.cells 31 [.int .i64 d]] 2
  (fun vs bs es=>vs=[.bool true]∧bs=[.cells 3 [.int .i64 a],.cells 31 [.int .i64 b]]∧es=[]):=by
 refine rO (cxPOk 2 31 [0,1,2,6,7,8,19,21]) Tryz.func118 ?_
 conv=>whnf
 refine gF (cW ?_)
 refine gT (cW ?_)
 refine .eff ad0 (cW ?_)
 refine ⟨by kernel_rfl,(cW (cW ?_))⟩
 refine ⟨⟨[(6,.bool true)],[(0,.cells 3 [.int .i64 a]),(1,.cells 31 [.int .i64 b])],2⟩,(wk_of [(0,.id 0),(1,.id 1)] rfl ⟨wa0,trivial⟩ ⟨wb0,wb0,trivial⟩),rfl,rfl,?_⟩
 exact zt9
theorem caught_ok (c d:Int):RIO Tryz.prog 118 [.ifc true,.ptr 0 0,.ptr 1 0] [.cells 3 [.int .i64 c],.cells 31 [.int .i64 d]] 2
  (fun vs bs es=>vs=[.bool false]∧bs=[.cells 3 [.int .i64 c],.cells 31 [.int .i64 d]]∧es=[]):=by
 refine rO (cxPOk 2 31 [0,1,2,6,7,8,19,21]) Tryz.func118 ?_
 conv=>whnf
 refine gF (cW ?_)
 refine gF (cW ?_)
 refine ⟨⟨[(6,.bool false)],[(0,.cells 3 [.int .i64 c]),(1,.cells 31 [.int .i64 d])],2⟩,(wk_of [(0,.id 0),(1,.id 1)] rfl ⟨wa0,trivial⟩ ⟨wb0,wb0,trivial⟩),rfl,rfl,?_⟩
 exact zt9
def parseR (s:List UInt8):Except Er Ind:=match lexR s with
 | .error e=>.error e
 | .ok T=>match indP T with
  | .error e=>.error e
  | .ok (x,_)=>.ok x
def parA:Except Er Ind→List AR
 | .ok x=>[.val (encX x),.val (.int .i64 0),.val (.int .i64 0)]
 | .error e=>[.val (encX i0),.val (.int .i64 e.1),.val (.int .i64 e.2)]
theorem lexR_er {s:List UInt8} {e:Er} (h:lexR s=.error e):e.2≠0:=by
 unfold lexR at h
 split at h
 ·cases h;simp
 ·rename_i h4
  have:∀ (f p:Nat) (l:List Tok),lexL s f p l=.error e→e.2≠0:=by
   intro f
   induction f with
   | zero=>intro p l h;cases h
   | succ f ih =>
    intro p l h
    unfold lexL at h
    split at h
    ·cases h
    ·split at h
     ·rename_i e' he
      cases h
      have:=nextR_er he
      show e'≠0
      omega
     ·exact ih _ _ h
  exact this _ _ _ h
theorem zp12 {p:Prop} (h:p:=by first | exact LeT.nils_lsl 5 rfl | exact LeT.nils_sl 6 encL l0 | exact LeT.nils_sl 7 encC c0 | exact LeT.nils_sl 1 encS [] | exact LeT.nils_sl 2 encK k0):p:=h
theorem zp59 {p:Prop} (h:p:=by repeat (first | exact .nil | refine .cons (by first | exact .base (.tree _ _ rfl rfl) | exact .base (.own _ _ rfl) | exact .base (.ptr _ _ _ rfl) | exact .base (.map _ _ rfl) | exact .base (.nilown _ rfl) | exact .fn _ _ _ _ _ .nil zp7 | exact .base (.tree _ _ zp12 rfl) | exact .base (.leT _ _ zp12 rfl)) ?_)):p:=h
theorem parse_lex (s:List UInt8) (hs:s.length≤9223372036854775807) {e:Er} (h:lexR s=.error e):APure Tryz.prog 23 [.str s] (fun rs=>rs=parA (.error e)):=by
 have ho:=open_er s hs h
 have hne:=lexR_er h
 refine aW (cxOk 20 [0,2,3,4,5,13]) Tryz.func23 ?_
 conv=>whnf
 refine cR (ho) [] (cW ?_)
 rw [decide_eq_false hne]
 refine gT (cW ?_)
 refine .eff ad0 (cW ?_)
 refine ⟨by kernel_rfl,(cW (cW ?_))⟩
 refine ⟨⟨[(2,.ptr 0 0),(3,.ptr 1 0),(4,.ptr 2 0)],[(0,.cells 56 (celX i0)),(1,.cells 3 [.int .i64 e.1]),(2,.cells 31 [.int .i64 e.2])],3⟩,(wk_of [(0,.id 0),(1,.id 1),(2,.id 2)] rfl ⟨wc0,wc0,wc0,trivial⟩ ⟨⟨_,rfl,.cells _ _ _ _ rfl zp59 rfl⟩,wb0,wb0,trivial⟩),(cW ?_)⟩
 rfl
end Go.Proofs.YtgaallgiaachlaaGreatDoor
