/- Texts of the proof, joined. -/
import Derived.Test.YtnjocbcjejpklaaGreatZbB
import Derived.Test.YtnjocbcjejpklaaGreatChecked
import Derived.Lib.Mul64
import Derived.Lib.Tables
import Derived.RowKit3
import Derived.OpenShut
import Derived.Test.YtnjocbcjejpklaaGreatRows
import Derived.ProofKit
namespace Go.Proofs.YtnjocbcjejpklaaGreat
open Go.Rq Go
def ty2:TyX:={ desc:=.int .i64,sz:=1,zero:=.sc ((.it 0)),flat:=none }
theorem und2:Tryz.prog.underlying 2 = some ty2.desc:=by kernel_rfl
theorem siz2:(Tryz.prog.info? 2).map (·.size) = some ty2.sz:=by kernel_rfl
theorem zer2:(Tryz.prog.info? 2).bind (·.zero) = some (ty2.zero.val fun _=>0):=by kernel_rfl
def ty3:TyX:={ desc:=.int .i64,sz:=1,zero:=.sc ((.it 0)),flat:=none }
theorem und3:Tryz.prog.underlying 3 = some ty3.desc:=by kernel_rfl
theorem siz3:(Tryz.prog.info? 3).map (·.size) = some ty3.sz:=by kernel_rfl
theorem zer3:(Tryz.prog.info? 3).bind (·.zero) = some (ty3.zero.val fun _=>0):=by kernel_rfl
def ty4:TyX:={ desc:=.bool,sz:=1,zero:=.sc ((.bo false)),flat:=none }
theorem und4:Tryz.prog.underlying 4 = some ty4.desc:=by kernel_rfl
theorem siz4:(Tryz.prog.info? 4).map (·.size) = some ty4.sz:=by kernel_rfl
theorem zer4:(Tryz.prog.info? 4).bind (·.zero) = some (ty4.zero.val fun _=>0):=by kernel_rfl
def ty5:TyX:={ desc:=.int .u8,sz:=1,zero:=.sc ((.w .u8 0)),flat:=none }
theorem und5:Tryz.prog.underlying 5 = some ty5.desc:=by kernel_rfl
theorem siz5:(Tryz.prog.info? 5).map (·.size) = some ty5.sz:=by kernel_rfl
theorem zer5:(Tryz.prog.info? 5).bind (·.zero) = some (ty5.zero.val fun _=>0):=by kernel_rfl
def ty9:TyX:={ desc:=.string,sz:=1,zero:=.sc ((.str 0 fun _=>0)),flat:=none }
theorem und9:Tryz.prog.underlying 9 = some ty9.desc:=by kernel_rfl
theorem siz9:(Tryz.prog.info? 9).map (·.size) = some ty9.sz:=by kernel_rfl
theorem zer9:(Tryz.prog.info? 9).bind (·.zero) = some (ty9.zero.val fun _=>0):=by kernel_rfl
def ty12:TyX:={ desc:=.int .u64,sz:=1,zero:=.sc ((.w .u64 0)),flat:=none }
theorem und12:Tryz.prog.underlying 12 = some ty12.desc:=by kernel_rfl
theorem siz12:(Tryz.prog.info? 12).map (·.size) = some ty12.sz:=by kernel_rfl
theorem zer12:(Tryz.prog.info? 12).bind (·.zero) = some (ty12.zero.val fun _=>0):=by kernel_rfl
def ty22:TyX:={ desc:=.int .u64,sz:=1,zero:=.sc ((.w .u64 0)),flat:=none }
theorem und22:Tryz.prog.underlying 22 = some ty22.desc:=by kernel_rfl
theorem siz22:(Tryz.prog.info? 22).map (·.size) = some ty22.sz:=by kernel_rfl
theorem zer22:(Tryz.prog.info? 22).bind (·.zero) = some (ty22.zero.val fun _=>0):=by kernel_rfl
def ty23:TyX:={ desc:=.array 6 22,sz:=6,zero:=.agg [.ws .u64 6 fun _=>0],flat:=some (List.replicate 6 [some .u64]).flatten }
theorem und23:Tryz.prog.underlying 23 = some ty23.desc:=by kernel_rfl
theorem siz23:(Tryz.prog.info? 23).map (·.size) = some ty23.sz:=by kernel_rfl
theorem zer23:(Tryz.prog.info? 23).bind (·.zero) = some (ty23.zero.val fun _=>0):=by kernel_rfl
def ty24:TyX:={ desc:=.array 6 22,sz:=6,zero:=.agg [.ws .u64 6 fun _=>0],flat:=some (List.replicate 6 [some .u64]).flatten }
theorem und24:Tryz.prog.underlying 24 = some ty24.desc:=by kernel_rfl
theorem siz24:(Tryz.prog.info? 24).map (·.size) = some ty24.sz:=by kernel_rfl
theorem zer24:(Tryz.prog.info? 24).bind (·.zero) = some (ty24.zero.val fun _=>0):=by kernel_rfl
def ty25:TyX:={ desc:=.struct #[{ name:= "X",type:=24,offset:=0,embedded:=false,tag:= "",pkgPath:= "",byteOffset:=0 },{ name:= "Y",type:=24,offset:=6,embedded:=false,tag:= "",pkgPath:= "",byteOffset:=48 },{ name:= "Zero",type:=4,offset:=12,embedded:=false,tag:= "",pkgPath:= "",byteOffset:=96 }],sz:=13,zero:=.agg [.ws .u64 6 fun _=>0,.ws .u64 6 fun _=>0,.one (.bo false)],flat:=some ((List.replicate 6 [some .u64]).flatten ++ ((List.replicate 6 [some .u64]).flatten ++ ([none] ++ []))) }
theorem und25:Tryz.prog.underlying 25 = some ty25.desc:=by kernel_rfl
theorem siz25:(Tryz.prog.info? 25).map (·.size) = some ty25.sz:=by kernel_rfl
theorem zer25:(Tryz.prog.info? 25).bind (·.zero) = some (ty25.zero.val fun _=>0):=by kernel_rfl
def ty26:TyX:={ desc:=.struct #[{ name:= "X",type:=24,offset:=0,embedded:=false,tag:= "",pkgPath:= "",byteOffset:=0 },{ name:= "Y",type:=24,offset:=6,embedded:=false,tag:= "",pkgPath:= "",byteOffset:=48 },{ name:= "Zero",type:=4,offset:=12,embedded:=false,tag:= "",pkgPath:= "",byteOffset:=96 }],sz:=13,zero:=.agg [.ws .u64 6 fun _=>0,.ws .u64 6 fun _=>0,.one (.bo false)],flat:=some ((List.replicate 6 [some .u64]).flatten ++ ((List.replicate 6 [some .u64]).flatten ++ ([none] ++ []))) }
theorem und26:Tryz.prog.underlying 26 = some ty26.desc:=by kernel_rfl
theorem siz26:(Tryz.prog.info? 26).map (·.size) = some ty26.sz:=by kernel_rfl
theorem zer26:(Tryz.prog.info? 26).bind (·.zero) = some (ty26.zero.val fun _=>0):=by kernel_rfl
def ty27:TyX:={ desc:=.array 2 24,sz:=12,zero:=.agg [.ws .u64 6 fun _=>0,.ws .u64 6 fun _=>0],flat:=some (List.replicate 2 (List.replicate 6 [some .u64]).flatten).flatten }
theorem und27:Tryz.prog.underlying 27 = some ty27.desc:=by kernel_rfl
theorem siz27:(Tryz.prog.info? 27).map (·.size) = some ty27.sz:=by kernel_rfl
theorem zer27:(Tryz.prog.info? 27).bind (·.zero) = some (ty27.zero.val fun _=>0):=by kernel_rfl
def ty28:TyX:={ desc:=.array 2 24,sz:=12,zero:=.agg [.ws .u64 6 fun _=>0,.ws .u64 6 fun _=>0],flat:=some (List.replicate 2 (List.replicate 6 [some .u64]).flatten).flatten }
theorem und28:Tryz.prog.underlying 28 = some ty28.desc:=by kernel_rfl
theorem siz28:(Tryz.prog.info? 28).map (·.size) = some ty28.sz:=by kernel_rfl
theorem zer28:(Tryz.prog.info? 28).bind (·.zero) = some (ty28.zero.val fun _=>0):=by kernel_rfl
def ty29:TyX:={ desc:=.struct #[{ name:= "X",type:=28,offset:=0,embedded:=false,tag:= "",pkgPath:= "",byteOffset:=0 },{ name:= "Y",type:=28,offset:=12,embedded:=false,tag:= "",pkgPath:= "",byteOffset:=96 },{ name:= "Zero",type:=4,offset:=24,embedded:=false,tag:= "",pkgPath:= "",byteOffset:=192 }],sz:=25,zero:=.agg [.ws .u64 6 fun _=>0,.ws .u64 6 fun _=>0,.ws .u64 6 fun _=>0,.ws .u64 6 fun _=>0,.one (.bo false)],flat:=some ((List.replicate 2 (List.replicate 6 [some .u64]).flatten).flatten ++ ((List.replicate 2 (List.replicate 6 [some .u64]).flatten).flatten ++ ([none] ++ []))) }
theorem und29:Tryz.prog.underlying 29 = some ty29.desc:=by kernel_rfl
theorem siz29:(Tryz.prog.info? 29).map (·.size) = some ty29.sz:=by kernel_rfl
theorem zer29:(Tryz.prog.info? 29).bind (·.zero) = some (ty29.zero.val fun _=>0):=by kernel_rfl
def ty30:TyX:={ desc:=.struct #[{ name:= "X",type:=28,offset:=0,embedded:=false,tag:= "",pkgPath:= "",byteOffset:=0 },{ name:= "Y",type:=28,offset:=12,embedded:=false,tag:= "",pkgPath:= "",byteOffset:=96 },{ name:= "Zero",type:=4,offset:=24,embedded:=false,tag:= "",pkgPath:= "",byteOffset:=192 }],sz:=25,zero:=.agg [.ws .u64 6 fun _=>0,.ws .u64 6 fun _=>0,.ws .u64 6 fun _=>0,.ws .u64 6 fun _=>0,.one (.bo false)],flat:=some ((List.replicate 2 (List.replicate 6 [some .u64]).flatten).flatten ++ ((List.replicate 2 (List.replicate 6 [some .u64]).flatten).flatten ++ ([none] ++ []))) }
theorem und30:Tryz.prog.underlying 30 = some ty30.desc:=by kernel_rfl
theorem siz30:(Tryz.prog.info? 30).map (·.size) = some ty30.sz:=by kernel_rfl
theorem zer30:(Tryz.prog.info? 30).bind (·.zero) = some (ty30.zero.val fun _=>0):=by kernel_rfl
def ty31:TyX:={ desc:=.array 6 28,sz:=72,zero:=.agg [.ws .u64 6 fun _=>0,.ws .u64 6 fun _=>0,.ws .u64 6 fun _=>0,.ws .u64 6 fun _=>0,.ws .u64 6 fun _=>0,.ws .u64 6 fun _=>0,.ws .u64 6 fun _=>0,.ws .u64 6 fun _=>0,.ws .u64 6 fun _=>0,.ws .u64 6 fun _=>0,.ws .u64 6 fun _=>0,.ws .u64 6 fun _=>0],flat:=some (List.replicate 6 (List.replicate 2 (List.replicate 6 [some .u64]).flatten).flatten).flatten }
theorem und31:Tryz.prog.underlying 31 = some ty31.desc:=by kernel_rfl
theorem siz31:(Tryz.prog.info? 31).map (·.size) = some ty31.sz:=by kernel_rfl
theorem zer31:(Tryz.prog.info? 31).bind (·.zero) = some (ty31.zero.val fun _=>0):=by kernel_rfl
def ty32:TyX:={ desc:=.array 6 28,sz:=72,zero:=.agg [.ws .u64 6 fun _=>0,.ws .u64 6 fun _=>0,.ws .u64 6 fun _=>0,.ws .u64 6 fun _=>0,.ws .u64 6 fun _=>0,.ws .u64 6 fun _=>0,.ws .u64 6 fun _=>0,.ws .u64 6 fun _=>0,.ws .u64 6 fun _=>0,.ws .u64 6 fun _=>0,.ws .u64 6 fun _=>0,.ws .u64 6 fun _=>0],flat:=some (List.replicate 6 (List.replicate 2 (List.replicate 6 [some .u64]).flatten).flatten).flatten }
theorem und32:Tryz.prog.underlying 32 = some ty32.desc:=by kernel_rfl
theorem siz32:(Tryz.prog.info? 32).map (·.size) = some ty32.sz:=by kernel_rfl
theorem zer32:(Tryz.prog.info? 32).bind (·.zero) = some (ty32.zero.val fun _=>0):=by kernel_rfl
def ty33:TyX:={ desc:=.int .i64,sz:=1,zero:=.sc ((.it 0)),flat:=none }
theorem und33:Tryz.prog.underlying 33 = some ty33.desc:=by kernel_rfl
theorem siz33:(Tryz.prog.info? 33).map (·.size) = some ty33.sz:=by kernel_rfl
theorem zer33:(Tryz.prog.info? 33).bind (·.zero) = some (ty33.zero.val fun _=>0):=by kernel_rfl
def ty60:TyX:={ desc:=.slice 26,sz:=1,zero:=.sc ((.rw (.slice none 0 0))),flat:=none }
theorem und60:Tryz.prog.underlying 60 = some ty60.desc:=by kernel_rfl
theorem siz60:(Tryz.prog.info? 60).map (·.size) = some ty60.sz:=by kernel_rfl
theorem zer60:(Tryz.prog.info? 60).bind (·.zero) = some (ty60.zero.val fun _=>0):=by kernel_rfl
def ty61:TyX:={ desc:=.slice 30,sz:=1,zero:=.sc ((.rw (.slice none 0 0))),flat:=none }
theorem und61:Tryz.prog.underlying 61 = some ty61.desc:=by kernel_rfl
theorem siz61:(Tryz.prog.info? 61).map (·.size) = some ty61.sz:=by kernel_rfl
theorem zer61:(Tryz.prog.info? 61).bind (·.zero) = some (ty61.zero.val fun _=>0):=by kernel_rfl
def ty67:TyX:={ desc:=.array 6 22,sz:=6,zero:=.agg [.ws .u64 6 fun _=>0],flat:=some (List.replicate 6 [some .u64]).flatten }
theorem und67:Tryz.prog.underlying 67 = some ty67.desc:=by kernel_rfl
theorem siz67:(Tryz.prog.info? 67).map (·.size) = some ty67.sz:=by kernel_rfl
theorem zer67:(Tryz.prog.info? 67).bind (·.zero) = some (ty67.zero.val fun _=>0):=by kernel_rfl
def ty68:TyX:={ desc:=.array 2 67,sz:=12,zero:=.agg [.ws .u64 6 fun _=>0,.ws .u64 6 fun _=>0],flat:=some (List.replicate 2 (List.replicate 6 [some .u64]).flatten).flatten }
theorem und68:Tryz.prog.underlying 68 = some ty68.desc:=by kernel_rfl
theorem siz68:(Tryz.prog.info? 68).map (·.size) = some ty68.sz:=by kernel_rfl
theorem zer68:(Tryz.prog.info? 68).bind (·.zero) = some (ty68.zero.val fun _=>0):=by kernel_rfl
def ty69:TyX:={ desc:=.array 2 67,sz:=12,zero:=.agg [.ws .u64 6 fun _=>0,.ws .u64 6 fun _=>0],flat:=some (List.replicate 2 (List.replicate 6 [some .u64]).flatten).flatten }
theorem und69:Tryz.prog.underlying 69 = some ty69.desc:=by kernel_rfl
theorem siz69:(Tryz.prog.info? 69).map (·.size) = some ty69.sz:=by kernel_rfl
theorem zer69:(Tryz.prog.info? 69).bind (·.zero) = some (ty69.zero.val fun _=>0):=by kernel_rfl
def ty70:TyX:={ desc:=.array 6 69,sz:=72,zero:=.agg [.ws .u64 6 fun _=>0,.ws .u64 6 fun _=>0,.ws .u64 6 fun _=>0,.ws .u64 6 fun _=>0,.ws .u64 6 fun _=>0,.ws .u64 6 fun _=>0,.ws .u64 6 fun _=>0,.ws .u64 6 fun _=>0,.ws .u64 6 fun _=>0,.ws .u64 6 fun _=>0,.ws .u64 6 fun _=>0,.ws .u64 6 fun _=>0],flat:=some (List.replicate 6 (List.replicate 2 (List.replicate 6 [some .u64]).flatten).flatten).flatten }
theorem und70:Tryz.prog.underlying 70 = some ty70.desc:=by kernel_rfl
theorem siz70:(Tryz.prog.info? 70).map (·.size) = some ty70.sz:=by kernel_rfl
theorem zer70:(Tryz.prog.info? 70).bind (·.zero) = some (ty70.zero.val fun _=>0):=by kernel_rfl
def ty71:TyX:={ desc:=.array 6 69,sz:=72,zero:=.agg [.ws .u64 6 fun _=>0,.ws .u64 6 fun _=>0,.ws .u64 6 fun _=>0,.ws .u64 6 fun _=>0,.ws .u64 6 fun _=>0,.ws .u64 6 fun _=>0,.ws .u64 6 fun _=>0,.ws .u64 6 fun _=>0,.ws .u64 6 fun _=>0,.ws .u64 6 fun _=>0,.ws .u64 6 fun _=>0,.ws .u64 6 fun _=>0],flat:=some (List.replicate 6 (List.replicate 2 (List.replicate 6 [some .u64]).flatten).flatten).flatten }
theorem und71:Tryz.prog.underlying 71 = some ty71.desc:=by kernel_rfl
theorem siz71:(Tryz.prog.info? 71).map (·.size) = some ty71.sz:=by kernel_rfl
theorem zer71:(Tryz.prog.info? 71).bind (·.zero) = some (ty71.zero.val fun _=>0):=by kernel_rfl
def ty76:TyX:={ desc:=.slice 22,sz:=1,zero:=.sc ((.rw (.slice none 0 0))),flat:=none }
theorem und76:Tryz.prog.underlying 76 = some ty76.desc:=by kernel_rfl
theorem siz76:(Tryz.prog.info? 76).map (·.size) = some ty76.sz:=by kernel_rfl
theorem zer76:(Tryz.prog.info? 76).bind (·.zero) = some (ty76.zero.val fun _=>0):=by kernel_rfl
def ty79:TyX:={ desc:=.func #[67,67] #[67] false,sz:=1,zero:=.sc ((.rw .nilFunc)),flat:=none }
theorem und79:Tryz.prog.underlying 79 = some ty79.desc:=by kernel_rfl
theorem siz79:(Tryz.prog.info? 79).map (·.size) = some ty79.sz:=by kernel_rfl
theorem zer79:(Tryz.prog.info? 79).bind (·.zero) = some (ty79.zero.val fun _=>0):=by kernel_rfl
def ty80:TyX:={ desc:=.func #[67] #[67] false,sz:=1,zero:=.sc ((.rw .nilFunc)),flat:=none }
theorem und80:Tryz.prog.underlying 80 = some ty80.desc:=by kernel_rfl
theorem siz80:(Tryz.prog.info? 80).map (·.size) = some ty80.sz:=by kernel_rfl
theorem zer80:(Tryz.prog.info? 80).bind (·.zero) = some (ty80.zero.val fun _=>0):=by kernel_rfl
def pkP0 : String := String.ofList ([114,101,108,105,113,117,97,114,121,47,99,117,114,118,101].map Char.ofNat)
def ty81:TyX:={ desc:=.struct #[{ name:= "add",type:=79,offset:=0,embedded:=false,tag:= "",pkgPath:= pkP0,byteOffset:=0 },{ name:= "sub",type:=79,offset:=1,embedded:=false,tag:= "",pkgPath:= pkP0,byteOffset:=8 },{ name:= "mul",type:=79,offset:=2,embedded:=false,tag:= "",pkgPath:= pkP0,byteOffset:=16 },{ name:= "inv",type:=80,offset:=3,embedded:=false,tag:= "",pkgPath:= pkP0,byteOffset:=24 },{ name:= "one",type:=67,offset:=4,embedded:=false,tag:= "",pkgPath:= pkP0,byteOffset:=32 },{ name:= "b",type:=67,offset:=10,embedded:=false,tag:= "",pkgPath:= pkP0,byteOffset:=80 }],sz:=16,zero:=.agg [.one (.rw .nilFunc),.one (.rw .nilFunc),.one (.rw .nilFunc),.one (.rw .nilFunc),.ws .u64 6 fun _=>0,.ws .u64 6 fun _=>0],flat:=none }
theorem und81:Tryz.prog.underlying 81 = some ty81.desc:=by kernel_rfl
theorem siz81:(Tryz.prog.info? 81).map (·.size) = some ty81.sz:=by kernel_rfl
theorem zer81:(Tryz.prog.info? 81).bind (·.zero) = some (ty81.zero.val fun _=>0):=by kernel_rfl
def ty82:TyX:={ desc:=.struct #[{ name:= "add",type:=79,offset:=0,embedded:=false,tag:= "",pkgPath:= pkP0,byteOffset:=0 },{ name:= "sub",type:=79,offset:=1,embedded:=false,tag:= "",pkgPath:= pkP0,byteOffset:=8 },{ name:= "mul",type:=79,offset:=2,embedded:=false,tag:= "",pkgPath:= pkP0,byteOffset:=16 },{ name:= "inv",type:=80,offset:=3,embedded:=false,tag:= "",pkgPath:= pkP0,byteOffset:=24 },{ name:= "one",type:=67,offset:=4,embedded:=false,tag:= "",pkgPath:= pkP0,byteOffset:=32 },{ name:= "b",type:=67,offset:=10,embedded:=false,tag:= "",pkgPath:= pkP0,byteOffset:=80 }],sz:=16,zero:=.agg [.one (.rw .nilFunc),.one (.rw .nilFunc),.one (.rw .nilFunc),.one (.rw .nilFunc),.ws .u64 6 fun _=>0,.ws .u64 6 fun _=>0],flat:=none }
theorem und82:Tryz.prog.underlying 82 = some ty82.desc:=by kernel_rfl
theorem siz82:(Tryz.prog.info? 82).map (·.size) = some ty82.sz:=by kernel_rfl
theorem zer82:(Tryz.prog.info? 82).bind (·.zero) = some (ty82.zero.val fun _=>0):=by kernel_rfl
def ty85:TyX:={ desc:=.struct #[{ name:= "x",type:=67,offset:=0,embedded:=false,tag:= "",pkgPath:= pkP0,byteOffset:=0 },{ name:= "y",type:=67,offset:=6,embedded:=false,tag:= "",pkgPath:= pkP0,byteOffset:=48 },{ name:= "zero",type:=4,offset:=12,embedded:=false,tag:= "",pkgPath:= pkP0,byteOffset:=96 }],sz:=13,zero:=.agg [.ws .u64 6 fun _=>0,.ws .u64 6 fun _=>0,.one (.bo false)],flat:=some ((List.replicate 6 [some .u64]).flatten ++ ((List.replicate 6 [some .u64]).flatten ++ ([none] ++ []))) }
theorem und85:Tryz.prog.underlying 85 = some ty85.desc:=by kernel_rfl
theorem siz85:(Tryz.prog.info? 85).map (·.size) = some ty85.sz:=by kernel_rfl
theorem zer85:(Tryz.prog.info? 85).bind (·.zero) = some (ty85.zero.val fun _=>0):=by kernel_rfl
def ty86:TyX:={ desc:=.struct #[{ name:= "x",type:=67,offset:=0,embedded:=false,tag:= "",pkgPath:= pkP0,byteOffset:=0 },{ name:= "y",type:=67,offset:=6,embedded:=false,tag:= "",pkgPath:= pkP0,byteOffset:=48 },{ name:= "zero",type:=4,offset:=12,embedded:=false,tag:= "",pkgPath:= pkP0,byteOffset:=96 }],sz:=13,zero:=.agg [.ws .u64 6 fun _=>0,.ws .u64 6 fun _=>0,.one (.bo false)],flat:=some ((List.replicate 6 [some .u64]).flatten ++ ((List.replicate 6 [some .u64]).flatten ++ ([none] ++ []))) }
theorem und86:Tryz.prog.underlying 86 = some ty86.desc:=by kernel_rfl
theorem siz86:(Tryz.prog.info? 86).map (·.size) = some ty86.sz:=by kernel_rfl
theorem zer86:(Tryz.prog.info? 86).bind (·.zero) = some (ty86.zero.val fun _=>0):=by kernel_rfl
def ty88:TyX:={ desc:=.func #[69,69] #[69] false,sz:=1,zero:=.sc ((.rw .nilFunc)),flat:=none }
theorem und88:Tryz.prog.underlying 88 = some ty88.desc:=by kernel_rfl
theorem siz88:(Tryz.prog.info? 88).map (·.size) = some ty88.sz:=by kernel_rfl
theorem zer88:(Tryz.prog.info? 88).bind (·.zero) = some (ty88.zero.val fun _=>0):=by kernel_rfl
def ty89:TyX:={ desc:=.func #[69] #[69] false,sz:=1,zero:=.sc ((.rw .nilFunc)),flat:=none }
theorem und89:Tryz.prog.underlying 89 = some ty89.desc:=by kernel_rfl
theorem siz89:(Tryz.prog.info? 89).map (·.size) = some ty89.sz:=by kernel_rfl
theorem zer89:(Tryz.prog.info? 89).bind (·.zero) = some (ty89.zero.val fun _=>0):=by kernel_rfl
def ty90:TyX:={ desc:=.struct #[{ name:= "add",type:=88,offset:=0,embedded:=false,tag:= "",pkgPath:= pkP0,byteOffset:=0 },{ name:= "sub",type:=88,offset:=1,embedded:=false,tag:= "",pkgPath:= pkP0,byteOffset:=8 },{ name:= "mul",type:=88,offset:=2,embedded:=false,tag:= "",pkgPath:= pkP0,byteOffset:=16 },{ name:= "inv",type:=89,offset:=3,embedded:=false,tag:= "",pkgPath:= pkP0,byteOffset:=24 },{ name:= "one",type:=69,offset:=4,embedded:=false,tag:= "",pkgPath:= pkP0,byteOffset:=32 },{ name:= "b",type:=69,offset:=16,embedded:=false,tag:= "",pkgPath:= pkP0,byteOffset:=128 }],sz:=28,zero:=.agg [.one (.rw .nilFunc),.one (.rw .nilFunc),.one (.rw .nilFunc),.one (.rw .nilFunc),.ws .u64 6 fun _=>0,.ws .u64 6 fun _=>0,.ws .u64 6 fun _=>0,.ws .u64 6 fun _=>0],flat:=none }
theorem und90:Tryz.prog.underlying 90 = some ty90.desc:=by kernel_rfl
theorem siz90:(Tryz.prog.info? 90).map (·.size) = some ty90.sz:=by kernel_rfl
theorem zer90:(Tryz.prog.info? 90).bind (·.zero) = some (ty90.zero.val fun _=>0):=by kernel_rfl
def ty91:TyX:={ desc:=.struct #[{ name:= "add",type:=88,offset:=0,embedded:=false,tag:= "",pkgPath:= pkP0,byteOffset:=0 },{ name:= "sub",type:=88,offset:=1,embedded:=false,tag:= "",pkgPath:= pkP0,byteOffset:=8 },{ name:= "mul",type:=88,offset:=2,embedded:=false,tag:= "",pkgPath:= pkP0,byteOffset:=16 },{ name:= "inv",type:=89,offset:=3,embedded:=false,tag:= "",pkgPath:= pkP0,byteOffset:=24 },{ name:= "one",type:=69,offset:=4,embedded:=false,tag:= "",pkgPath:= pkP0,byteOffset:=32 },{ name:= "b",type:=69,offset:=16,embedded:=false,tag:= "",pkgPath:= pkP0,byteOffset:=128 }],sz:=28,zero:=.agg [.one (.rw .nilFunc),.one (.rw .nilFunc),.one (.rw .nilFunc),.one (.rw .nilFunc),.ws .u64 6 fun _=>0,.ws .u64 6 fun _=>0,.ws .u64 6 fun _=>0,.ws .u64 6 fun _=>0],flat:=none }
theorem und91:Tryz.prog.underlying 91 = some ty91.desc:=by kernel_rfl
theorem siz91:(Tryz.prog.info? 91).map (·.size) = some ty91.sz:=by kernel_rfl
theorem zer91:(Tryz.prog.info? 91).bind (·.zero) = some (ty91.zero.val fun _=>0):=by kernel_rfl
def ty94:TyX:={ desc:=.struct #[{ name:= "x",type:=69,offset:=0,embedded:=false,tag:= "",pkgPath:= pkP0,byteOffset:=0 },{ name:= "y",type:=69,offset:=12,embedded:=false,tag:= "",pkgPath:= pkP0,byteOffset:=96 },{ name:= "zero",type:=4,offset:=24,embedded:=false,tag:= "",pkgPath:= pkP0,byteOffset:=192 }],sz:=25,zero:=.agg [.ws .u64 6 fun _=>0,.ws .u64 6 fun _=>0,.ws .u64 6 fun _=>0,.ws .u64 6 fun _=>0,.one (.bo false)],flat:=some ((List.replicate 2 (List.replicate 6 [some .u64]).flatten).flatten ++ ((List.replicate 2 (List.replicate 6 [some .u64]).flatten).flatten ++ ([none] ++ []))) }
theorem und94:Tryz.prog.underlying 94 = some ty94.desc:=by kernel_rfl
theorem siz94:(Tryz.prog.info? 94).map (·.size) = some ty94.sz:=by kernel_rfl
theorem zer94:(Tryz.prog.info? 94).bind (·.zero) = some (ty94.zero.val fun _=>0):=by kernel_rfl
def ty95:TyX:={ desc:=.struct #[{ name:= "x",type:=69,offset:=0,embedded:=false,tag:= "",pkgPath:= pkP0,byteOffset:=0 },{ name:= "y",type:=69,offset:=12,embedded:=false,tag:= "",pkgPath:= pkP0,byteOffset:=96 },{ name:= "zero",type:=4,offset:=24,embedded:=false,tag:= "",pkgPath:= pkP0,byteOffset:=192 }],sz:=25,zero:=.agg [.ws .u64 6 fun _=>0,.ws .u64 6 fun _=>0,.ws .u64 6 fun _=>0,.ws .u64 6 fun _=>0,.one (.bo false)],flat:=some ((List.replicate 2 (List.replicate 6 [some .u64]).flatten).flatten ++ ((List.replicate 2 (List.replicate 6 [some .u64]).flatten).flatten ++ ([none] ++ []))) }
theorem und95:Tryz.prog.underlying 95 = some ty95.desc:=by kernel_rfl
theorem siz95:(Tryz.prog.info? 95).map (·.size) = some ty95.sz:=by kernel_rfl
theorem zer95:(Tryz.prog.info? 95).bind (·.zero) = some (ty95.zero.val fun _=>0):=by kernel_rfl
def ty98:TyX:={ desc:=.slice 24,sz:=1,zero:=.sc ((.rw (.slice none 0 0))),flat:=none }
theorem und98:Tryz.prog.underlying 98 = some ty98.desc:=by kernel_rfl
theorem siz98:(Tryz.prog.info? 98).map (·.size) = some ty98.sz:=by kernel_rfl
theorem zer98:(Tryz.prog.info? 98).bind (·.zero) = some (ty98.zero.val fun _=>0):=by kernel_rfl
def ty101:TyX:={ desc:=.array 12 22,sz:=12,zero:=.agg [.ws .u64 12 fun _=>0],flat:=some (List.replicate 12 [some .u64]).flatten }
theorem und101:Tryz.prog.underlying 101 = some ty101.desc:=by kernel_rfl
theorem siz101:(Tryz.prog.info? 101).map (·.size) = some ty101.sz:=by kernel_rfl
theorem zer101:(Tryz.prog.info? 101).bind (·.zero) = some (ty101.zero.val fun _=>0):=by kernel_rfl
def ty112:TyX:={ desc:=.slice 9,sz:=1,zero:=.sc ((.rw (.slice none 0 0))),flat:=none }
theorem und112:Tryz.prog.underlying 112 = some ty112.desc:=by kernel_rfl
theorem siz112:(Tryz.prog.info? 112).map (·.size) = some ty112.sz:=by kernel_rfl
theorem zer112:(Tryz.prog.info? 112).bind (·.zero) = some (ty112.zero.val fun _=>0):=by kernel_rfl
def ty117:TyX:={ desc:=.struct #[{ name:= "N",type:=24,offset:=0,embedded:=false,tag:= "",pkgPath:= "",byteOffset:=0 },{ name:= "Less",type:=22,offset:=6,embedded:=false,tag:= "",pkgPath:= "",byteOffset:=48 },{ name:= "Square",type:=24,offset:=7,embedded:=false,tag:= "",pkgPath:= "",byteOffset:=56 }],sz:=13,zero:=.agg [.ws .u64 6 fun _=>0,.one (.w .u64 0),.ws .u64 6 fun _=>0],flat:=some ((List.replicate 6 [some .u64]).flatten ++ ([some .u64] ++ ((List.replicate 6 [some .u64]).flatten ++ []))) }
theorem und117:Tryz.prog.underlying 117 = some ty117.desc:=by kernel_rfl
theorem siz117:(Tryz.prog.info? 117).map (·.size) = some ty117.sz:=by kernel_rfl
theorem zer117:(Tryz.prog.info? 117).bind (·.zero) = some (ty117.zero.val fun _=>0):=by kernel_rfl
def ty118:TyX:={ desc:=.struct #[{ name:= "N",type:=24,offset:=0,embedded:=false,tag:= "",pkgPath:= "",byteOffset:=0 },{ name:= "Less",type:=22,offset:=6,embedded:=false,tag:= "",pkgPath:= "",byteOffset:=48 },{ name:= "Square",type:=24,offset:=7,embedded:=false,tag:= "",pkgPath:= "",byteOffset:=56 }],sz:=13,zero:=.agg [.ws .u64 6 fun _=>0,.one (.w .u64 0),.ws .u64 6 fun _=>0],flat:=some ((List.replicate 6 [some .u64]).flatten ++ ([some .u64] ++ ((List.replicate 6 [some .u64]).flatten ++ []))) }
theorem und118:Tryz.prog.underlying 118 = some ty118.desc:=by kernel_rfl
theorem siz118:(Tryz.prog.info? 118).map (·.size) = some ty118.sz:=by kernel_rfl
theorem zer118:(Tryz.prog.info? 118).bind (·.zero) = some (ty118.zero.val fun _=>0):=by kernel_rfl
def ty132:TyX:={ desc:=.slice 71,sz:=1,zero:=.sc ((.rw (.slice none 0 0))),flat:=none }
theorem und132:Tryz.prog.underlying 132 = some ty132.desc:=by kernel_rfl
theorem siz132:(Tryz.prog.info? 132).map (·.size) = some ty132.sz:=by kernel_rfl
theorem zer132:(Tryz.prog.info? 132).bind (·.zero) = some (ty132.zero.val fun _=>0):=by kernel_rfl
def ty133:TyX:={ desc:=.array 11 28,sz:=132,zero:=.agg [.ws .u64 6 fun _=>0,.ws .u64 6 fun _=>0,.ws .u64 6 fun _=>0,.ws .u64 6 fun _=>0,.ws .u64 6 fun _=>0,.ws .u64 6 fun _=>0,.ws .u64 6 fun _=>0,.ws .u64 6 fun _=>0,.ws .u64 6 fun _=>0,.ws .u64 6 fun _=>0,.ws .u64 6 fun _=>0,.ws .u64 6 fun _=>0,.ws .u64 6 fun _=>0,.ws .u64 6 fun _=>0,.ws .u64 6 fun _=>0,.ws .u64 6 fun _=>0,.ws .u64 6 fun _=>0,.ws .u64 6 fun _=>0,.ws .u64 6 fun _=>0,.ws .u64 6 fun _=>0,.ws .u64 6 fun _=>0,.ws .u64 6 fun _=>0],flat:=some (List.replicate 11 (List.replicate 2 (List.replicate 6 [some .u64]).flatten).flatten).flatten }
theorem und133:Tryz.prog.underlying 133 = some ty133.desc:=by kernel_rfl
theorem siz133:(Tryz.prog.info? 133).map (·.size) = some ty133.sz:=by kernel_rfl
theorem zer133:(Tryz.prog.info? 133).bind (·.zero) = some (ty133.zero.val fun _=>0):=by kernel_rfl
def ty138:TyX:={ desc:=.struct #[{ name:= "x",type:=67,offset:=0,embedded:=false,tag:= "",pkgPath:= pkP0,byteOffset:=0 },{ name:= "y",type:=67,offset:=6,embedded:=false,tag:= "",pkgPath:= pkP0,byteOffset:=48 },{ name:= "z",type:=67,offset:=12,embedded:=false,tag:= "",pkgPath:= pkP0,byteOffset:=96 }],sz:=18,zero:=.agg [.ws .u64 6 fun _=>0,.ws .u64 6 fun _=>0,.ws .u64 6 fun _=>0],flat:=some ((List.replicate 6 [some .u64]).flatten ++ ((List.replicate 6 [some .u64]).flatten ++ ((List.replicate 6 [some .u64]).flatten ++ []))) }
theorem und138:Tryz.prog.underlying 138 = some ty138.desc:=by kernel_rfl
theorem siz138:(Tryz.prog.info? 138).map (·.size) = some ty138.sz:=by kernel_rfl
theorem zer138:(Tryz.prog.info? 138).bind (·.zero) = some (ty138.zero.val fun _=>0):=by kernel_rfl
def ty139:TyX:={ desc:=.struct #[{ name:= "x",type:=67,offset:=0,embedded:=false,tag:= "",pkgPath:= pkP0,byteOffset:=0 },{ name:= "y",type:=67,offset:=6,embedded:=false,tag:= "",pkgPath:= pkP0,byteOffset:=48 },{ name:= "z",type:=67,offset:=12,embedded:=false,tag:= "",pkgPath:= pkP0,byteOffset:=96 }],sz:=18,zero:=.agg [.ws .u64 6 fun _=>0,.ws .u64 6 fun _=>0,.ws .u64 6 fun _=>0],flat:=some ((List.replicate 6 [some .u64]).flatten ++ ((List.replicate 6 [some .u64]).flatten ++ ((List.replicate 6 [some .u64]).flatten ++ []))) }
theorem und139:Tryz.prog.underlying 139 = some ty139.desc:=by kernel_rfl
theorem siz139:(Tryz.prog.info? 139).map (·.size) = some ty139.sz:=by kernel_rfl
theorem zer139:(Tryz.prog.info? 139).bind (·.zero) = some (ty139.zero.val fun _=>0):=by kernel_rfl
def ty144:TyX:={ desc:=.struct #[{ name:= "x",type:=69,offset:=0,embedded:=false,tag:= "",pkgPath:= pkP0,byteOffset:=0 },{ name:= "y",type:=69,offset:=12,embedded:=false,tag:= "",pkgPath:= pkP0,byteOffset:=96 },{ name:= "z",type:=69,offset:=24,embedded:=false,tag:= "",pkgPath:= pkP0,byteOffset:=192 }],sz:=36,zero:=.agg [.ws .u64 6 fun _=>0,.ws .u64 6 fun _=>0,.ws .u64 6 fun _=>0,.ws .u64 6 fun _=>0,.ws .u64 6 fun _=>0,.ws .u64 6 fun _=>0],flat:=some ((List.replicate 2 (List.replicate 6 [some .u64]).flatten).flatten ++ ((List.replicate 2 (List.replicate 6 [some .u64]).flatten).flatten ++ ((List.replicate 2 (List.replicate 6 [some .u64]).flatten).flatten ++ []))) }
theorem und144:Tryz.prog.underlying 144 = some ty144.desc:=by kernel_rfl
theorem siz144:(Tryz.prog.info? 144).map (·.size) = some ty144.sz:=by kernel_rfl
theorem zer144:(Tryz.prog.info? 144).bind (·.zero) = some (ty144.zero.val fun _=>0):=by kernel_rfl
def ty145:TyX:={ desc:=.struct #[{ name:= "x",type:=69,offset:=0,embedded:=false,tag:= "",pkgPath:= pkP0,byteOffset:=0 },{ name:= "y",type:=69,offset:=12,embedded:=false,tag:= "",pkgPath:= pkP0,byteOffset:=96 },{ name:= "z",type:=69,offset:=24,embedded:=false,tag:= "",pkgPath:= pkP0,byteOffset:=192 }],sz:=36,zero:=.agg [.ws .u64 6 fun _=>0,.ws .u64 6 fun _=>0,.ws .u64 6 fun _=>0,.ws .u64 6 fun _=>0,.ws .u64 6 fun _=>0,.ws .u64 6 fun _=>0],flat:=some ((List.replicate 2 (List.replicate 6 [some .u64]).flatten).flatten ++ ((List.replicate 2 (List.replicate 6 [some .u64]).flatten).flatten ++ ((List.replicate 2 (List.replicate 6 [some .u64]).flatten).flatten ++ []))) }
theorem und145:Tryz.prog.underlying 145 = some ty145.desc:=by kernel_rfl
theorem siz145:(Tryz.prog.info? 145).map (·.size) = some ty145.sz:=by kernel_rfl
theorem zer145:(Tryz.prog.info? 145).bind (·.zero) = some (ty145.zero.val fun _=>0):=by kernel_rfl
def ty148:TyX:={ desc:=.slice 86,sz:=1,zero:=.sc ((.rw (.slice none 0 0))),flat:=none }
theorem und148:Tryz.prog.underlying 148 = some ty148.desc:=by kernel_rfl
theorem siz148:(Tryz.prog.info? 148).map (·.size) = some ty148.sz:=by kernel_rfl
theorem zer148:(Tryz.prog.info? 148).bind (·.zero) = some (ty148.zero.val fun _=>0):=by kernel_rfl
def ty151:TyX:={ desc:=.slice 95,sz:=1,zero:=.sc ((.rw (.slice none 0 0))),flat:=none }
theorem und151:Tryz.prog.underlying 151 = some ty151.desc:=by kernel_rfl
theorem siz151:(Tryz.prog.info? 151).map (·.size) = some ty151.sz:=by kernel_rfl
theorem zer151:(Tryz.prog.info? 151).bind (·.zero) = some (ty151.zero.val fun _=>0):=by kernel_rfl
def ty155:TyX:={ desc:=.array 3 69,sz:=36,zero:=.agg [.ws .u64 6 fun _=>0,.ws .u64 6 fun _=>0,.ws .u64 6 fun _=>0,.ws .u64 6 fun _=>0,.ws .u64 6 fun _=>0,.ws .u64 6 fun _=>0],flat:=some (List.replicate 3 (List.replicate 2 (List.replicate 6 [some .u64]).flatten).flatten).flatten }
theorem und155:Tryz.prog.underlying 155 = some ty155.desc:=by kernel_rfl
theorem siz155:(Tryz.prog.info? 155).map (·.size) = some ty155.sz:=by kernel_rfl
theorem zer155:(Tryz.prog.info? 155).bind (·.zero) = some (ty155.zero.val fun _=>0):=by kernel_rfl
def ty156:TyX:={ desc:=.array 3 69,sz:=36,zero:=.agg [.ws .u64 6 fun _=>0,.ws .u64 6 fun _=>0,.ws .u64 6 fun _=>0,.ws .u64 6 fun _=>0,.ws .u64 6 fun _=>0,.ws .u64 6 fun _=>0],flat:=some (List.replicate 3 (List.replicate 2 (List.replicate 6 [some .u64]).flatten).flatten).flatten }
theorem und156:Tryz.prog.underlying 156 = some ty156.desc:=by kernel_rfl
theorem siz156:(Tryz.prog.info? 156).map (·.size) = some ty156.sz:=by kernel_rfl
theorem zer156:(Tryz.prog.info? 156).bind (·.zero) = some (ty156.zero.val fun _=>0):=by kernel_rfl
def ty162:TyX:={ desc:=.int .u64,sz:=1,zero:=.sc ((.w .u64 0)),flat:=none }
theorem und162:Tryz.prog.underlying 162 = some ty162.desc:=by kernel_rfl
theorem siz162:(Tryz.prog.info? 162).map (·.size) = some ty162.sz:=by kernel_rfl
theorem zer162:(Tryz.prog.info? 162).bind (·.zero) = some (ty162.zero.val fun _=>0):=by kernel_rfl
def ty165:TyX:={ desc:=.pointer 167,sz:=1,zero:=.sc ((.rw (.pointer none))),flat:=none }
theorem und165:Tryz.prog.underlying 165 = some ty165.desc:=by kernel_rfl
theorem siz165:(Tryz.prog.info? 165).map (·.size) = some ty165.sz:=by kernel_rfl
theorem zer165:(Tryz.prog.info? 165).bind (·.zero) = some (ty165.zero.val fun _=>0):=by kernel_rfl
def pkP1 : String := String.ofList ([114,101,108,105,113,117,97,114,121,47,112,97,105,114,105,110,103].map Char.ofNat)
def ty166:TyX:={ desc:=.struct #[{ name:= "px",type:=67,offset:=0,embedded:=false,tag:= "",pkgPath:= pkP1,byteOffset:=0 },{ name:= "py",type:=67,offset:=6,embedded:=false,tag:= "",pkgPath:= pkP1,byteOffset:=48 },{ name:= "qx",type:=69,offset:=12,embedded:=false,tag:= "",pkgPath:= pkP1,byteOffset:=96 },{ name:= "qy",type:=69,offset:=24,embedded:=false,tag:= "",pkgPath:= pkP1,byteOffset:=192 },{ name:= "tx",type:=69,offset:=36,embedded:=false,tag:= "",pkgPath:= pkP1,byteOffset:=288 },{ name:= "ty",type:=69,offset:=48,embedded:=false,tag:= "",pkgPath:= pkP1,byteOffset:=384 },{ name:= "f",type:=71,offset:=60,embedded:=false,tag:= "",pkgPath:= pkP1,byteOffset:=480 }],sz:=132,zero:=.agg [.ws .u64 6 fun _=>0,.ws .u64 6 fun _=>0,.ws .u64 6 fun _=>0,.ws .u64 6 fun _=>0,.ws .u64 6 fun _=>0,.ws .u64 6 fun _=>0,.ws .u64 6 fun _=>0,.ws .u64 6 fun _=>0,.ws .u64 6 fun _=>0,.ws .u64 6 fun _=>0,.ws .u64 6 fun _=>0,.ws .u64 6 fun _=>0,.ws .u64 6 fun _=>0,.ws .u64 6 fun _=>0,.ws .u64 6 fun _=>0,.ws .u64 6 fun _=>0,.ws .u64 6 fun _=>0,.ws .u64 6 fun _=>0,.ws .u64 6 fun _=>0,.ws .u64 6 fun _=>0,.ws .u64 6 fun _=>0,.ws .u64 6 fun _=>0],flat:=some ((List.replicate 6 [some .u64]).flatten ++ ((List.replicate 6 [some .u64]).flatten ++ ((List.replicate 2 (List.replicate 6 [some .u64]).flatten).flatten ++ ((List.replicate 2 (List.replicate 6 [some .u64]).flatten).flatten ++ ((List.replicate 2 (List.replicate 6 [some .u64]).flatten).flatten ++ ((List.replicate 2 (List.replicate 6 [some .u64]).flatten).flatten ++ ((List.replicate 6 (List.replicate 2 (List.replicate 6 [some .u64]).flatten).flatten).flatten ++ []))))))) }
theorem und166:Tryz.prog.underlying 166 = some ty166.desc:=by kernel_rfl
theorem siz166:(Tryz.prog.info? 166).map (·.size) = some ty166.sz:=by kernel_rfl
theorem zer166:(Tryz.prog.info? 166).bind (·.zero) = some (ty166.zero.val fun _=>0):=by kernel_rfl
def ty167:TyX:={ desc:=.struct #[{ name:= "px",type:=67,offset:=0,embedded:=false,tag:= "",pkgPath:= pkP1,byteOffset:=0 },{ name:= "py",type:=67,offset:=6,embedded:=false,tag:= "",pkgPath:= pkP1,byteOffset:=48 },{ name:= "qx",type:=69,offset:=12,embedded:=false,tag:= "",pkgPath:= pkP1,byteOffset:=96 },{ name:= "qy",type:=69,offset:=24,embedded:=false,tag:= "",pkgPath:= pkP1,byteOffset:=192 },{ name:= "tx",type:=69,offset:=36,embedded:=false,tag:= "",pkgPath:= pkP1,byteOffset:=288 },{ name:= "ty",type:=69,offset:=48,embedded:=false,tag:= "",pkgPath:= pkP1,byteOffset:=384 },{ name:= "f",type:=71,offset:=60,embedded:=false,tag:= "",pkgPath:= pkP1,byteOffset:=480 }],sz:=132,zero:=.agg [.ws .u64 6 fun _=>0,.ws .u64 6 fun _=>0,.ws .u64 6 fun _=>0,.ws .u64 6 fun _=>0,.ws .u64 6 fun _=>0,.ws .u64 6 fun _=>0,.ws .u64 6 fun _=>0,.ws .u64 6 fun _=>0,.ws .u64 6 fun _=>0,.ws .u64 6 fun _=>0,.ws .u64 6 fun _=>0,.ws .u64 6 fun _=>0,.ws .u64 6 fun _=>0,.ws .u64 6 fun _=>0,.ws .u64 6 fun _=>0,.ws .u64 6 fun _=>0,.ws .u64 6 fun _=>0,.ws .u64 6 fun _=>0,.ws .u64 6 fun _=>0,.ws .u64 6 fun _=>0,.ws .u64 6 fun _=>0,.ws .u64 6 fun _=>0],flat:=some ((List.replicate 6 [some .u64]).flatten ++ ((List.replicate 6 [some .u64]).flatten ++ ((List.replicate 2 (List.replicate 6 [some .u64]).flatten).flatten ++ ((List.replicate 2 (List.replicate 6 [some .u64]).flatten).flatten ++ ((List.replicate 2 (List.replicate 6 [some .u64]).flatten).flatten ++ ((List.replicate 2 (List.replicate 6 [some .u64]).flatten).flatten ++ ((List.replicate 6 (List.replicate 2 (List.replicate 6 [some .u64]).flatten).flatten).flatten ++ []))))))) }
theorem und167:Tryz.prog.underlying 167 = some ty167.desc:=by kernel_rfl
theorem siz167:(Tryz.prog.info? 167).map (·.size) = some ty167.sz:=by kernel_rfl
theorem zer167:(Tryz.prog.info? 167).bind (·.zero) = some (ty167.zero.val fun _=>0):=by kernel_rfl
def ty171:TyX:={ desc:=.slice 5,sz:=1,zero:=.sc ((.rw (.slice none 0 0))),flat:=none }
theorem und171:Tryz.prog.underlying 171 = some ty171.desc:=by kernel_rfl
theorem siz171:(Tryz.prog.info? 171).map (·.size) = some ty171.sz:=by kernel_rfl
theorem zer171:(Tryz.prog.info? 171).bind (·.zero) = some (ty171.zero.val fun _=>0):=by kernel_rfl
def pkP2 : String := String.ofList ([114,101,108,105,113,117,97,114,121,47,114,101,108,105,113,117,97,114,121,114,101,102,48,52].map Char.ofNat)
def ty172:TyX:={ desc:=.struct #[{ name:= "x",type:=28,offset:=0,embedded:=false,tag:= "",pkgPath:= pkP2,byteOffset:=0 },{ name:= "y",type:=28,offset:=12,embedded:=false,tag:= "",pkgPath:= pkP2,byteOffset:=96 },{ name:= "z",type:=28,offset:=24,embedded:=false,tag:= "",pkgPath:= pkP2,byteOffset:=192 },{ name:= "one",type:=4,offset:=36,embedded:=false,tag:= "",pkgPath:= pkP2,byteOffset:=288 }],sz:=37,zero:=.agg [.ws .u64 6 fun _=>0,.ws .u64 6 fun _=>0,.ws .u64 6 fun _=>0,.ws .u64 6 fun _=>0,.ws .u64 6 fun _=>0,.ws .u64 6 fun _=>0,.one (.bo false)],flat:=some ((List.replicate 2 (List.replicate 6 [some .u64]).flatten).flatten ++ ((List.replicate 2 (List.replicate 6 [some .u64]).flatten).flatten ++ ((List.replicate 2 (List.replicate 6 [some .u64]).flatten).flatten ++ ([none] ++ [])))) }
theorem und172:Tryz.prog.underlying 172 = some ty172.desc:=by kernel_rfl
theorem siz172:(Tryz.prog.info? 172).map (·.size) = some ty172.sz:=by kernel_rfl
theorem zer172:(Tryz.prog.info? 172).bind (·.zero) = some (ty172.zero.val fun _=>0):=by kernel_rfl
def ty173:TyX:={ desc:=.struct #[{ name:= "x",type:=28,offset:=0,embedded:=false,tag:= "",pkgPath:= pkP2,byteOffset:=0 },{ name:= "y",type:=28,offset:=12,embedded:=false,tag:= "",pkgPath:= pkP2,byteOffset:=96 },{ name:= "z",type:=28,offset:=24,embedded:=false,tag:= "",pkgPath:= pkP2,byteOffset:=192 },{ name:= "one",type:=4,offset:=36,embedded:=false,tag:= "",pkgPath:= pkP2,byteOffset:=288 }],sz:=37,zero:=.agg [.ws .u64 6 fun _=>0,.ws .u64 6 fun _=>0,.ws .u64 6 fun _=>0,.ws .u64 6 fun _=>0,.ws .u64 6 fun _=>0,.ws .u64 6 fun _=>0,.one (.bo false)],flat:=some ((List.replicate 2 (List.replicate 6 [some .u64]).flatten).flatten ++ ((List.replicate 2 (List.replicate 6 [some .u64]).flatten).flatten ++ ((List.replicate 2 (List.replicate 6 [some .u64]).flatten).flatten ++ ([none] ++ [])))) }
theorem und173:Tryz.prog.underlying 173 = some ty173.desc:=by kernel_rfl
theorem siz173:(Tryz.prog.info? 173).map (·.size) = some ty173.sz:=by kernel_rfl
theorem zer173:(Tryz.prog.info? 173).bind (·.zero) = some (ty173.zero.val fun _=>0):=by kernel_rfl
def ty183:TyX:={ desc:=.array 7 22,sz:=7,zero:=.agg [.ws .u64 7 fun _=>0],flat:=some (List.replicate 7 [some .u64]).flatten }
theorem und183:Tryz.prog.underlying 183 = some ty183.desc:=by kernel_rfl
theorem siz183:(Tryz.prog.info? 183).map (·.size) = some ty183.sz:=by kernel_rfl
theorem zer183:(Tryz.prog.info? 183).bind (·.zero) = some (ty183.zero.val fun _=>0):=by kernel_rfl
def ty197:TyX:={ desc:=.array 8 22,sz:=8,zero:=.agg [.ws .u64 8 fun _=>0],flat:=some (List.replicate 8 [some .u64]).flatten }
theorem und197:Tryz.prog.underlying 197 = some ty197.desc:=by kernel_rfl
theorem siz197:(Tryz.prog.info? 197).map (·.size) = some ty197.sz:=by kernel_rfl
theorem zer197:(Tryz.prog.info? 197).bind (·.zero) = some (ty197.zero.val fun _=>0):=by kernel_rfl
def ty199:TyX:={ desc:=.pointer 197,sz:=1,zero:=.sc ((.rw (.pointer none))),flat:=none }
theorem und199:Tryz.prog.underlying 199 = some ty199.desc:=by kernel_rfl
theorem siz199:(Tryz.prog.info? 199).map (·.size) = some ty199.sz:=by kernel_rfl
theorem zer199:(Tryz.prog.info? 199).bind (·.zero) = some (ty199.zero.val fun _=>0):=by kernel_rfl
def ty206:TyX:={ desc:=.array 0 16,sz:=0,zero:=.agg [],flat:=none }
theorem und206:Tryz.prog.underlying 206 = some ty206.desc:=by kernel_rfl
theorem siz206:(Tryz.prog.info? 206).map (·.size) = some ty206.sz:=by kernel_rfl
theorem zer206:(Tryz.prog.info? 206).bind (·.zero) = some (ty206.zero.val fun _=>0):=by kernel_rfl
def ty210:TyX:={ desc:=.int .u32,sz:=1,zero:=.sc ((.w .u32 0)),flat:=none }
theorem und210:Tryz.prog.underlying 210 = some ty210.desc:=by kernel_rfl
theorem siz210:(Tryz.prog.info? 210).map (·.size) = some ty210.sz:=by kernel_rfl
theorem zer210:(Tryz.prog.info? 210).bind (·.zero) = some (ty210.zero.val fun _=>0):=by kernel_rfl
def ty213:TyX:={ desc:=.func #[220,220] #[4] false,sz:=1,zero:=.sc ((.rw .nilFunc)),flat:=none }
theorem und213:Tryz.prog.underlying 213 = some ty213.desc:=by kernel_rfl
theorem siz213:(Tryz.prog.info? 213).map (·.size) = some ty213.sz:=by kernel_rfl
theorem zer213:(Tryz.prog.info? 213).bind (·.zero) = some (ty213.zero.val fun _=>0):=by kernel_rfl
def ty214:TyX:={ desc:=.pointer 5,sz:=1,zero:=.sc ((.rw (.pointer none))),flat:=none }
theorem und214:Tryz.prog.underlying 214 = some ty214.desc:=by kernel_rfl
theorem siz214:(Tryz.prog.info? 214).map (·.size) = some ty214.sz:=by kernel_rfl
theorem zer214:(Tryz.prog.info? 214).bind (·.zero) = some (ty214.zero.val fun _=>0):=by kernel_rfl
theorem eq22:EqOk Tryz.prog 1 22 false [some .u64]:=eqOk_int und22 siz22
theorem eq4:EqOk Tryz.prog 1 4 false [none]:=eqOk_bool und4 siz4
theorem eq23:EqOk Tryz.prog 2 23 true (List.replicate 6 [some .u64]).flatten:=eqOk_arr (n:=6) eq22 und23 siz23 siz22
theorem eq24:EqOk Tryz.prog 2 24 true (List.replicate 6 [some .u64]).flatten:=eqOk_arr (n:=6) eq22 und24 siz24 siz22
theorem eq67:EqOk Tryz.prog 2 67 true (List.replicate 6 [some .u64]).flatten:=eqOk_arr (n:=6) eq22 und67 siz67 siz22
theorem eq101:EqOk Tryz.prog 2 101 true (List.replicate 12 [some .u64]).flatten:=eqOk_arr (n:=12) eq22 und101 siz101 siz22
theorem eq183:EqOk Tryz.prog 2 183 true (List.replicate 7 [some .u64]).flatten:=eqOk_arr (n:=7) eq22 und183 siz183 siz22
theorem eq197:EqOk Tryz.prog 2 197 true (List.replicate 8 [some .u64]).flatten:=eqOk_arr (n:=8) eq22 und197 siz197 siz22
theorem eq25:EqOk Tryz.prog 3 25 true ((List.replicate 6 [some .u64]).flatten ++ ((List.replicate 6 [some .u64]).flatten ++ ([none] ++ []))):=eqOk_struct (D:=2) (fs:=match ty25.desc with | .struct fs=>fs | _=>#[]) (.cons (by decide) rfl (eq24.mono (by decide)) <| .cons (by decide) rfl (eq24.mono (by decide)) <| .cons (by decide) rfl (eq4.mono (by decide)) <| .nil _) und25 siz25 (by kernel_rfl)
theorem eq26:EqOk Tryz.prog 3 26 true ((List.replicate 6 [some .u64]).flatten ++ ((List.replicate 6 [some .u64]).flatten ++ ([none] ++ []))):=eqOk_struct (D:=2) (fs:=match ty26.desc with | .struct fs=>fs | _=>#[]) (.cons (by decide) rfl (eq24.mono (by decide)) <| .cons (by decide) rfl (eq24.mono (by decide)) <| .cons (by decide) rfl (eq4.mono (by decide)) <| .nil _) und26 siz26 (by kernel_rfl)
theorem eq27:EqOk Tryz.prog 3 27 true (List.replicate 2 (List.replicate 6 [some .u64]).flatten).flatten:=eqOk_arr (n:=2) eq24 und27 siz27 siz24
theorem eq28:EqOk Tryz.prog 3 28 true (List.replicate 2 (List.replicate 6 [some .u64]).flatten).flatten:=eqOk_arr (n:=2) eq24 und28 siz28 siz24
theorem eq68:EqOk Tryz.prog 3 68 true (List.replicate 2 (List.replicate 6 [some .u64]).flatten).flatten:=eqOk_arr (n:=2) eq67 und68 siz68 siz67
theorem eq69:EqOk Tryz.prog 3 69 true (List.replicate 2 (List.replicate 6 [some .u64]).flatten).flatten:=eqOk_arr (n:=2) eq67 und69 siz69 siz67
theorem eq85:EqOk Tryz.prog 3 85 true ((List.replicate 6 [some .u64]).flatten ++ ((List.replicate 6 [some .u64]).flatten ++ ([none] ++ []))):=eqOk_struct (D:=2) (fs:=match ty85.desc with | .struct fs=>fs | _=>#[]) (.cons (by decide) rfl (eq67.mono (by decide)) <| .cons (by decide) rfl (eq67.mono (by decide)) <| .cons (by decide) rfl (eq4.mono (by decide)) <| .nil _) und85 siz85 (by kernel_rfl)
theorem eq86:EqOk Tryz.prog 3 86 true ((List.replicate 6 [some .u64]).flatten ++ ((List.replicate 6 [some .u64]).flatten ++ ([none] ++ []))):=eqOk_struct (D:=2) (fs:=match ty86.desc with | .struct fs=>fs | _=>#[]) (.cons (by decide) rfl (eq67.mono (by decide)) <| .cons (by decide) rfl (eq67.mono (by decide)) <| .cons (by decide) rfl (eq4.mono (by decide)) <| .nil _) und86 siz86 (by kernel_rfl)
theorem eq117:EqOk Tryz.prog 3 117 true ((List.replicate 6 [some .u64]).flatten ++ ([some .u64] ++ ((List.replicate 6 [some .u64]).flatten ++ []))):=eqOk_struct (D:=2) (fs:=match ty117.desc with | .struct fs=>fs | _=>#[]) (.cons (by decide) rfl (eq24.mono (by decide)) <| .cons (by decide) rfl (eq22.mono (by decide)) <| .cons (by decide) rfl (eq24.mono (by decide)) <| .nil _) und117 siz117 (by kernel_rfl)
theorem eq118:EqOk Tryz.prog 3 118 true ((List.replicate 6 [some .u64]).flatten ++ ([some .u64] ++ ((List.replicate 6 [some .u64]).flatten ++ []))):=eqOk_struct (D:=2) (fs:=match ty118.desc with | .struct fs=>fs | _=>#[]) (.cons (by decide) rfl (eq24.mono (by decide)) <| .cons (by decide) rfl (eq22.mono (by decide)) <| .cons (by decide) rfl (eq24.mono (by decide)) <| .nil _) und118 siz118 (by kernel_rfl)
theorem eq138:EqOk Tryz.prog 3 138 true ((List.replicate 6 [some .u64]).flatten ++ ((List.replicate 6 [some .u64]).flatten ++ ((List.replicate 6 [some .u64]).flatten ++ []))):=eqOk_struct (D:=2) (fs:=match ty138.desc with | .struct fs=>fs | _=>#[]) (.cons (by decide) rfl (eq67.mono (by decide)) <| .cons (by decide) rfl (eq67.mono (by decide)) <| .cons (by decide) rfl (eq67.mono (by decide)) <| .nil _) und138 siz138 (by kernel_rfl)
theorem eq139:EqOk Tryz.prog 3 139 true ((List.replicate 6 [some .u64]).flatten ++ ((List.replicate 6 [some .u64]).flatten ++ ((List.replicate 6 [some .u64]).flatten ++ []))):=eqOk_struct (D:=2) (fs:=match ty139.desc with | .struct fs=>fs | _=>#[]) (.cons (by decide) rfl (eq67.mono (by decide)) <| .cons (by decide) rfl (eq67.mono (by decide)) <| .cons (by decide) rfl (eq67.mono (by decide)) <| .nil _) und139 siz139 (by kernel_rfl)
theorem eq29:EqOk Tryz.prog 4 29 true ((List.replicate 2 (List.replicate 6 [some .u64]).flatten).flatten ++ ((List.replicate 2 (List.replicate 6 [some .u64]).flatten).flatten ++ ([none] ++ []))):=eqOk_struct (D:=3) (fs:=match ty29.desc with | .struct fs=>fs | _=>#[]) (.cons (by decide) rfl (eq28.mono (by decide)) <| .cons (by decide) rfl (eq28.mono (by decide)) <| .cons (by decide) rfl (eq4.mono (by decide)) <| .nil _) und29 siz29 (by kernel_rfl)
theorem eq30:EqOk Tryz.prog 4 30 true ((List.replicate 2 (List.replicate 6 [some .u64]).flatten).flatten ++ ((List.replicate 2 (List.replicate 6 [some .u64]).flatten).flatten ++ ([none] ++ []))):=eqOk_struct (D:=3) (fs:=match ty30.desc with | .struct fs=>fs | _=>#[]) (.cons (by decide) rfl (eq28.mono (by decide)) <| .cons (by decide) rfl (eq28.mono (by decide)) <| .cons (by decide) rfl (eq4.mono (by decide)) <| .nil _) und30 siz30 (by kernel_rfl)
theorem eq31:EqOk Tryz.prog 4 31 true (List.replicate 6 (List.replicate 2 (List.replicate 6 [some .u64]).flatten).flatten).flatten:=eqOk_arr (n:=6) eq28 und31 siz31 siz28
theorem eq32:EqOk Tryz.prog 4 32 true (List.replicate 6 (List.replicate 2 (List.replicate 6 [some .u64]).flatten).flatten).flatten:=eqOk_arr (n:=6) eq28 und32 siz32 siz28
theorem eq70:EqOk Tryz.prog 4 70 true (List.replicate 6 (List.replicate 2 (List.replicate 6 [some .u64]).flatten).flatten).flatten:=eqOk_arr (n:=6) eq69 und70 siz70 siz69
theorem eq71:EqOk Tryz.prog 4 71 true (List.replicate 6 (List.replicate 2 (List.replicate 6 [some .u64]).flatten).flatten).flatten:=eqOk_arr (n:=6) eq69 und71 siz71 siz69
theorem eq94:EqOk Tryz.prog 4 94 true ((List.replicate 2 (List.replicate 6 [some .u64]).flatten).flatten ++ ((List.replicate 2 (List.replicate 6 [some .u64]).flatten).flatten ++ ([none] ++ []))):=eqOk_struct (D:=3) (fs:=match ty94.desc with | .struct fs=>fs | _=>#[]) (.cons (by decide) rfl (eq69.mono (by decide)) <| .cons (by decide) rfl (eq69.mono (by decide)) <| .cons (by decide) rfl (eq4.mono (by decide)) <| .nil _) und94 siz94 (by kernel_rfl)
theorem eq95:EqOk Tryz.prog 4 95 true ((List.replicate 2 (List.replicate 6 [some .u64]).flatten).flatten ++ ((List.replicate 2 (List.replicate 6 [some .u64]).flatten).flatten ++ ([none] ++ []))):=eqOk_struct (D:=3) (fs:=match ty95.desc with | .struct fs=>fs | _=>#[]) (.cons (by decide) rfl (eq69.mono (by decide)) <| .cons (by decide) rfl (eq69.mono (by decide)) <| .cons (by decide) rfl (eq4.mono (by decide)) <| .nil _) und95 siz95 (by kernel_rfl)
theorem eq133:EqOk Tryz.prog 4 133 true (List.replicate 11 (List.replicate 2 (List.replicate 6 [some .u64]).flatten).flatten).flatten:=eqOk_arr (n:=11) eq28 und133 siz133 siz28
theorem eq144:EqOk Tryz.prog 4 144 true ((List.replicate 2 (List.replicate 6 [some .u64]).flatten).flatten ++ ((List.replicate 2 (List.replicate 6 [some .u64]).flatten).flatten ++ ((List.replicate 2 (List.replicate 6 [some .u64]).flatten).flatten ++ []))):=eqOk_struct (D:=3) (fs:=match ty144.desc with | .struct fs=>fs | _=>#[]) (.cons (by decide) rfl (eq69.mono (by decide)) <| .cons (by decide) rfl (eq69.mono (by decide)) <| .cons (by decide) rfl (eq69.mono (by decide)) <| .nil _) und144 siz144 (by kernel_rfl)
theorem eq145:EqOk Tryz.prog 4 145 true ((List.replicate 2 (List.replicate 6 [some .u64]).flatten).flatten ++ ((List.replicate 2 (List.replicate 6 [some .u64]).flatten).flatten ++ ((List.replicate 2 (List.replicate 6 [some .u64]).flatten).flatten ++ []))):=eqOk_struct (D:=3) (fs:=match ty145.desc with | .struct fs=>fs | _=>#[]) (.cons (by decide) rfl (eq69.mono (by decide)) <| .cons (by decide) rfl (eq69.mono (by decide)) <| .cons (by decide) rfl (eq69.mono (by decide)) <| .nil _) und145 siz145 (by kernel_rfl)
theorem eq155:EqOk Tryz.prog 4 155 true (List.replicate 3 (List.replicate 2 (List.replicate 6 [some .u64]).flatten).flatten).flatten:=eqOk_arr (n:=3) eq69 und155 siz155 siz69
theorem eq156:EqOk Tryz.prog 4 156 true (List.replicate 3 (List.replicate 2 (List.replicate 6 [some .u64]).flatten).flatten).flatten:=eqOk_arr (n:=3) eq69 und156 siz156 siz69
theorem eq172:EqOk Tryz.prog 4 172 true ((List.replicate 2 (List.replicate 6 [some .u64]).flatten).flatten ++ ((List.replicate 2 (List.replicate 6 [some .u64]).flatten).flatten ++ ((List.replicate 2 (List.replicate 6 [some .u64]).flatten).flatten ++ ([none] ++ [])))):=eqOk_struct (D:=3) (fs:=match ty172.desc with | .struct fs=>fs | _=>#[]) (.cons (by decide) rfl (eq28.mono (by decide)) <| .cons (by decide) rfl (eq28.mono (by decide)) <| .cons (by decide) rfl (eq28.mono (by decide)) <| .cons (by decide) rfl (eq4.mono (by decide)) <| .nil _) und172 siz172 (by kernel_rfl)
theorem eq173:EqOk Tryz.prog 4 173 true ((List.replicate 2 (List.replicate 6 [some .u64]).flatten).flatten ++ ((List.replicate 2 (List.replicate 6 [some .u64]).flatten).flatten ++ ((List.replicate 2 (List.replicate 6 [some .u64]).flatten).flatten ++ ([none] ++ [])))):=eqOk_struct (D:=3) (fs:=match ty173.desc with | .struct fs=>fs | _=>#[]) (.cons (by decide) rfl (eq28.mono (by decide)) <| .cons (by decide) rfl (eq28.mono (by decide)) <| .cons (by decide) rfl (eq28.mono (by decide)) <| .cons (by decide) rfl (eq4.mono (by decide)) <| .nil _) und173 siz173 (by kernel_rfl)
theorem eq166:EqOk Tryz.prog 5 166 true ((List.replicate 6 [some .u64]).flatten ++ ((List.replicate 6 [some .u64]).flatten ++ ((List.replicate 2 (List.replicate 6 [some .u64]).flatten).flatten ++ ((List.replicate 2 (List.replicate 6 [some .u64]).flatten).flatten ++ ((List.replicate 2 (List.replicate 6 [some .u64]).flatten).flatten ++ ((List.replicate 2 (List.replicate 6 [some .u64]).flatten).flatten ++ ((List.replicate 6 (List.replicate 2 (List.replicate 6 [some .u64]).flatten).flatten).flatten ++ []))))))):=eqOk_struct (D:=4) (fs:=match ty166.desc with | .struct fs=>fs | _=>#[]) (.cons (by decide) rfl (eq67.mono (by decide)) <| .cons (by decide) rfl (eq67.mono (by decide)) <| .cons (by decide) rfl (eq69.mono (by decide)) <| .cons (by decide) rfl (eq69.mono (by decide)) <| .cons (by decide) rfl (eq69.mono (by decide)) <| .cons (by decide) rfl (eq69.mono (by decide)) <| .cons (by decide) rfl (eq71.mono (by decide)) <| .nil _) und166 siz166 (by kernel_rfl)
theorem eq167:EqOk Tryz.prog 5 167 true ((List.replicate 6 [some .u64]).flatten ++ ((List.replicate 6 [some .u64]).flatten ++ ((List.replicate 2 (List.replicate 6 [some .u64]).flatten).flatten ++ ((List.replicate 2 (List.replicate 6 [some .u64]).flatten).flatten ++ ((List.replicate 2 (List.replicate 6 [some .u64]).flatten).flatten ++ ((List.replicate 2 (List.replicate 6 [some .u64]).flatten).flatten ++ ((List.replicate 6 (List.replicate 2 (List.replicate 6 [some .u64]).flatten).flatten).flatten ++ []))))))):=eqOk_struct (D:=4) (fs:=match ty167.desc with | .struct fs=>fs | _=>#[]) (.cons (by decide) rfl (eq67.mono (by decide)) <| .cons (by decide) rfl (eq67.mono (by decide)) <| .cons (by decide) rfl (eq69.mono (by decide)) <| .cons (by decide) rfl (eq69.mono (by decide)) <| .cons (by decide) rfl (eq69.mono (by decide)) <| .cons (by decide) rfl (eq69.mono (by decide)) <| .cons (by decide) rfl (eq71.mono (by decide)) <| .nil _) und167 siz167 (by kernel_rfl)
def ttL:List (Option TyX):=[none,none,some ty2,some ty3,some ty4,some ty5,none,none,none,some ty9,none,none,some ty12,none,none,none,none,none,none,none,none,none,some ty22,some ty23,some ty24,some ty25,some ty26,some ty27,some ty28,some ty29,some ty30,some ty31,some ty32,some ty33,none,none,none,none,none,none,none,none,none,none,none,none,none,none,none,none,none,none,none,none,none,none,none,none,none,none,some ty60,some ty61,none,none,none,none,none,some ty67,some ty68,some ty69,some ty70,some ty71,none,none,none,none,some ty76,none,none,some ty79,some ty80,some ty81,some ty82,none,none,some ty85,some ty86,none,some ty88,some ty89,some ty90,some ty91,none,none,some ty94,some ty95,none,none,some ty98,none,none,some ty101,none,none,none,none,none,none,none,none,none,none,some ty112,none,none,none,none,some ty117,some ty118,none,none,none,none,none,none,none,none,none,none,none,none,none,some ty132,some ty133,none,none,none,none,some ty138,some ty139,none,none,none,none,some ty144,some ty145,none,none,some ty148,none,none,some ty151,none,none,none,some ty155,some ty156,none,none,none,none,none,some ty162,none,none,some ty165,some ty166,some ty167,none,none,none,some ty171,some ty172,some ty173,none,none,none,none,none,none,none,none,none,some ty183,none,none,none,none,none,none,none,none,none,none,none,none,none,some ty197,none,some ty199,none,none,none,none,none,none,some ty206,none,none,none,some ty210,none,none,some ty213,some ty214,none,none,none,none,none,none]
def tt:TT:=nthO ttL
theorem tt_ok:TTOk Tryz.prog tt:=ttOk_of (l:=ttL) (
 ⟨⟨und2,siz2,zer2,zok_of (by kernel_rfl),(fun sk h=>by cases h),by kernel_rfl,by kernel_rfl⟩,
 ⟨⟨und3,siz3,zer3,zok_of (by kernel_rfl),(fun sk h=>by cases h),by kernel_rfl,by kernel_rfl⟩,
 ⟨⟨und4,siz4,zer4,zok_of (by kernel_rfl),(fun sk h=>by cases h),by kernel_rfl,by kernel_rfl⟩,
 ⟨⟨und5,siz5,zer5,zok_of (by kernel_rfl),(fun sk h=>by cases h),by kernel_rfl,by kernel_rfl⟩,
 ⟨⟨und9,siz9,zer9,zok_of (by kernel_rfl),(fun sk h=>by cases h),by kernel_rfl,by kernel_rfl⟩,
 ⟨⟨und12,siz12,zer12,zok_of (by kernel_rfl),(fun sk h=>by cases h),by kernel_rfl,by kernel_rfl⟩,
 ⟨⟨und22,siz22,zer22,zok_of (by kernel_rfl),(fun sk h=>by cases h),by kernel_rfl,by kernel_rfl⟩,
 ⟨⟨und23,siz23,zer23,zok_of (by kernel_rfl),(fun sk h=>by cases h;exact ⟨by kernel_rfl,eq23.mono (by decide)⟩),by kernel_rfl,by kernel_rfl⟩,
 ⟨⟨und24,siz24,zer24,zok_of (by kernel_rfl),(fun sk h=>by cases h;exact ⟨by kernel_rfl,eq24.mono (by decide)⟩),by kernel_rfl,by kernel_rfl⟩,
 ⟨⟨und25,siz25,zer25,zok_of (by kernel_rfl),(fun sk h=>by cases h;exact ⟨by kernel_rfl,eq25.mono (by decide)⟩),by kernel_rfl,by kernel_rfl⟩,
 ⟨⟨und26,siz26,zer26,zok_of (by kernel_rfl),(fun sk h=>by cases h;exact ⟨by kernel_rfl,eq26.mono (by decide)⟩),by kernel_rfl,by kernel_rfl⟩,
 ⟨⟨und27,siz27,zer27,zok_of (by kernel_rfl),(fun sk h=>by cases h;exact ⟨by kernel_rfl,eq27.mono (by decide)⟩),by kernel_rfl,by kernel_rfl⟩,
 ⟨⟨und28,siz28,zer28,zok_of (by kernel_rfl),(fun sk h=>by cases h;exact ⟨by kernel_rfl,eq28.mono (by decide)⟩),by kernel_rfl,by kernel_rfl⟩,
 ⟨⟨und29,siz29,zer29,zok_of (by kernel_rfl),(fun sk h=>by cases h;exact ⟨by kernel_rfl,eq29.mono (by decide)⟩),by kernel_rfl,by kernel_rfl⟩,
 ⟨⟨und30,siz30,zer30,zok_of (by kernel_rfl),(fun sk h=>by cases h;exact ⟨by kernel_rfl,eq30.mono (by decide)⟩),by kernel_rfl,by kernel_rfl⟩,
 ⟨⟨und31,siz31,zer31,zok_of (by kernel_rfl),(fun sk h=>by cases h;exact ⟨by kernel_rfl,eq31.mono (by decide)⟩),by kernel_rfl,by kernel_rfl⟩,
 ⟨⟨und32,siz32,zer32,zok_of (by kernel_rfl),(fun sk h=>by cases h;exact ⟨by kernel_rfl,eq32.mono (by decide)⟩),by kernel_rfl,by kernel_rfl⟩,
 ⟨⟨und33,siz33,zer33,zok_of (by kernel_rfl),(fun sk h=>by cases h),by kernel_rfl,by kernel_rfl⟩,
 ⟨⟨und60,siz60,zer60,zok_of (by kernel_rfl),(fun sk h=>by cases h),by kernel_rfl,by kernel_rfl⟩,
 ⟨⟨und61,siz61,zer61,zok_of (by kernel_rfl),(fun sk h=>by cases h),by kernel_rfl,by kernel_rfl⟩,
 ⟨⟨und67,siz67,zer67,zok_of (by kernel_rfl),(fun sk h=>by cases h;exact ⟨by kernel_rfl,eq67.mono (by decide)⟩),by kernel_rfl,by kernel_rfl⟩,
 ⟨⟨und68,siz68,zer68,zok_of (by kernel_rfl),(fun sk h=>by cases h;exact ⟨by kernel_rfl,eq68.mono (by decide)⟩),by kernel_rfl,by kernel_rfl⟩,
 ⟨⟨und69,siz69,zer69,zok_of (by kernel_rfl),(fun sk h=>by cases h;exact ⟨by kernel_rfl,eq69.mono (by decide)⟩),by kernel_rfl,by kernel_rfl⟩,
 ⟨⟨und70,siz70,zer70,zok_of (by kernel_rfl),(fun sk h=>by cases h;exact ⟨by kernel_rfl,eq70.mono (by decide)⟩),by kernel_rfl,by kernel_rfl⟩,
 ⟨⟨und71,siz71,zer71,zok_of (by kernel_rfl),(fun sk h=>by cases h;exact ⟨by kernel_rfl,eq71.mono (by decide)⟩),by kernel_rfl,by kernel_rfl⟩,
 ⟨⟨und76,siz76,zer76,zok_of (by kernel_rfl),(fun sk h=>by cases h),by kernel_rfl,by kernel_rfl⟩,
 ⟨⟨und79,siz79,zer79,zok_of (by kernel_rfl),(fun sk h=>by cases h),by kernel_rfl,by kernel_rfl⟩,
 ⟨⟨und80,siz80,zer80,zok_of (by kernel_rfl),(fun sk h=>by cases h),by kernel_rfl,by kernel_rfl⟩,
 ⟨⟨und81,siz81,zer81,zok_of (by kernel_rfl),(fun sk h=>by cases h),by kernel_rfl,by kernel_rfl⟩,
 ⟨⟨und82,siz82,zer82,zok_of (by kernel_rfl),(fun sk h=>by cases h),by kernel_rfl,by kernel_rfl⟩,
 ⟨⟨und85,siz85,zer85,zok_of (by kernel_rfl),(fun sk h=>by cases h;exact ⟨by kernel_rfl,eq85.mono (by decide)⟩),by kernel_rfl,by kernel_rfl⟩,
 ⟨⟨und86,siz86,zer86,zok_of (by kernel_rfl),(fun sk h=>by cases h;exact ⟨by kernel_rfl,eq86.mono (by decide)⟩),by kernel_rfl,by kernel_rfl⟩,
 ⟨⟨und88,siz88,zer88,zok_of (by kernel_rfl),(fun sk h=>by cases h),by kernel_rfl,by kernel_rfl⟩,
 ⟨⟨und89,siz89,zer89,zok_of (by kernel_rfl),(fun sk h=>by cases h),by kernel_rfl,by kernel_rfl⟩,
 ⟨⟨und90,siz90,zer90,zok_of (by kernel_rfl),(fun sk h=>by cases h),by kernel_rfl,by kernel_rfl⟩,
 ⟨⟨und91,siz91,zer91,zok_of (by kernel_rfl),(fun sk h=>by cases h),by kernel_rfl,by kernel_rfl⟩,
 ⟨⟨und94,siz94,zer94,zok_of (by kernel_rfl),(fun sk h=>by cases h;exact ⟨by kernel_rfl,eq94.mono (by decide)⟩),by kernel_rfl,by kernel_rfl⟩,
 ⟨⟨und95,siz95,zer95,zok_of (by kernel_rfl),(fun sk h=>by cases h;exact ⟨by kernel_rfl,eq95.mono (by decide)⟩),by kernel_rfl,by kernel_rfl⟩,
 ⟨⟨und98,siz98,zer98,zok_of (by kernel_rfl),(fun sk h=>by cases h),by kernel_rfl,by kernel_rfl⟩,
 ⟨⟨und101,siz101,zer101,zok_of (by kernel_rfl),(fun sk h=>by cases h;exact ⟨by kernel_rfl,eq101.mono (by decide)⟩),by kernel_rfl,by kernel_rfl⟩,
 ⟨⟨und112,siz112,zer112,zok_of (by kernel_rfl),(fun sk h=>by cases h),by kernel_rfl,by kernel_rfl⟩,
 ⟨⟨und117,siz117,zer117,zok_of (by kernel_rfl),(fun sk h=>by cases h;exact ⟨by kernel_rfl,eq117.mono (by decide)⟩),by kernel_rfl,by kernel_rfl⟩,
 ⟨⟨und118,siz118,zer118,zok_of (by kernel_rfl),(fun sk h=>by cases h;exact ⟨by kernel_rfl,eq118.mono (by decide)⟩),by kernel_rfl,by kernel_rfl⟩,
 ⟨⟨und132,siz132,zer132,zok_of (by kernel_rfl),(fun sk h=>by cases h),by kernel_rfl,by kernel_rfl⟩,
 ⟨⟨und133,siz133,zer133,zok_of (by kernel_rfl),(fun sk h=>by cases h;exact ⟨by kernel_rfl,eq133.mono (by decide)⟩),by kernel_rfl,by kernel_rfl⟩,
 ⟨⟨und138,siz138,zer138,zok_of (by kernel_rfl),(fun sk h=>by cases h;exact ⟨by kernel_rfl,eq138.mono (by decide)⟩),by kernel_rfl,by kernel_rfl⟩,
 ⟨⟨und139,siz139,zer139,zok_of (by kernel_rfl),(fun sk h=>by cases h;exact ⟨by kernel_rfl,eq139.mono (by decide)⟩),by kernel_rfl,by kernel_rfl⟩,
 ⟨⟨und144,siz144,zer144,zok_of (by kernel_rfl),(fun sk h=>by cases h;exact ⟨by kernel_rfl,eq144.mono (by decide)⟩),by kernel_rfl,by kernel_rfl⟩,
 ⟨⟨und145,siz145,zer145,zok_of (by kernel_rfl),(fun sk h=>by cases h;exact ⟨by kernel_rfl,eq145.mono (by decide)⟩),by kernel_rfl,by kernel_rfl⟩,
 ⟨⟨und148,siz148,zer148,zok_of (by kernel_rfl),(fun sk h=>by cases h),by kernel_rfl,by kernel_rfl⟩,
 ⟨⟨und151,siz151,zer151,zok_of (by kernel_rfl),(fun sk h=>by cases h),by kernel_rfl,by kernel_rfl⟩,
 ⟨⟨und155,siz155,zer155,zok_of (by kernel_rfl),(fun sk h=>by cases h;exact ⟨by kernel_rfl,eq155.mono (by decide)⟩),by kernel_rfl,by kernel_rfl⟩,
 ⟨⟨und156,siz156,zer156,zok_of (by kernel_rfl),(fun sk h=>by cases h;exact ⟨by kernel_rfl,eq156.mono (by decide)⟩),by kernel_rfl,by kernel_rfl⟩,
 ⟨⟨und162,siz162,zer162,zok_of (by kernel_rfl),(fun sk h=>by cases h),by kernel_rfl,by kernel_rfl⟩,
 ⟨⟨und165,siz165,zer165,zok_of (by kernel_rfl),(fun sk h=>by cases h),by kernel_rfl,by kernel_rfl⟩,
 ⟨⟨und166,siz166,zer166,zok_of (by kernel_rfl),(fun sk h=>by cases h;exact ⟨by kernel_rfl,eq166.mono (by decide)⟩),by kernel_rfl,by kernel_rfl⟩,
 ⟨⟨und167,siz167,zer167,zok_of (by kernel_rfl),(fun sk h=>by cases h;exact ⟨by kernel_rfl,eq167.mono (by decide)⟩),by kernel_rfl,by kernel_rfl⟩,
 ⟨⟨und171,siz171,zer171,zok_of (by kernel_rfl),(fun sk h=>by cases h),by kernel_rfl,by kernel_rfl⟩,
 ⟨⟨und172,siz172,zer172,zok_of (by kernel_rfl),(fun sk h=>by cases h;exact ⟨by kernel_rfl,eq172.mono (by decide)⟩),by kernel_rfl,by kernel_rfl⟩,
 ⟨⟨und173,siz173,zer173,zok_of (by kernel_rfl),(fun sk h=>by cases h;exact ⟨by kernel_rfl,eq173.mono (by decide)⟩),by kernel_rfl,by kernel_rfl⟩,
 ⟨⟨und183,siz183,zer183,zok_of (by kernel_rfl),(fun sk h=>by cases h;exact ⟨by kernel_rfl,eq183.mono (by decide)⟩),by kernel_rfl,by kernel_rfl⟩,
 ⟨⟨und197,siz197,zer197,zok_of (by kernel_rfl),(fun sk h=>by cases h;exact ⟨by kernel_rfl,eq197.mono (by decide)⟩),by kernel_rfl,by kernel_rfl⟩,
 ⟨⟨und199,siz199,zer199,zok_of (by kernel_rfl),(fun sk h=>by cases h),by kernel_rfl,by kernel_rfl⟩,
 ⟨⟨und206,siz206,zer206,zok_of (by kernel_rfl),(fun sk h=>by cases h),by kernel_rfl,by kernel_rfl⟩,
 ⟨⟨und210,siz210,zer210,zok_of (by kernel_rfl),(fun sk h=>by cases h),by kernel_rfl,by kernel_rfl⟩,
 ⟨⟨und213,siz213,zer213,zok_of (by kernel_rfl),(fun sk h=>by cases h),by kernel_rfl,by kernel_rfl⟩,
 ⟨⟨und214,siz214,zer214,zok_of (by kernel_rfl),(fun sk h=>by cases h),by kernel_rfl,by kernel_rfl⟩,
 trivial⟩⟩⟩⟩⟩⟩⟩⟩⟩⟩⟩⟩⟩⟩⟩⟩⟩⟩⟩⟩⟩⟩⟩⟩⟩⟩⟩⟩⟩⟩⟩⟩⟩⟩⟩⟩⟩⟩⟩⟩⟩⟩⟩⟩⟩⟩⟩⟩⟩⟩⟩⟩⟩⟩⟩⟩⟩⟩⟩⟩⟩⟩⟩⟩⟩⟩⟩)
theorem mixed:Tryz.prog.follows .mixedOrders = true:=Checked.mixed Tryz.checked
end Go.Proofs.YtnjocbcjejpklaaGreat
namespace Go.Rq
def W:Nat:=18446744073709551616
def R:Nat:=39402006196394479212279040100143613805079739270465446667948293404245721771497210611414266254884915640806627990306816
theorem R_eq:R = W ^ 6:=by decide
def nv (f:Nat->Nat):Nat:=f 0 % W + W * (f 1 % W + W * (f 2 % W + W * (f 3 % W + W * (f 4 % W + W * (f 5 % W)))))
def wd (n:Nat):Nat->Nat:=fun i=>n / W ^ i
theorem nv_lt (f:Nat->Nat):nv f < R:=by
 have:=Nat.mod_lt (f 0) (show 0 < W by decide)
 have:=Nat.mod_lt (f 1) (show 0 < W by decide)
 have:=Nat.mod_lt (f 2) (show 0 < W by decide)
 have:=Nat.mod_lt (f 3) (show 0 < W by decide)
 have:=Nat.mod_lt (f 4) (show 0 < W by decide)
 have:=Nat.mod_lt (f 5) (show 0 < W by decide)
 unfold nv
 simp only [R,W] at *
 omega
theorem nv_congr {f g:Nat->Nat} (h:∀ i,i < 6->f i % W = g i % W):nv f = nv g:=by
 unfold nv;rw [h 0 (by omega),h 1 (by omega),h 2 (by omega),h 3 (by omega),h 4 (by omega),h 5 (by omega)]
theorem div_mod (n k:Nat):n % (W * k) = n % W + W * (n / W % k):=Nat.mod_mul
theorem nv_wd (n:Nat):nv (wd n) = n % R:=by
 have e:R = W * (W * (W * (W * (W * W)))):=by decide
 rw [e,div_mod,div_mod,div_mod,div_mod,div_mod]
 unfold nv wd
 simp only [Nat.div_div_eq_div_mul,Nat.pow_zero,Nat.div_one,Nat.pow_one,<-Nat.pow_two,<-Nat.pow_succ]
theorem wd_nv (f:Nat->Nat):∀ i,i < 6->wd (nv f) i % W = f i % W:=by
 intro i hi
 have key:∀ (x r:Nat),x < W->(x + W * r) % W = x/\(x + W * r) / W = r:=by
  intro x r hx
  have hW:0 < W:=by decide
  refine ⟨by rw [Nat.add_mul_mod_self_left,Nat.mod_eq_of_lt hx],by rw [Nat.add_mul_div_left _ _ hW,Nat.div_eq_of_lt hx,Nat.zero_add]⟩
 have hl:∀ j,f j % W < W:=fun j=>Nat.mod_lt _ (by decide)
 unfold wd nv
 match i,hi with
 | 0,_=>simp only [Nat.pow_zero,Nat.div_one];exact (key _ _ (hl 0)).1
 | 1,_=>simp only [Nat.pow_one,(key _ _ (hl 0)).2];exact (key _ _ (hl 1)).1
 | 2,_=>simp only [Nat.pow_succ,Nat.pow_zero,Nat.one_mul,<-Nat.div_div_eq_div_mul,(key _ _ (hl 0)).2,(key _ _ (hl 1)).2];exact (key _ _ (hl 2)).1
 | 3,_=>simp only [Nat.pow_succ,Nat.pow_zero,Nat.one_mul,<-Nat.div_div_eq_div_mul,(key _ _ (hl 0)).2,(key _ _ (hl 1)).2,(key _ _ (hl 2)).2];exact (key _ _ (hl 3)).1
 | 4,_=>simp only [Nat.pow_succ,Nat.pow_zero,Nat.one_mul,<-Nat.div_div_eq_div_mul,(key _ _ (hl 0)).2,(key _ _ (hl 1)).2,(key _ _ (hl 2)).2,(key _ _ (hl 3)).2];exact (key _ _ (hl 4)).1
 | 5,_=>simp only [Nat.pow_succ,Nat.pow_zero,Nat.one_mul,<-Nat.div_div_eq_div_mul,(key _ _ (hl 0)).2,(key _ _ (hl 1)).2,(key _ _ (hl 2)).2,(key _ _ (hl 3)).2,(key _ _ (hl 4)).2];rw [Nat.mod_mod]
theorem wd_mod (n:Nat):∀ i,i < 6->wd (n % R) i % W = wd n i % W:=by
 intro i hi
 rw [<-nv_wd,wd_nv _ i hi]
theorem words_of_nv {f:Nat->Nat} {n:Nat} (h:nv f = n % R):∀ i,i < 6->f i % W = wd n i % W:=by
 intro i hi
 rw [<-wd_nv f i hi,h,wd_mod n i hi]
def numV (n:Nat):V1:=.agg [.ws .u64 6 (wd n)]
def numA (n:Nat):AV:=.v1 (numV n)
theorem numV_val {f:Nat->Nat} {n:Nat} (h:nv f = n % R) (ρ:Ren):(V1.agg [.ws .u64 6 f]).val ρ = (numV n).val ρ:=by
 simp only [numV,V1.val,cvals,Cell.vals,List.append_nil]
 congr 2
 refine List.map_congr_left fun i hi=>?_
 rw [show M .u64 = W from rfl,words_of_nv h i (List.mem_range.1 hi)]
theorem numA_val {f:Nat->Nat} {n:Nat} (h:nv f = n % R) (ρ:Ren):(AV.v1 (.agg [.ws .u64 6 f])).val ρ = (numA n).val ρ:=numV_val h ρ
theorem comb {s0 s1 s2 s3 s4 s5 x0 x1 x2 x3 x4 x5 y0 y1 y2 y3 y4 y5 c0 c1 c2 c3 c4 c5 c6:Nat} (z:c0 = 0) (e0:s0 + W * c1 = x0 + y0 + c0) (e1:s1 + W * c2 = x1 + y1 + c1) (e2:s2 + W * c3 = x2 + y2 + c2) (e3:s3 + W * c4 = x3 + y3 + c3) (e4:s4 + W * c5 = x4 + y4 + c4) (e5:s5 + W * c6 = x5 + y5 + c5) :
  s0 + W * (s1 + W * (s2 + W * (s3 + W * (s4 + W * s5)))) + R * c6 = x0 + W * (x1 + W * (x2 + W * (x3 + W * (x4 + W * x5)))) + (y0 + W * (y1 + W * (y2 + W * (y3 + W * (y4 + W * y5))))):=by
 simp only [R,W] at *;omega
def addC (a b:Nat->Nat):Nat->Nat
 | 0=>0
 | i + 1=>(a i % W + b i % W + addC a b i % W) / W
def addO (a b:Nat->Nat):Nat->(Nat->Nat)
 | 0=>fun _=>0
 | i + 1=>upd (addO a b i) i (a i + b i + addC a b i)
theorem addC_le (a b:Nat->Nat) (i:Nat):addC a b i <= 1:=by
 induction i with
 | zero=>simp [addC]
 | succ i ih =>
  have:=Nat.mod_lt (a i) (show 0 < W by decide)
  have:=Nat.mod_lt (b i) (show 0 < W by decide)
  simp only [addC,W] at *;omega
theorem addC_le' (a b:Nat->Nat) (i:Nat):addC a b i % W <= 1:=Nat.le_trans (Nat.mod_le _ _) (addC_le a b i)
theorem upd_same (f:Nat->Nat) (i x:Nat):upd f i x i = x:=by simp [upd]
theorem upd_ne (f:Nat->Nat) {i j:Nat} (x:Nat) (h:j ≠ i):upd f i x j = f j:=by
 have:Nat.beq j i = false:=by rw [<-Bool.not_eq_true,Nat.beq_eq];exact h
 simp [upd,this]
theorem addO_at (a b:Nat->Nat):∀ n i,i < n->addO a b n i = a i + b i + addC a b i
 | n + 1,i,h=>by
  simp only [addO]
  by_cases e:i = n
  ·subst e;rw [upd_same]
  ·rw [upd_ne _ _ e];exact addO_at a b n i (by omega)
theorem add_step (x y c:Nat) (hc:c <= 1):(x + y + c) % W + W * ((x % W + y % W + c % W) / W) = x % W + y % W + c:=by
 simp only [W];omega
theorem add_nv (a b:Nat->Nat):nv (addO a b 6) + R * addC a b 6 = nv a + nv b:=by
 have e:∀ i,i < 6->addO a b 6 i % W + W * addC a b (i + 1) = a i % W + b i % W + addC a b i:=fun i hi=>by
  rw [addO_at a b 6 i hi];exact add_step _ _ _ (addC_le a b i)
 have e0:=e 0 (by omega);have e1:=e 1 (by omega);have e2:=e 2 (by omega);have e3:=e 3 (by omega);have e4:=e 4 (by omega);have e5:=e 5 (by omega)
 exact comb rfl e0 e1 e2 e3 e4 e5
theorem add_sum (a b:Nat->Nat):nv (addO a b 6) = (nv a + nv b) % R/\(Nat.beq (addC a b 6 % W) (1 % W)) = Nat.ble R (nv a + nv b):=by
 have h:=add_nv a b
 have h1:=nv_lt (addO a b 6)
 have h2:=addC_le a b 6
 refine ⟨by rw [<-h,Nat.add_mul_mod_self_left,Nat.mod_eq_of_lt h1],?_⟩
 rw [Bool.eq_iff_iff,Nat.beq_eq,Nat.ble_eq]
 have:addC a b 6 % W = addC a b 6:=Nat.mod_eq_of_lt (by simp only [W];omega)
 rw [this]
 have e1:1 % W = 1:=by decide
 rw [e1]
 generalize addC a b 6 = c at *
 have:c = 0∨c = 1:=by omega
 rcases this with rfl | rfl
 ·constructor
  ·intro h;omega
  ·intro h;omega
 ·constructor
  ·intro _;omega
  ·intro _;rfl
theorem comb' {s0 s1 s2 s3 s4 s5 x0 x1 x2 x3 x4 x5 y0 y1 y2 y3 y4 y5 c0 c1 c2 c3 c4 c5 c6:Nat} (z:c0 = 0) (e0:s0 + (y0 + c0) = x0 + W * c1) (e1:s1 + (y1 + c1) = x1 + W * c2) (e2:s2 + (y2 + c2) = x2 + W * c3) (e3:s3 + (y3 + c3) = x3 + W * c4) (e4:s4 + (y4 + c4) = x4 + W * c5) (e5:s5 + (y5 + c5) = x5 + W * c6) :
  s0 + W * (s1 + W * (s2 + W * (s3 + W * (s4 + W * s5)))) + (y0 + W * (y1 + W * (y2 + W * (y3 + W * (y4 + W * y5))))) = x0 + W * (x1 + W * (x2 + W * (x3 + W * (x4 + W * x5)))) + R * c6:=by
 simp only [R,W] at *;omega
def subC (a b:Nat->Nat):Nat->Nat
 | 0=>0
 | i + 1=>bif Nat.blt (a i % W) (b i % W + subC a b i % W) then 1 else 0
def subO (a b:Nat->Nat):Nat->(Nat->Nat)
 | 0=>fun _=>0
 | i + 1=>upd (subO a b i) i (a i % W + W - b i % W - subC a b i % W)
theorem subC_le (a b:Nat->Nat) (i:Nat):subC a b i <= 1:=by
 cases i with
 | zero=>simp [subC]
 | succ i=>simp only [subC];cases Nat.blt (a i % W) (b i % W + subC a b i % W) <;> simp
theorem subC_le' (a b:Nat->Nat) (i:Nat):subC a b i % W <= 1:=Nat.le_trans (Nat.mod_le _ _) (subC_le a b i)
theorem subO_at (a b:Nat->Nat):∀ n i,i < n->subO a b n i = a i % W + W - b i % W - subC a b i % W
 | n + 1,i,h=>by
  simp only [subO]
  by_cases e:i = n
  ·subst e;rw [upd_same]
  ·rw [upd_ne _ _ e];exact subO_at a b n i (by omega)
theorem sub_step (x y c:Nat) (hc:c <= 1):(x % W + W - y % W - c % W) % W + (y % W + c) = x % W + W * (bif Nat.blt (x % W) (y % W + c % W) then 1 else 0):=by
 have e:c % W = c:=Nat.mod_eq_of_lt (by simp only [W];omega)
 rw [e]
 cases h:Nat.blt (x % W) (y % W + c)
 ·have:¬ x % W < y % W + c:=by rw [<-Nat.blt_eq,h];simp
  simp only [cond_false,W] at *;omega
 ·have:x % W < y % W + c:=by rw [<-Nat.blt_eq,h]
  simp only [cond_true,W] at *;omega
theorem sub_nv (a b:Nat->Nat):nv (subO a b 6) + nv b = nv a + R * subC a b 6:=by
 have e:∀ i,i < 6->subO a b 6 i % W + (b i % W + subC a b i) = a i % W + W * subC a b (i + 1):=fun i hi=>by
  rw [subO_at a b 6 i hi];exact sub_step _ _ _ (subC_le a b i)
 have e0:=e 0 (by omega);have e1:=e 1 (by omega);have e2:=e 2 (by omega);have e3:=e 3 (by omega);have e4:=e 4 (by omega);have e5:=e 5 (by omega)
 exact comb' rfl e0 e1 e2 e3 e4 e5
theorem sub_diff (a b:Nat->Nat):nv (subO a b 6) = (nv a + R - nv b) % R/\(Nat.beq (subC a b 6 % W) (1 % W)) = Nat.blt (nv a) (nv b):=by
 have h:=sub_nv a b
 have h1:=nv_lt (subO a b 6)
 have h2:=subC_le a b 6
 have h3:=nv_lt a
 have h4:=nv_lt b
 have e1:1 % W = 1:=by decide
 have e2:subC a b 6 % W = subC a b 6:=Nat.mod_eq_of_lt (by simp only [W];omega)
 rw [e1,e2]
 generalize subC a b 6 = c at *
 have:c = 0∨c = 1:=by omega
 rcases this with rfl | rfl
 ·refine ⟨?_,?_⟩
  ·rw [show nv a + R - nv b = nv (subO a b 6) + R by omega,Nat.add_mod_right,Nat.mod_eq_of_lt h1]
  ·rw [Bool.eq_iff_iff,Nat.beq_eq,Nat.blt_eq];omega
 ·refine ⟨?_,?_⟩
  ·rw [show nv a + R - nv b = nv (subO a b 6) by omega,Nat.mod_eq_of_lt h1]
  ·rw [Bool.eq_iff_iff,Nat.beq_eq,Nat.blt_eq];omega
def cmpI (x y:Nat):Int:=bif Nat.blt x y then -1 else bif Nat.blt y x then 1 else 0
def cmpP (a b:Nat->Nat) (v:Int->Prop):Nat->Prop
 | 0=>v 0
 | i + 1=>match Nat.blt (a i % W) (b i % W) with
  | true=>v (-1)
  | false=>match Nat.blt (b i % W) (a i % W) with
   | true=>v 1
   | false=>cmpP a b v i
def nvn (f:Nat->Nat):Nat->Nat
 | 0=>0
 | i + 1=>nvn f i + W ^ i * (f i % W)
theorem nvn_lt (f:Nat->Nat):∀ i,nvn f i < W ^ i
 | 0=>by simp [nvn]
 | i + 1=>by
  have:=nvn_lt f i
  have h2:=Nat.mod_lt (f i) (show 0 < W by decide)
  simp only [nvn,Nat.pow_succ]
  have:W ^ i * (f i % W) + W ^ i <= W ^ i * W:=by rw [<-Nat.mul_succ];exact Nat.mul_le_mul_left _ h2
  omega
theorem nv_nvn (f:Nat->Nat):nv f = nvn f 6:=by
 simp only [nvn,nv,W]
 omega
theorem cmpP_of (a b:Nat->Nat) (v:Int->Prop):∀ i,v (cmpI (nvn a i) (nvn b i))->cmpP a b v i
 | 0,h=>by
  have e:cmpI (nvn a 0) (nvn b 0) = 0:=rfl
  rw [e] at h;exact h
 | i + 1,h=>by
  have ha:=nvn_lt a i
  have hb:=nvn_lt b i
  simp only [cmpP]
  simp only [nvn] at h
  cases h1:Nat.blt (a i % W) (b i % W)
  ·have n1:¬ a i % W < b i % W:=by rw [<-Nat.blt_eq,h1];simp
   simp only
   cases h2:Nat.blt (b i % W) (a i % W)
   ·have n2:¬ b i % W < a i % W:=by rw [<-Nat.blt_eq,h2];simp
    have e:a i % W = b i % W:=by omega
    simp only
    refine cmpP_of a b v i ?_
    rw [e] at h
    have e1:Nat.blt (nvn a i + W ^ i * (b i % W)) (nvn b i + W ^ i * (b i % W)) = Nat.blt (nvn a i) (nvn b i):=by rw [Bool.eq_iff_iff,Nat.blt_eq,Nat.blt_eq];omega
    have e2:Nat.blt (nvn b i + W ^ i * (b i % W)) (nvn a i + W ^ i * (b i % W)) = Nat.blt (nvn b i) (nvn a i):=by rw [Bool.eq_iff_iff,Nat.blt_eq,Nat.blt_eq];omega
    unfold cmpI at h ⊢
    rw [e1,e2] at h
    exact h
   ·have n2:b i % W < a i % W:=by rw [<-Nat.blt_eq,h2]
    simp only
    have hm:W ^ i * (b i % W) + W ^ i <= W ^ i * (a i % W):=by rw [<-Nat.mul_succ];exact Nat.mul_le_mul_left _ n2
    have e1:Nat.blt (nvn a i + W ^ i * (a i % W)) (nvn b i + W ^ i * (b i % W)) = false:=by rw [<-Bool.not_eq_true,Nat.blt_eq];omega
    have e2:Nat.blt (nvn b i + W ^ i * (b i % W)) (nvn a i + W ^ i * (a i % W)) = true:=by rw [Nat.blt_eq];omega
    unfold cmpI at h
    rw [e1,e2] at h
    exact h
  ·have n1:a i % W < b i % W:=by rw [<-Nat.blt_eq,h1]
   simp only
   have hm:W ^ i * (a i % W) + W ^ i <= W ^ i * (b i % W):=by rw [<-Nat.mul_succ];exact Nat.mul_le_mul_left _ n1
   have e1:Nat.blt (nvn a i + W ^ i * (a i % W)) (nvn b i + W ^ i * (b i % W)) = true:=by rw [Nat.blt_eq];omega
   unfold cmpI at h
   rw [e1] at h
   exact h
def bitI (n:Nat):Int->Int
 | .ofNat i=>Int.ofNat (n / 2 ^ i % 2)
 | .negSucc _=>0
theorem bit_nv (f:Nat->Nat) (i:Nat) (h:i < 384):f (i / 64) % W / 2 ^ (i % 64) % 2 = nv f / 2 ^ i % 2:=by
 have hi:i / 64 < 6:=by omega
 rw [<-wd_nv f _ hi]
 unfold wd
 have e1:(2:Nat) ^ i = W ^ (i / 64) * 2 ^ (i % 64):=by
  have:W = 2 ^ 64:=by decide
  rw [this,<-Nat.pow_mul,<-Nat.pow_add]
  congr 1;omega
 rw [e1,<-Nat.div_div_eq_div_mul]
 generalize nv f / W ^ (i / 64) = x
 have e2:W = 2 ^ (i % 64) * 2 ^ (64 - i % 64):=by
  rw [<-Nat.pow_add,show i % 64 + (64 - i % 64) = 64 by omega];decide
 rw [e2,Nat.mod_mul_right_div_self]
 have:(2:Nat) ^ (64 - i % 64) = 2 * 2 ^ (63 - i % 64):=by
  rw [<-Nat.pow_succ'];congr 1;omega
 rw [this,Nat.mod_mul_right_mod]
def E:Nat:=384
theorem E_eq:E = 384:=rfl
theorem R_pow:R = 2 ^ E:=by kernel_rfl
theorem nv_bit_high (f:Nat->Nat) (i:Nat) (h:384 <= i):nv f / 2 ^ i % 2 = 0:=by
 have h1:=nv_lt f
 have h2:R <= 2 ^ i:=by
  rw [R_pow];exact Nat.pow_le_pow_right (by omega) h
 rw [Nat.div_eq_of_lt (by omega)]
end Go.Rq
namespace Go.Proofs.YtnjocbcjejpklaaGreat
open Go.Rq Go
set_option maxRecDepth 100000
theorem okAdd64:(CallC.pure cAdd64).Ok Tryz.prog 62:=add64_ok Tryz.func62 (by kernel_rfl) (by kernel_rfl) (by kernel_rfl) (by kernel_rfl)
theorem okSub64:(CallC.pure cSub64).Ok Tryz.prog 159:=sub64_ok Tryz.func159 (by kernel_rfl) (by kernel_rfl) (by kernel_rfl) (by kernel_rfl)
def GA:Ctx:=fun f=>bif Nat.beq f 62 then some (.pure cAdd64) else bif Nat.beq f 159 then some (.pure cSub64) else none
theorem GA_ok:CtxOk Tryz.prog GA:=by
 intro f c h
 unfold GA at h
 cases h1:Nat.beq f 62
 ·rw [h1] at h
  cases h2:Nat.beq f 159
  ·rw [h2] at h;cases h
  ·rw [h2] at h;cases h;rw [Nat.beq_eq] at h2;subst h2;exact okSub64
 ·rw [h1] at h;cases h;rw [Nat.beq_eq] at h1;subst h1;exact okAdd64
def cOf:List AV->Option (List Prop × AV)
 | [.v1 (.sc (.w .u64 n))]=>some ([],numA (n % W))
 | _=>none
theorem of_nv (n:Nat):nv (upd (fun _=>0) 0 n) = (n % W) % R:=by
 have:n % W < R:=Nat.lt_trans (Nat.mod_lt _ (by decide)) (by decide)
 rw [Nat.mod_eq_of_lt this]
 unfold nv
 rw [upd_same,upd_ne _ _ (by decide),upd_ne _ _ (by decide),upd_ne _ _ (by decide),upd_ne _ _ (by decide),upd_ne _ _ (by decide)]
 simp
theorem okOf:(CallC.pure cOf).Ok Tryz.prog 22:=by
 intro args pre v h _
 unfold cOf at h
 split at h
 ·rename_i n
  cases h
  intro h
  refine CallOk.congr (v:=.v1 (.agg [.ws .u64 6 (upd (fun _=>0) 0 n)])) (pure_fn mixed tt_ok GA_ok Tryz.func22 (by kernel_rfl) (by kernel_rfl) (by kernel_rfl) (by kernel_rfl) 50 [] ?_ h) (fun ρ=>numA_val (of_nv n) ρ) (by kernel_rfl)
  exact same (p:=some (AV.v1 (.agg [.ws .u64 6 (upd (fun _=>0) 0 n)])) = some (AV.v1 (.agg [.ws .u64 6 (upd (fun _=>0) 0 n)]))) rfl (by kernel_rfl)
 ·cases h
def cAdd:List AV->Option (List Prop × AV)
 | [.v1 (.agg [.ws .u64 6 a]),.v1 (.agg [.ws .u64 6 b])]=>some ([],.tup [numV ((nv a + nv b) % R),.sc (.bo (Nat.ble R (nv a + nv b)))])
 | _=>none
def cCmp:List AV->Option (List Prop × AV)
 | [.v1 (.agg [.ws .u64 6 a]),.v1 (.agg [.ws .u64 6 b])]=>some ([],.v1 (.sc (.it (cmpI (nv a) (nv b)))))
 | _=>none
theorem okCmp:(CallC.pure cCmp).Ok Tryz.prog 64:=by
 intro args pre v h _
 unfold cCmp at h
 split at h
 ·rename_i a b
  cases h
  refine pure_fn mixed tt_ok GA_ok Tryz.func64 (by kernel_rfl) (by kernel_rfl) (by kernel_rfl) (by kernel_rfl) 100 [] ?_
  refine same (p:=cmpP a b (fun z=>some (AV.v1 (.sc (.it z))) = some (AV.v1 (.sc (.it (cmpI (nv a) (nv b)))))) 6) (cmpP_of a b _ 6 (by rw [<-nv_nvn,<-nv_nvn])) (by kernel_rfl)
 ·cases h
end Go.Proofs.YtnjocbcjejpklaaGreat
namespace Go.Rq
open Go
def ctxL:List (Nat × CallC)->Ctx
 | [],_=>none
 | p :: r,f=>match Nat.beq f p.1 with
  | true=>some p.2
  | false=>ctxL r f
theorem ctxL_nil {P:Program}:CtxOk P (ctxL []):=fun f c h=>by cases h
theorem ctxL_cons {P:Program} {n:Nat} {c:CallC} {l:List (Nat × CallC)} (h:c.Ok P n) (hl:CtxOk P (ctxL l)):CtxOk P (ctxL ((n,c) :: l)):=by
 intro f c' e
 simp only [ctxL] at e
 split at e
 ·rename_i hb
  rw [Nat.beq_eq] at hb
  subst hb
  cases e;exact h
 ·exact hl f c' e
def LK (ks:List Nat) (n m:Nat) (KK:List AV->Heap->Prop) (s:AS):Prop:=Nat.beq s.t.length n = true/\KK (pickT s.t ks) (takeH m s.h)
theorem LK.live {ks:List Nat} {n m:Nat} {KK:List AV->Heap->Prop} {s:AS} (h:LK ks n m KK s) {vs:List AV} {g:Heap} (hv:pickT s.t ks = vs) (hg:takeH m s.h = g) (hm:g.length = m):Live ks vs n g s :=
 ⟨Nat.beq_eq.mp h.1,hv,by rw [hm];exact hg⟩
def RoundE {ι:Type} (id:Nat) (ks:List Nat) (n m:Nat) (V:ι->List AV) (H:ι->Heap) (μ:ι->Nat) (i:ι) (E:ι->Prop) (Q:Exit->AS->Prop):Exit->AS->Prop
 | .normal,s=>LK ks n m (fun vs h=>∃ j,μ j < μ i/\vs = V j/\h = H j) s
 | .exit b,s=>match Nat.beq b id with
  | true=>LK ks n m (fun vs h=>∃ j,E j/\vs = V j/\h = H j) s
  | false=>Q (.exit b) s
 | e,s=>Q e s
theorem loopS {P:Program} {D:Nat->Prop} {pre post:List Code} {id:Nat} {c:Code} {Q:Exit->AS->Prop} {s0:AS} {ι:Type} (ks:List Nat) (n m:Nat) (V:ι->List AV) (H:ι->Heap) (μ:ι->Nat) (E:ι->Prop)
  (hm:∀ i,(H i).length = m) (hb:∀ i,liveB (V i) (H i) = true) (hD:∀ i j,D j->Dm (H i) j)
  (start:AWqS P D pre (fun e s=>match e with
   | .normal=>LK ks n m (fun vs h=>∃ j,vs = V j/\h = H j) s
   | e=>Q e s) s0)
  (step:∀ i junk,AWq P D c (RoundE id ks n m V H μ i E Q) ⟨mkT ks (V i) n junk,H i⟩)
  (fin:∀ j junk,E j->AWqS P D post Q ⟨mkT ks (V j) n junk,H j⟩) :
  AWqS P D (pre ++ .block id (.loop c) :: post) Q s0:=by
 refine AWqS.app (start.mono fun e s q=>?_)
 cases e with
 | normal =>
  obtain ⟨j,hv,hg⟩:=q.2
  have hl:Live ks (V j) n (H j) s:=q.live hv hg (hm j)
  show AWqS P D (.block id (.loop c) :: post) Q s
  refine AWq.liveLoop (Q:=fun e s'=>match e with
   | .normal=>AWqS P D post Q s'
   | e=>Q e s') ks n V H μ hb hD (fun i junk=>(step i junk).mono fun e s' q=>?_) j hl
  cases e with
  | normal =>
   have q:LK ks n m (fun vs h=>∃ k,μ k < μ _/\vs = V k/\h = H k) s':=q
   obtain ⟨k,hk,hv,hg⟩:=q.2
   exact ⟨k,hk,q.live hv hg (hm k)⟩
  | exit b =>
   simp only [RoundE] at q
   split at q
   ·rename_i hbe
    have:b = id:=Nat.beq_eq.mp hbe
    simp only [this,if_true]
    obtain ⟨k,hk,hv,hg⟩:=q.2
    exact AWqS.of_live (q.live hv hg (hm k)) (hb k) (hD k) fun junk=>fin k junk hk
   ·rename_i hbe
    have:b ≠ id:=fun e=>by rw [<-Nat.beq_eq,hbe] at e;cases e
    simp only [this,if_false]
    exact q
  | _=>exact q
 | _=>exact q
def FEnd' (T:TT) (fn:Func) (v:AV):Exit->AS->Prop
 | .normal,s | .ret,s=>∃ v',resA T s fn.results.toList = some v'/\∀ ρ,v'.val ρ = v.val ρ
 | _,_=>False
theorem pure_walk' {P:Program} {T:TT} (hT:TTOk P T) {f:FuncId} {fn:Func} (hf:P.funcs[f]? = some fn) (hb:fn.body = some (bodyOf fn)) (hn:(fn.name == "runtime.NumGoroutine") = false)
  {args:List AV} (hargs:args.all vokB = true) {v:AV} (hv:vokB v = true)
  (h:AWqS P (fun _=>False) (flatC (bodyOf fn)) (FEnd' T fn v) ⟨frame0 args fn.ntmps,[]⟩):∀ h,CallOk P f args h v h:=by
 have hargs:∀ x ∈ args,x.ok fun _=>False:=fun x hx=>vok_of (List.all_eq_true.1 hargs x hx)
 have hv:v.ok fun _=>False:=vok_of hv
 have h:AWp P (bodyOf fn) (FEnd' T fn v) ⟨frame0 args fn.ntmps,[]⟩:=by
  intro ρ a w r
  have e:Dm ([]:Heap) = fun _=>False:=by funext i;simp [Dm,hget]
  have:=AWq.of_flat _ h ρ w ρ a w r (by rw [e];exact StepR.refl _ _ _)
  rw [e]
  exact this
 intro hp ρ w hr _ o a next Q hnext
 rw [enter_run hf hb hn,Oper.upon_enter]
 refine calls_of_wp hf hb ?_
 have hrel:Rel (fun _=>0) ⟨frame0 args fn.ntmps,[]⟩ { tmps:=(args.map (AV.val ρ)).toArray ++ Array.replicate (fn.ntmps - (args.map (AV.val ρ)).toArray.size) undef,defers:=[] } w:=by
  refine ⟨?_,rfl,fun x hx=>?_,RelH.nil _ _⟩
  ·have:args.map (AV.val fun _=>0) = args.map (AV.val ρ):=List.map_congr_left fun x hx=>val_ok_any (hargs x hx) _ _
   apply Array.ext'
   simp [frame0,this,undefA,AV.val,undef]
  ·unfold frame0 at hx
   rcases List.mem_append.1 hx with hx | hx
   ·exact AV.ok_mono (fun _ h=>h.elim) (hargs x hx)
   ·have:=(List.mem_replicate.1 hx).2
    subst this
    intro v hv;cases hv
 refine wp_mono (h _ _ w hrel) fun e a' w' ⟨s',ρ',q,r',st⟩=>?_
 have fin:(∃ v',resA T s' fn.results.toList = some v'/\∀ ρ,v'.val ρ = v.val ρ)->a'.defers = []/\∃ u,(results fn a'.tmps).run P w' = .ok u w'/\next (a.put o.dst u) w':=by
  intro ⟨v',hres,hvv⟩
  have:=resA_run hT r' (fn:=fn) hres
  refine ⟨r'.defers,_,this.1,?_⟩
  rw [hvv ρ',val_ok_any hv ρ' ρ]
  have st':StepR (fun _=>False) (fun _=>0) w (Dm s'.h) ρ' w':=by
   have e:Dm ([]:Heap) = fun _=>False:=by funext i;simp [Dm,hget]
   rw [e] at st
   exact st
  have hk:=hr.keep st'
  exact hnext ρ w' hk.2 hk.1 (AV.ok_mono (fun _ h=>h.elim) hv)
 cases e with
 | normal=>exact fin q
 | ret=>exact fin q
 | exit j=>exact q.elim
 | goto l=>exact q.elim
 | panic ch=>exact q.elim
 | outgrown=>exact q.elim
def ix (i n:Nat) (q:Prop):Prop:=0 <= Int.ofNat i/\Int.ofNat i < (n:Int)/\i < n/\q
theorem ix_of {i n:Nat} {q:Prop} (h:i < n) (k:q):ix i n q:=⟨Int.natCast_nonneg _,by simp;exact h,h,k⟩
theorem ilt_t {i n:Nat} (h:i < n):ilt (Int.ofNat i) (Int.ofNat n) = true:=by rw [ilt_iff];simp;exact h
def isLoop:Code->Bool
 | .block _ (.loop _)=>true
 | _=>false
def loopId:Code->Nat
 | .block id _=>id
 | _=>0
def loopOf:Code->Code
 | .block _ (.loop c)=>c
 | _=>.skip
def hasL:List Code->Bool
 | []=>false
 | c :: r=>match isLoop c with
  | true=>true
  | false=>hasL r
def preL:List Code->List Code
 | []=>[]
 | c :: r=>match isLoop c with
  | true=>[]
  | false=>c :: preL r
def atL:List Code->Code
 | []=>.skip
 | c :: r=>match isLoop c with
  | true=>c
  | false=>atL r
def postL:List Code->List Code
 | []=>[]
 | c :: r=>match isLoop c with
  | true=>r
  | false=>postL r
theorem loop_eq {c:Code} (h:isLoop c = true):c = .block (loopId c) (.loop (loopOf c)):=by
 unfold isLoop at h
 split at h
 ·rfl
 ·cases h
theorem splitL:∀ {l:List Code},hasL l = true->l = preL l ++ .block (loopId (atL l)) (.loop (loopOf (atL l))) :: postL l
 | [],h=>by cases h
 | c :: r,h=>by
  simp only [hasL] at h
  cases hc:isLoop c
  ·simp only [preL,atL,postL,hc]
   rw [hc] at h
   exact congrArg (c :: ·) (splitL (l:=r) h)
  ·simp only [preL,atL,postL,hc]
   rw [<-loop_eq hc];rfl
def StartE {ι:Type} (ks:List Nat) (n m:Nat) (V:ι->List AV) (H:ι->Heap) (Q:Exit->AS->Prop):Exit->AS->Prop
 | .normal,s=>LK ks n m (fun vs h=>∃ j,vs = V j/\h = H j) s
 | e,s=>Q e s
theorem loopF {P:Program} {T:TT} {G:Ctx} {D:Nat->Prop} (hmx:P.follows .mixedOrders = true) (hT:TTOk P T) (hG:CtxOk P G) {l:List Code} (hl:hasL l = true) {Q:Exit->AS->Prop} {s0:AS} {ι:Type} (ks:List Nat) (n m:Nat) (V:ι->List AV) (H:ι->Heap) (μ:ι->Nat) (E:ι->Prop)
  (hm:∀ i,(H i).length = m) (hb:∀ i,liveB (V i) (H i) = true) (hD:∀ i j,D j->Dm (H i) j) (fuel:Nat) (hs:List Hint)
  (start:evS P T G fuel (preL l) (fun e s _=>StartE ks n m V H Q e s) s0 hs)
  (step:∀ i junk,AWq P D (loopOf (atL l)) (RoundE (loopId (atL l)) ks n m V H μ i E Q) ⟨mkT ks (V i) n junk,H i⟩)
  (fin:∀ j junk,E j->evS P T G fuel (postL l) (fun e s _=>Q e s) ⟨mkT ks (V j) n junk,H j⟩ []) :
  AWqS P D l Q s0:=by
 rw [splitL hl]
 refine loopS ks n m V H μ E hm hb hD ((evS_q hmx hT hG fuel hs start).mono fun e s q=>?_) step fun j junk e=>evS_q hmx hT hG fuel [] (fin j junk e)
 cases e <;> exact q
theorem roundF {P:Program} {T:TT} {G:Ctx} {D:Nat->Prop} (hmx:P.follows .mixedOrders = true) (hT:TTOk P T) (hG:CtxOk P G) (fuel:Nat) {c:Code} {Q:Exit->AS->Prop} {s:AS} (hs:List Hint) (h:ev P T G fuel c (fun e s _=>Q e s) s hs):AWq P D c Q s :=
 ev_q hmx hT hG fuel hs h
end Go.Rq
namespace Go.Rq
def mulHi (x y:Nat):Nat :=
 x % W / 4294967296 * (y % W / 4294967296) +
  (x % W / 4294967296 * (y &&& 4294967295) + (x &&& 4294967295) * (y &&& 4294967295) % W / 4294967296) % W / 4294967296 +
  ((x % W / 4294967296 * (y &&& 4294967295) + (x &&& 4294967295) * (y &&& 4294967295) % W / 4294967296 &&& 4294967295) + (x &&& 4294967295) * (y % W / 4294967296)) % W / 4294967296
theorem and_mask (x:Nat):x &&& 4294967295 = x % 4294967296:=Nat.and_two_pow_sub_one_eq_mod x 32
theorem mulHi_eq (x y:Nat):mulHi x y = x % W * (y % W) / W:=by
 have h:=Go.Lib.mul64_hi (x % W) (y % W) (Nat.mod_lt _ (by decide)) (Nat.mod_lt _ (by decide))
 have e1:x % 4294967296 = x % W % 4294967296:=(Nat.mod_mod_of_dvd x ⟨4294967296,by decide⟩).symm
 have e2:y % 4294967296 = y % W % 4294967296:=(Nat.mod_mod_of_dvd y ⟨4294967296,by decide⟩).symm
 unfold mulHi
 rw [and_mask,and_mask,and_mask,e1,e2]
 generalize x % W = X at *
 generalize y % W = Y at *
 simp only [W] at *
 obtain ⟨h1,h2,h3,h4⟩:=h
 rw [Nat.mod_eq_of_lt h1,Nat.mod_eq_of_lt h2,Nat.mod_eq_of_lt h3]
 exact h4
def blen (n:Nat):Nat:=bif Nat.beq n 0 then 0 else Nat.log2 n + 1
theorem blen_zero:blen 0 = 0:=rfl
theorem blen_pos {n:Nat} (h:n ≠ 0):blen n = Nat.log2 n + 1:=by
 have:Nat.beq n 0 = false:=by rw [<-Bool.not_eq_true,Nat.beq_eq];exact h
 unfold blen;rw [this];rfl
theorem blen_of {n k:Nat} (h1:2 ^ k <= n) (h2:n < 2 ^ (k + 1)):blen n = k + 1:=by
 have hn:n ≠ 0:=by have:=Nat.two_pow_pos k;omega
 rw [blen_pos hn]
 have a:=(Nat.le_log2 hn).2 h1
 have b:=(Nat.log2_lt hn).2 h2
 omega
theorem blen_bounds {n:Nat} (h:n ≠ 0):2 ^ (blen n - 1) <= n/\n < 2 ^ blen n:=by
 rw [blen_pos h]
 exact ⟨Nat.log2_self_le h,Nat.lt_log2_self⟩
theorem blen_shift {k x:Nat} (h:2 ^ k <= x):blen x = k + blen (x / 2 ^ k):=by
 have hp:=Nat.two_pow_pos k
 have hq:x / 2 ^ k ≠ 0:=by have:=Nat.div_pos h hp;omega
 obtain ⟨h1,h2⟩:=blen_bounds hq
 have hb:0 < blen (x / 2 ^ k):=by rw [blen_pos hq];omega
 have:k + blen (x / 2 ^ k) = (k + (blen (x / 2 ^ k) - 1)) + 1:=by omega
 rw [this]
 refine blen_of ?_ ?_
 ·rw [Nat.pow_add,Nat.mul_comm];exact (Nat.le_div_iff_mul_le hp).1 h1
 ·rw [<-this,Nat.pow_add,Nat.mul_comm];exact (Nat.div_lt_iff_lt_mul hp).1 h2
theorem blen_lt {n k:Nat} (h:n < 2 ^ k):blen n <= k:=by
 by_cases hn:n = 0
 ·subst hn;rw [blen_zero];omega
 ·rw [blen_pos hn];have:=(Nat.log2_lt hn).2 h;omega
theorem tab_blen:∀ n:Fin 256,byteAt Go.Lib.len8tab n.val = blen n.val:=by decide +kernel
theorem tab_eq {n:Nat} (h:n < 256):byteAt Go.Lib.len8tab n = blen n:=tab_blen ⟨n,h⟩
theorem wrapI_small {n:Nat} (h:n < 9223372036854775808):wrapI (Int.ofNat n) = Int.ofNat n:=by
 have:Nat.blt n two63 = true:=by rw [Nat.blt_eq];exact h
 unfold wrapI;simp only [this];rfl
theorem and63:∀ i:Fin 384,bitsI .and (Int.ofNat i.val) 63 = Int.ofNat (i.val % 64):=by decide +kernel
theorem fdiv6:∀ i:Fin 384,(Int.ofNat i.val).fdiv (2 ^ 6) = Int.ofNat (i.val / 64):=by decide +kernel
theorem tdiv64:∀ i:Fin 384,wrapI ((Int.ofNat i.val).tdiv 64) = Int.ofNat (i.val / 64):=by decide +kernel
theorem tmod64:∀ i:Fin 384,(Int.ofNat i.val).tmod 64 = Int.ofNat (i.val % 64):=by decide +kernel
theorem bit_word (a:Nat->Nat) {i:Nat} (h:i < 384) :
  wrapI (Int.ofNat ((a (i / 64) % W / 2 ^ min (i % 64) 64 &&& 1) % W)) = bitI (nv a) (Int.ofNat i):=by
 rw [Nat.and_one_is_mod,Nat.min_eq_left (by omega),bit_nv a i h]
 have:nv a / 2 ^ i % 2 < 2:=Nat.mod_lt _ (by decide)
 rw [Nat.mod_eq_of_lt (a:=nv a / 2 ^ i % 2) (by simp only [W];omega)]
 exact wrapI_small (by omega)
theorem bit_high (a:Nat->Nat) {i:Nat} (h:384 <= i):bitI (nv a) (Int.ofNat i) = 0:=by
 simp only [bitI,nv_bit_high a i h];rfl
def lenP (a:Nat->Nat) (v:Int->Prop):Nat->Prop
 | 0=>v 0
 | i + 1=>match not (Nat.beq (a i % W) 0) with
  | true=>v (wrapI (wrapI (64 * Int.ofNat i) + Int.ofNat (blen (a i % W))))
  | false=>lenP a v i
theorem lenP_of (a:Nat->Nat) (v:Int->Prop):∀ i,i <= 6->v (Int.ofNat (blen (nvn a i)))->lenP a v i
 | 0,_,h=>h
 | i + 1,hi,h=>by
  simp only [lenP]
  have hl:=nvn_lt a i
  cases h1:Nat.beq (a i % W) 0
  ·have hne:a i % W ≠ 0:=fun e=>by rw [<-Nat.beq_eq,h1] at e;cases e
   simp only [Bool.not_false]
   have hlt:a i % W < 2 ^ 64:=Nat.mod_lt _ (by decide)
   have hb:=blen_lt hlt
   have e:blen (nvn a (i + 1)) = 64 * i + blen (a i % W):=by
    have hw:W ^ i = 2 ^ (64 * i):=by rw [Nat.pow_mul];rfl
    simp only [nvn]
    have hd:(nvn a i + W ^ i * (a i % W)) / 2 ^ (64 * i) = a i % W:=by
     rw [<-hw,Nat.add_mul_div_left _ _ (Nat.pow_pos (by decide)),Nat.div_eq_of_lt hl,Nat.zero_add]
    have hs:=blen_shift (k:=64 * i) (x:=nvn a i + W ^ i * (a i % W)) ?_
    ·rw [hd] at hs;exact hs
    rw [<-hw]
    have:=Nat.mul_le_mul_left (W ^ i) (Nat.one_le_iff_ne_zero.2 hne)
    omega
   rw [e] at h
   have e2:wrapI (wrapI (64 * Int.ofNat i) + Int.ofNat (blen (a i % W))) = Int.ofNat (64 * i + blen (a i % W)):=by
    have e3:(64:Int) * Int.ofNat i = Int.ofNat (64 * i):=by simp
    rw [e3,wrapI_small (by omega)]
    have e4:Int.ofNat (64 * i) + Int.ofNat (blen (a i % W)) = Int.ofNat (64 * i + blen (a i % W)):=by simp
    rw [e4,wrapI_small (by omega)]
   rw [e2];exact h
  ·have hz:a i % W = 0:=Nat.beq_eq.mp h1
   simp only [Bool.not_true]
   refine lenP_of a v i (by omega) ?_
   simp only [nvn,hz,Nat.mul_zero,Nat.add_zero] at h
   exact h
theorem wrapI_succ {i:Nat} (h:i < 9223372036854775806):wrapI (Int.ofNat i + 1) = Int.ofNat (i + 1):=by
 have:Int.ofNat i + 1 = Int.ofNat (i + 1):=rfl
 rw [this,wrapI_small (by omega)]
end Go.Rq
namespace Go.Proofs.YtnjocbcjejpklaaGreat
open Go.Rq Go
set_option maxRecDepth 100000
theorem G0_ok:CtxOk Tryz.prog (ctxL []):=ctxL_nil
def cMul64:List AV->Option (List Prop × AV)
 | [.v1 (.sc (.w .u64 x)),.v1 (.sc (.w .u64 y))]=>some ([],.tup [.sc (.w .u64 (x % W * (y % W) / W)),.sc (.w .u64 (x * y))])
 | _=>none
theorem okMul64:(CallC.pure cMul64).Ok Tryz.prog 61:=by
 intro args pre v h _
 unfold cMul64 at h
 split at h
 ·rename_i x y
  cases h
  intro h
  refine CallOk.congr (v:=.tup [.sc (.w .u64 (mulHi x y)),.sc (.w .u64 (x * y))]) (pure_fn mixed tt_ok G0_ok Tryz.func61 (by kernel_rfl) (by kernel_rfl) (by kernel_rfl) (by kernel_rfl) 50 [] ?_ h) (fun ρ=>by rw [mulHi_eq]) (by kernel_rfl)
  exact same (p:=some (AV.tup [.sc (.w .u64 (mulHi x y)),.sc (.w .u64 (x * y))]) = some (AV.tup [.sc (.w .u64 (mulHi x y)),.sc (.w .u64 (x * y))])) rfl (by kernel_rfl)
 ·cases h
def cBit:List AV->Option (List Prop × AV)
 | [.v1 (.agg [.ws .u64 6 a]),.v1 (.sc (.it i))]=>some ([],.v1 (.sc (.it (bitI (nv a) i))))
 | _=>none
theorem okBit:(CallC.pure cBit).Ok Tryz.prog 131:=by
 intro args pre v h _
 unfold cBit at h
 split at h
 ·rename_i a i
  cases h
  cases i with
  | negSucc i =>
   refine pure_fn mixed tt_ok G0_ok Tryz.func131 (by kernel_rfl) (by kernel_rfl) (by kernel_rfl) (by kernel_rfl) 50 [] ?_
   exact same (p:=some (AV.v1 (.sc (.it 0))) = some (AV.v1 (.sc (.it 0)))) rfl (by kernel_rfl)
  | ofNat i =>
   by_cases hi:i < 384
   ·refine pure_fn mixed tt_ok G0_ok Tryz.func131 (by kernel_rfl) (by kernel_rfl) (by kernel_rfl) (by kernel_rfl) 50 [⟨1,1,.lit (.bo false)⟩,⟨1,4,.lit (.bo false)⟩,⟨3,1,.lit (.it (Int.ofNat (i/64)))⟩,⟨3,2,.sym⟩,⟨3,3,.sym⟩,⟨3,5,.lit (.it (Int.ofNat (i%64)))⟩] ?_
    refine same (p:=ilt (Int.ofNat i) 0 = false/\(!ilt (Int.ofNat i) 384) = false/\(Int.ofNat i).fdiv (2 ^ 6) = Int.ofNat (i / 64)/\0 <= Int.ofNat (i / 64)/\Int.ofNat (i / 64) < ((6:Nat):Int)/\i / 64 < 6/\bitsI .and (Int.ofNat i) 63 = Int.ofNat (i % 64) /\
     some (AV.v1 (.sc (.it (wrapI (Int.ofNat ((a (i / 64) % W / 2 ^ min (i % 64) 64 &&& 1) % W)))))) = some (AV.v1 (.sc (.it (bitI (nv a) (Int.ofNat i)))))) ?_ (by kernel_rfl)
    refine ⟨?_,?_,fdiv6 ⟨i,hi⟩,Int.natCast_nonneg _,by simp;omega,by omega,and63 ⟨i,hi⟩,by rw [bit_word a hi]⟩
    ·rw [<-Bool.not_eq_true,ilt_iff];simp
    ·have:ilt (Int.ofNat i) 384 = true:=by rw [ilt_iff];simp;omega
     rw [this];rfl
   ·have e:bitI (nv a) (Int.ofNat i) = 0:=bit_high a (by omega)
    rw [e]
    refine pure_fn mixed tt_ok G0_ok Tryz.func131 (by kernel_rfl) (by kernel_rfl) (by kernel_rfl) (by kernel_rfl) 50 [⟨1,1,.lit (.bo false)⟩,⟨1,4,.lit (.bo true)⟩] ?_
    refine same (p:=ilt (Int.ofNat i) 0 = false/\(!ilt (Int.ofNat i) 384) = true/\some (AV.v1 (.sc (.it 0))) = some (AV.v1 (.sc (.it 0)))) ⟨?_,?_,rfl⟩ (by kernel_rfl)
    ·rw [<-Bool.not_eq_true,ilt_iff];simp
    ·have:ilt (Int.ofNat i) 384 = false:=by rw [<-Bool.not_eq_true,ilt_iff];simp;omega
     rw [this];rfl
 ·cases h
theorem okBit':(CallC.pure cBit).Ok Tryz.prog 182:=by
 intro args pre v h _
 unfold cBit at h
 split at h
 ·rename_i a i
  cases h
  cases i with
  | negSucc i =>
   refine pure_fn mixed tt_ok G0_ok Tryz.func182 (by kernel_rfl) (by kernel_rfl) (by kernel_rfl) (by kernel_rfl) 50 [] ?_
   exact same (p:=some (AV.v1 (.sc (.it 0))) = some (AV.v1 (.sc (.it 0)))) rfl (by kernel_rfl)
  | ofNat i =>
   by_cases hi:i < 384
   ·refine pure_fn mixed tt_ok G0_ok Tryz.func182 (by kernel_rfl) (by kernel_rfl) (by kernel_rfl) (by kernel_rfl) 50 [⟨1,1,.lit (.bo false)⟩,⟨1,4,.lit (.bo false)⟩,⟨3,1,.lit (.it (Int.ofNat (i/64)))⟩,⟨3,2,.sym⟩,⟨3,3,.sym⟩,⟨3,5,.lit (.it (Int.ofNat (i%64)))⟩] ?_
    refine same (p:=ilt (Int.ofNat i) 0 = false/\ilt 383 (Int.ofNat i) = false/\wrapI ((Int.ofNat i).tdiv 64) = Int.ofNat (i / 64)/\0 <= Int.ofNat (i / 64)/\Int.ofNat (i / 64) < ((6:Nat):Int)/\i / 64 < 6/\(Int.ofNat i).tmod 64 = Int.ofNat (i % 64) /\
     some (AV.v1 (.sc (.it (wrapI (Int.ofNat ((a (i / 64) % W / 2 ^ min (i % 64) 64 &&& 1) % W)))))) = some (AV.v1 (.sc (.it (bitI (nv a) (Int.ofNat i)))))) ?_ (by kernel_rfl)
    refine ⟨?_,?_,tdiv64 ⟨i,hi⟩,Int.natCast_nonneg _,by simp;omega,by omega,tmod64 ⟨i,hi⟩,by rw [bit_word a hi]⟩
    ·rw [<-Bool.not_eq_true,ilt_iff];simp
    ·rw [<-Bool.not_eq_true,ilt_iff];simp;omega
   ·have e:bitI (nv a) (Int.ofNat i) = 0:=bit_high a (by omega)
    rw [e]
    refine pure_fn mixed tt_ok G0_ok Tryz.func182 (by kernel_rfl) (by kernel_rfl) (by kernel_rfl) (by kernel_rfl) 50 [⟨1,1,.lit (.bo false)⟩,⟨1,4,.lit (.bo true)⟩] ?_
    refine same (p:=ilt (Int.ofNat i) 0 = false/\ilt 383 (Int.ofNat i) = true/\some (AV.v1 (.sc (.it 0))) = some (AV.v1 (.sc (.it 0)))) ⟨?_,?_,rfl⟩ (by kernel_rfl)
    ·rw [<-Bool.not_eq_true,ilt_iff];simp
    ·rw [ilt_iff];simp;omega
 ·cases h
def cLen64:List AV->Option (List Prop × AV)
 | [.v1 (.sc (.w .u64 x))]=>some ([],.v1 (.sc (.it (Int.ofNat (blen (x % W))))))
 | _=>none
theorem len_fin {d e y n:Nat} (h:n = d + e + blen y) (hd:d + e <= 64) (hy:y < 256) (z:Int) (hz:z = Int.ofNat (d + e)):wrapI (z + wrapI (Int.ofNat (byteAt Go.Lib.len8tab y % 256))) = Int.ofNat n:=by
 have hb:blen y <= 8:=blen_lt (k:=8) (by omega)
 rw [tab_eq hy,Nat.mod_eq_of_lt (by omega),wrapI_small (by omega),hz]
 have:Int.ofNat (d + e) + Int.ofNat (blen y) = Int.ofNat n:=by rw [h];simp
 rw [this,wrapI_small (by omega)]
theorem okLen64:(CallC.pure cLen64).Ok Tryz.prog 173:=by
 intro args pre v h _
 unfold cLen64 at h
 split at h
 ·rename_i x
  cases h
  have hx:x % W < 18446744073709551616:=Nat.mod_lt _ (by decide)
  by_cases h1:4294967296 <= x % W
  ·have s1:blen (x % W) = 32 + blen (x % W / 4294967296):=blen_shift (k:=32) h1
   have m1:x % W / 4294967296 % W = x % W / 4294967296:=Nat.mod_eq_of_lt (by simp only [W] at *;omega)
   by_cases h2:65536 <= x % W / 4294967296
   ·have s2:blen (x % W / 4294967296) = 16 + blen (x % W / 4294967296 / 65536):=blen_shift (k:=16) h2
    have m2:x % W / 4294967296 / 65536 % W = x % W / 4294967296 / 65536:=Nat.mod_eq_of_lt (by simp only [W] at *;omega)
    by_cases h3:256 <= x % W / 4294967296 / 65536
    ·have s3:blen (x % W / 4294967296 / 65536) = 8 + blen (x % W / 4294967296 / 65536 / 256):=blen_shift (k:=8) h3
     have m3:x % W / 4294967296 / 65536 / 256 % W = x % W / 4294967296 / 65536 / 256:=Nat.mod_eq_of_lt (by simp only [W] at *;omega)
     refine pure_fn mixed tt_ok G0_ok Tryz.func173 (by kernel_rfl) (by kernel_rfl) (by kernel_rfl) (by kernel_rfl) 50 [⟨1,1,.lit (.bo true)⟩,⟨4,1,.lit (.bo true)⟩,⟨7,1,.lit (.bo true)⟩,⟨10,3,.sym⟩] ?_
     refine same (p:=Nat.ble 4294967296 (x % W) = true/\Nat.ble 65536 (x % W / 4294967296 % W) = true/\Nat.ble 256 (x % W / 4294967296 % W / 65536 % W) = true/\x % W / 4294967296 % W / 65536 % W / 256 % W % 256 < 256/\some (AV.v1 (.sc (.it (wrapI (wrapI (wrapI (32 + 16) + 8) + wrapI (Int.ofNat (byteAt Go.Lib.len8tab (x % W / 4294967296 % W / 65536 % W / 256 % W % 256) % 256))))))) = some (AV.v1 (.sc (.it (Int.ofNat (blen (x % W))))))) ?_ (by kernel_rfl)
     rw [m1,m2,m3]
     have hc:x % W / 4294967296 / 65536 / 256 < 256:=by simp only [W] at *;omega
     have me:(x % W / 4294967296 / 65536 / 256) % 256 = x % W / 4294967296 / 65536 / 256:=Nat.mod_eq_of_lt hc
     rw [me]
     refine ⟨Nat.ble_eq_true_of_le h1,Nat.ble_eq_true_of_le h2,Nat.ble_eq_true_of_le h3,hc,?_⟩
     rw [len_fin (d:=56) (e:=0) (y:=x % W / 4294967296 / 65536 / 256) (n:=blen (x % W)) (by omega) (by omega) hc _ (by kernel_rfl)]
    ·refine pure_fn mixed tt_ok G0_ok Tryz.func173 (by kernel_rfl) (by kernel_rfl) (by kernel_rfl) (by kernel_rfl) 50 [⟨1,1,.lit (.bo true)⟩,⟨4,1,.lit (.bo true)⟩,⟨7,1,.lit (.bo false)⟩,⟨10,3,.sym⟩] ?_
     refine same (p:=Nat.ble 4294967296 (x % W) = true/\Nat.ble 65536 (x % W / 4294967296 % W) = true/\Nat.ble 256 (x % W / 4294967296 % W / 65536 % W) = false/\x % W / 4294967296 % W / 65536 % W % 256 < 256/\some (AV.v1 (.sc (.it (wrapI (wrapI (32 + 16) + wrapI (Int.ofNat (byteAt Go.Lib.len8tab (x % W / 4294967296 % W / 65536 % W % 256) % 256))))))) = some (AV.v1 (.sc (.it (Int.ofNat (blen (x % W))))))) ?_ (by kernel_rfl)
     rw [m1,m2]
     have hc:x % W / 4294967296 / 65536 < 256:=by simp only [W] at *;omega
     have me:(x % W / 4294967296 / 65536) % 256 = x % W / 4294967296 / 65536:=Nat.mod_eq_of_lt hc
     rw [me]
     refine ⟨Nat.ble_eq_true_of_le h1,Nat.ble_eq_true_of_le h2,by rw [<-Bool.not_eq_true,Nat.ble_eq];exact h3,hc,?_⟩
     rw [len_fin (d:=48) (e:=0) (y:=x % W / 4294967296 / 65536) (n:=blen (x % W)) (by omega) (by omega) hc _ (by kernel_rfl)]
   ·by_cases h3:256 <= x % W / 4294967296
    ·have s3:blen (x % W / 4294967296) = 8 + blen (x % W / 4294967296 / 256):=blen_shift (k:=8) h3
     have m3:x % W / 4294967296 / 256 % W = x % W / 4294967296 / 256:=Nat.mod_eq_of_lt (by simp only [W] at *;omega)
     refine pure_fn mixed tt_ok G0_ok Tryz.func173 (by kernel_rfl) (by kernel_rfl) (by kernel_rfl) (by kernel_rfl) 50 [⟨1,1,.lit (.bo true)⟩,⟨4,1,.lit (.bo false)⟩,⟨7,1,.lit (.bo true)⟩,⟨10,3,.sym⟩] ?_
     refine same (p:=Nat.ble 4294967296 (x % W) = true/\Nat.ble 65536 (x % W / 4294967296 % W) = false/\Nat.ble 256 (x % W / 4294967296 % W) = true/\x % W / 4294967296 % W / 256 % W % 256 < 256/\some (AV.v1 (.sc (.it (wrapI (wrapI (32 + 8) + wrapI (Int.ofNat (byteAt Go.Lib.len8tab (x % W / 4294967296 % W / 256 % W % 256) % 256))))))) = some (AV.v1 (.sc (.it (Int.ofNat (blen (x % W))))))) ?_ (by kernel_rfl)
     rw [m1,m3]
     have hc:x % W / 4294967296 / 256 < 256:=by simp only [W] at *;omega
     have me:(x % W / 4294967296 / 256) % 256 = x % W / 4294967296 / 256:=Nat.mod_eq_of_lt hc
     rw [me]
     refine ⟨Nat.ble_eq_true_of_le h1,by rw [<-Bool.not_eq_true,Nat.ble_eq];exact h2,Nat.ble_eq_true_of_le h3,hc,?_⟩
     rw [len_fin (d:=40) (e:=0) (y:=x % W / 4294967296 / 256) (n:=blen (x % W)) (by omega) (by omega) hc _ (by kernel_rfl)]
    ·refine pure_fn mixed tt_ok G0_ok Tryz.func173 (by kernel_rfl) (by kernel_rfl) (by kernel_rfl) (by kernel_rfl) 50 [⟨1,1,.lit (.bo true)⟩,⟨4,1,.lit (.bo false)⟩,⟨7,1,.lit (.bo false)⟩,⟨10,3,.sym⟩] ?_
     refine same (p:=Nat.ble 4294967296 (x % W) = true/\Nat.ble 65536 (x % W / 4294967296 % W) = false/\Nat.ble 256 (x % W / 4294967296 % W) = false/\x % W / 4294967296 % W % 256 < 256/\some (AV.v1 (.sc (.it (wrapI (32 + wrapI (Int.ofNat (byteAt Go.Lib.len8tab (x % W / 4294967296 % W % 256) % 256))))))) = some (AV.v1 (.sc (.it (Int.ofNat (blen (x % W))))))) ?_ (by kernel_rfl)
     rw [m1]
     have hc:x % W / 4294967296 < 256:=by simp only [W] at *;omega
     have me:(x % W / 4294967296) % 256 = x % W / 4294967296:=Nat.mod_eq_of_lt hc
     rw [me]
     refine ⟨Nat.ble_eq_true_of_le h1,by rw [<-Bool.not_eq_true,Nat.ble_eq];exact h2,by rw [<-Bool.not_eq_true,Nat.ble_eq];exact h3,hc,?_⟩
     rw [len_fin (d:=32) (e:=0) (y:=x % W / 4294967296) (n:=blen (x % W)) (by omega) (by omega) hc _ (by kernel_rfl)]
  ·by_cases h2:65536 <= x % W
   ·have s2:blen (x % W) = 16 + blen (x % W / 65536):=blen_shift (k:=16) h2
    have m2:x % W / 65536 % W = x % W / 65536:=Nat.mod_eq_of_lt (by simp only [W] at *;omega)
    by_cases h3:256 <= x % W / 65536
    ·have s3:blen (x % W / 65536) = 8 + blen (x % W / 65536 / 256):=blen_shift (k:=8) h3
     have m3:x % W / 65536 / 256 % W = x % W / 65536 / 256:=Nat.mod_eq_of_lt (by simp only [W] at *;omega)
     refine pure_fn mixed tt_ok G0_ok Tryz.func173 (by kernel_rfl) (by kernel_rfl) (by kernel_rfl) (by kernel_rfl) 50 [⟨1,1,.lit (.bo false)⟩,⟨4,1,.lit (.bo true)⟩,⟨7,1,.lit (.bo true)⟩,⟨10,3,.sym⟩] ?_
     refine same (p:=Nat.ble 4294967296 (x % W) = false/\Nat.ble 65536 (x % W) = true/\Nat.ble 256 (x % W / 65536 % W) = true/\x % W / 65536 % W / 256 % W % 256 < 256/\some (AV.v1 (.sc (.it (wrapI (wrapI (wrapI (0 + 16) + 8) + wrapI (Int.ofNat (byteAt Go.Lib.len8tab (x % W / 65536 % W / 256 % W % 256) % 256))))))) = some (AV.v1 (.sc (.it (Int.ofNat (blen (x % W))))))) ?_ (by kernel_rfl)
     rw [m2,m3]
     have hc:x % W / 65536 / 256 < 256:=by simp only [W] at *;omega
     have me:(x % W / 65536 / 256) % 256 = x % W / 65536 / 256:=Nat.mod_eq_of_lt hc
     rw [me]
     refine ⟨by rw [<-Bool.not_eq_true,Nat.ble_eq];exact h1,Nat.ble_eq_true_of_le h2,Nat.ble_eq_true_of_le h3,hc,?_⟩
     rw [len_fin (d:=24) (e:=0) (y:=x % W / 65536 / 256) (n:=blen (x % W)) (by omega) (by omega) hc _ (by kernel_rfl)]
    ·refine pure_fn mixed tt_ok G0_ok Tryz.func173 (by kernel_rfl) (by kernel_rfl) (by kernel_rfl) (by kernel_rfl) 50 [⟨1,1,.lit (.bo false)⟩,⟨4,1,.lit (.bo true)⟩,⟨7,1,.lit (.bo false)⟩,⟨10,3,.sym⟩] ?_
     refine same (p:=Nat.ble 4294967296 (x % W) = false/\Nat.ble 65536 (x % W) = true/\Nat.ble 256 (x % W / 65536 % W) = false/\x % W / 65536 % W % 256 < 256/\some (AV.v1 (.sc (.it (wrapI (wrapI (0 + 16) + wrapI (Int.ofNat (byteAt Go.Lib.len8tab (x % W / 65536 % W % 256) % 256))))))) = some (AV.v1 (.sc (.it (Int.ofNat (blen (x % W))))))) ?_ (by kernel_rfl)
     rw [m2]
     have hc:x % W / 65536 < 256:=by simp only [W] at *;omega
     have me:(x % W / 65536) % 256 = x % W / 65536:=Nat.mod_eq_of_lt hc
     rw [me]
     refine ⟨by rw [<-Bool.not_eq_true,Nat.ble_eq];exact h1,Nat.ble_eq_true_of_le h2,by rw [<-Bool.not_eq_true,Nat.ble_eq];exact h3,hc,?_⟩
     rw [len_fin (d:=16) (e:=0) (y:=x % W / 65536) (n:=blen (x % W)) (by omega) (by omega) hc _ (by kernel_rfl)]
   ·by_cases h3:256 <= x % W
    ·have s3:blen (x % W) = 8 + blen (x % W / 256):=blen_shift (k:=8) h3
     have m3:x % W / 256 % W = x % W / 256:=Nat.mod_eq_of_lt (by simp only [W] at *;omega)
     refine pure_fn mixed tt_ok G0_ok Tryz.func173 (by kernel_rfl) (by kernel_rfl) (by kernel_rfl) (by kernel_rfl) 50 [⟨1,1,.lit (.bo false)⟩,⟨4,1,.lit (.bo false)⟩,⟨7,1,.lit (.bo true)⟩,⟨10,3,.sym⟩] ?_
     refine same (p:=Nat.ble 4294967296 (x % W) = false/\Nat.ble 65536 (x % W) = false/\Nat.ble 256 (x % W) = true/\x % W / 256 % W % 256 < 256/\some (AV.v1 (.sc (.it (wrapI (wrapI (0 + 8) + wrapI (Int.ofNat (byteAt Go.Lib.len8tab (x % W / 256 % W % 256) % 256))))))) = some (AV.v1 (.sc (.it (Int.ofNat (blen (x % W))))))) ?_ (by kernel_rfl)
     rw [m3]
     have hc:x % W / 256 < 256:=by simp only [W] at *;omega
     have me:(x % W / 256) % 256 = x % W / 256:=Nat.mod_eq_of_lt hc
     rw [me]
     refine ⟨by rw [<-Bool.not_eq_true,Nat.ble_eq];exact h1,by rw [<-Bool.not_eq_true,Nat.ble_eq];exact h2,Nat.ble_eq_true_of_le h3,hc,?_⟩
     rw [len_fin (d:=8) (e:=0) (y:=x % W / 256) (n:=blen (x % W)) (by omega) (by omega) hc _ (by kernel_rfl)]
    ·refine pure_fn mixed tt_ok G0_ok Tryz.func173 (by kernel_rfl) (by kernel_rfl) (by kernel_rfl) (by kernel_rfl) 50 [⟨1,1,.lit (.bo false)⟩,⟨4,1,.lit (.bo false)⟩,⟨7,1,.lit (.bo false)⟩,⟨10,3,.sym⟩] ?_
     refine same (p:=Nat.ble 4294967296 (x % W) = false/\Nat.ble 65536 (x % W) = false/\Nat.ble 256 (x % W) = false/\x % W % 256 < 256/\some (AV.v1 (.sc (.it (wrapI (0 + wrapI (Int.ofNat (byteAt Go.Lib.len8tab (x % W % 256) % 256))))))) = some (AV.v1 (.sc (.it (Int.ofNat (blen (x % W))))))) ?_ (by kernel_rfl)
     have hc:x % W < 256:=by simp only [W] at *;omega
     have me:(x % W) % 256 = x % W:=Nat.mod_eq_of_lt hc
     rw [me]
     refine ⟨by rw [<-Bool.not_eq_true,Nat.ble_eq];exact h1,by rw [<-Bool.not_eq_true,Nat.ble_eq];exact h2,by rw [<-Bool.not_eq_true,Nat.ble_eq];exact h3,hc,?_⟩
     rw [len_fin (d:=0) (e:=0) (y:=x % W) (n:=blen (x % W)) (by omega) (by omega) hc _ (by kernel_rfl)]
 ·cases h
def GL:Ctx:=ctxL [(173,.pure cLen64),(182,.pure cBit)]
theorem GL_ok:CtxOk Tryz.prog GL:=ctxL_cons okLen64 (ctxL_cons okBit' ctxL_nil)
def cLen:List AV->Option (List Prop × AV)
 | [.v1 (.agg [.ws .u64 6 a])]=>some ([],.v1 (.sc (.it (Int.ofNat (blen (nv a))))))
 | _=>none
theorem okLen:(CallC.pure cLen).Ok Tryz.prog 129:=by
 intro args pre v h _
 unfold cLen at h
 split at h
 ·rename_i a
  cases h
  refine pure_fn mixed tt_ok GL_ok Tryz.func129 (by kernel_rfl) (by kernel_rfl) (by kernel_rfl) (by kernel_rfl) 100 [] ?_
  refine same (p:=lenP a (fun z=>some (AV.v1 (.sc (.it z))) = some (AV.v1 (.sc (.it (Int.ofNat (blen (nv a))))))) 6) (lenP_of a _ 6 (by omega) (by rw [<-nv_nvn])) (by kernel_rfl)
 ·cases h
end Go.Proofs.YtnjocbcjejpklaaGreat
namespace Go.Proofs.YtnjocbcjejpklaaGreat
open Go.Rq Go
set_option maxRecDepth 100000
abbrev pt (b o:Nat):AV:=.v1 (.sc (.pt b o))
abbrev wv (n:Nat):AV:=.v1 (.sc (.w .u64 n))
abbrev iv (z:Int):AV:=.v1 (.sc (.it z))
abbrev nb (f:Nat->Nat):Option Blk:=some ⟨24,[.ws .u64 6 f],0,0⟩
end Go.Proofs.YtnjocbcjejpklaaGreat
namespace Go.Proofs.YtnjocbcjejpklaaGreat
open Go.Rq Go
set_option maxRecDepth 100000
theorem zero_nv:nv (fun _=>0) = 0:=by simp [nv]
theorem ilt_not {x y:Int} (h:¬ x < y):ilt x y = false:=by rw [<-Bool.not_eq_true,ilt_iff];exact h
end Go.Proofs.YtnjocbcjejpklaaGreat
namespace Go.Rq
def predI:Nat->Int
 | 0=>-1
 | k + 1=>Int.ofNat k
theorem predI_eq {k:Nat} (h:k < 9223372036854775808):wrapI (Int.ofNat k - 1) = predI k:=by
 have:Int.ofNat k - 1 = predI k:=by
  cases k with
  | zero=>rfl
  | succ k=>simp only [predI,Int.ofNat_eq_natCast];omega
 rw [this]
 refine wrapI_id ?_ ?_ <;> (cases k <;> simp only [predI,Int.ofNat_eq_natCast] <;> omega)
structure DivI (A B k q r:Nat):Prop where
 rest:r < B
 quo:∃ Q,q = Q * 2 ^ k/\A / 2 ^ k = Q * B + r
theorem DivI.start {A B k:Nat} (hB:0 < B) (h:A < 2 ^ k):DivI A B k 0 0 :=
 ⟨hB,0,by simp,by rw [Nat.div_eq_of_lt h];simp⟩
theorem DivI.fin {A B q r:Nat} (h:DivI A B 0 q r):q = A / B/\r = A % B:=by
 obtain ⟨hr,Q,hq,hA⟩:=h
 simp only [Nat.pow_zero,Nat.mul_one,Nat.div_one] at hq hA
 subst hq
 have hB:0 < B:=by omega
 refine ⟨?_,?_⟩
 ·rw [hA,Nat.mul_comm,Nat.mul_add_div hB,Nat.div_eq_of_lt hr,Nat.add_zero]
 ·rw [hA,Nat.mul_comm,Nat.mul_add_mod,Nat.mod_eq_of_lt hr]
theorem lt_blen (n:Nat):n < 2 ^ blen n:=by
 by_cases h:n = 0
 ·subst h;rw [blen_zero];decide
 ·exact (blen_bounds h).2
end Go.Rq
namespace Go.Rq
open Go
def isBlk:Code->Bool
 | .block _ _=>true
 | _=>false
def blkOf:Code->Code
 | .block _ c=>c
 | _=>.skip
def hasB:List Code->Bool
 | []=>false
 | c :: r=>match isBlk c with
  | true=>true
  | false=>hasB r
def preB:List Code->List Code
 | []=>[]
 | c :: r=>match isBlk c with
  | true=>[]
  | false=>c :: preB r
def atB:List Code->Code
 | []=>.skip
 | c :: r=>match isBlk c with
  | true=>c
  | false=>atB r
def postB:List Code->List Code
 | []=>[]
 | c :: r=>match isBlk c with
  | true=>r
  | false=>postB r
theorem blk_eq {c:Code} (h:isBlk c = true):c = .block (loopId c) (blkOf c):=by
 unfold isBlk at h
 split at h
 ·rfl
 ·cases h
theorem splitB:∀ {l:List Code},hasB l = true->l = preB l ++ .block (loopId (atB l)) (blkOf (atB l)) :: postB l
 | [],h=>by cases h
 | c :: r,h=>by
  simp only [hasB] at h
  cases hc:isBlk c
  ·simp only [preB,atB,postB,hc]
   rw [hc] at h
   exact congrArg (c :: ·) (splitB (l:=r) h)
  ·simp only [preB,atB,postB,hc]
   rw [<-blk_eq hc];rfl
def PostE (P:Program) (T:TT) (G:Ctx) (fuel id:Nat) (post:List Code) (hs:List Hint) (R:Exit->AS->Prop):Exit->AS->Prop
 | .normal,s=>evS P T G fuel post (fun e s _=>R e s) s hs
 | .exit j,s=>match Nat.beq j id with
  | true=>evS P T G fuel post (fun e s _=>R e s) s hs
  | false=>R (.exit j) s
 | e,s=>R e s
def BothE (P:Program) (T:TT) (G:Ctx) (fuel:Nat) (pre:List Code) (Q:Exit->AS->Prop) (R:Exit->AS->Prop):Exit->AS->List Hint->Prop
 | .normal,s,hs=>evS P T G fuel pre (fun e s _=>Q e s) s hs
 | e,s,_=>R e s
theorem nestF {P:Program} {T:TT} {G:Ctx} {D:Nat->Prop} (hmx:P.follows .mixedOrders = true) (hT:TTOk P T) (hG:CtxOk P G) {c:Code} {l lB:List Code} (hl:hasB l = true) (hlc:l = flatC c)
  (hlB:hasL lB = true) (hlBc:lB = flatC (blkOf (atB l))) {R:Exit->AS->Prop} {s0:AS} {ι:Type} (ks:List Nat) (n m:Nat) (V:ι->List AV) (H:ι->Heap) (μ:ι->Nat) (E:ι->Prop)
  (hm:∀ i,(H i).length = m) (hb:∀ i,liveB (V i) (H i) = true) (hD:∀ i j,D j->Dm (H i) j) (fuel:Nat) (hs hs2 hs3:List Hint)
  (start:evS P T G fuel (preB l) (fun e s hs=>BothE P T G fuel (preL lB) (StartE ks n m V H (PostE P T G fuel (loopId (atB l)) (postB l) hs2 R)) R e s hs) s0 hs)
  (step:∀ i junk,AWq P D (loopOf (atL lB)) (RoundE (loopId (atL lB)) ks n m V H μ i E (PostE P T G fuel (loopId (atB l)) (postB l) hs2 R)) ⟨mkT ks (V i) n junk,H i⟩)
  (fin:∀ j junk,E j->evS P T G fuel (postL lB) (fun e s _=>PostE P T G fuel (loopId (atB l)) (postB l) hs2 R e s) ⟨mkT ks (V j) n junk,H j⟩ hs3) :
  AWq P D c R s0:=by
 refine AWq.of_flat c ?_
 rw [<-hlc,splitB hl]
 refine AWqS.app ((evS_sound hmx hT hG start).mono fun e s ⟨hs',q⟩=>?_)
 have post:∀ s,evS P T G fuel (postB l) (fun e s _=>R e s) s hs2->AWqS P D (postB l) R s:=fun s h=>evS_q hmx hT hG fuel hs2 h
 cases e with
 | normal =>
  show AWq P D (.block _ _) _ s
  refine AWq.block (AWq.of_flat _ ?_)
  rw [<-hlBc,splitL hlB]
  have q:evS P T G fuel (preL lB) (fun e s _=>StartE ks n m V H (PostE P T G fuel (loopId (atB l)) (postB l) hs2 R) e s) s hs':=q
  have main:AWqS P D (preL lB ++ .block (loopId (atL lB)) (.loop (loopOf (atL lB))) :: postL lB) (PostE P T G fuel (loopId (atB l)) (postB l) hs2 R) s :=
   loopS ks n m V H μ E hm hb hD ((evS_q hmx hT hG fuel hs' q).mono fun e s q=>by cases e <;> exact q) step fun j junk e=>evS_q hmx hT hG fuel hs3 (fin j junk e)
  refine main.mono fun e s q=>?_
  cases e with
  | normal=>exact post s q
  | exit j =>
   simp only [PostE] at q
   split at q
   ·rename_i hj
    have:j = loopId (atB l):=Nat.beq_eq.mp hj
    simp only [this,if_true]
    exact post s q
   ·rename_i hj
    have:j ≠ loopId (atB l):=fun e=>by rw [<-Nat.beq_eq,hj] at e;cases e
    simp only [this,if_false]
    exact q
  | _=>exact q
 | _=>exact q
end Go.Rq
namespace Go.Rq
open Go
structure StepW (w w':World):Prop where
 os:w'.os = w.os
 output:w'.output = w.output
 size:w.heap.size <= w'.heap.size
 keep:∀ b,b < w.heap.size->w'.heap[b]? = w.heap[b]?
theorem StepW.frame {w w':World} (h:StepW w w') (may:MemPlace->Prop):w.keptBut w' may:=by
 refine ⟨h.os,h.output,fun i hi=>?_⟩
 rw [h.keep i hi]
 cases w.heap[i]? with
 | none=>trivial
 | some b=>cases b <;> simp
theorem StepW.old {w w':World} (h:StepW w w') (a:Addr) (ha:a.block < w.heap.size):w'.frozen? a = w.frozen? a:=by
 unfold World.frozen?
 rw [h.keep _ ha]
theorem pure_calls {P:Program} {T:TT} (hT:TTOk P T) {f:FuncId} {fn:Func} (hf:P.funcs[f]? = some fn) (hb:fn.body = some (bodyOf fn))
  {args:List AV} (hargs:args.all vokB = true) {v:AV} (hv:vokB v = true)
  (h:AWqS P (fun _=>False) (flatC (bodyOf fn)) (FEnd' T fn v) ⟨frame0 args fn.ntmps,[]⟩) (w:World) :
  Calls P f (args.map (AV.val fun _=>0)).toArray w (fun e w'=>e = .returned (v.val fun _=>0)/\StepW w w'):=by
 have hargs:∀ x ∈ args,x.ok fun _=>False:=fun x hx=>vok_of (List.all_eq_true.1 hargs x hx)
 have hv:v.ok fun _=>False:=vok_of hv
 have h:AWp P (bodyOf fn) (FEnd' T fn v) ⟨frame0 args fn.ntmps,[]⟩:=by
  intro ρ a w r
  have e:Dm ([]:Heap) = fun _=>False:=by funext i;simp [Dm,hget]
  have:=AWq.of_flat _ h ρ w ρ a w r (by rw [e];exact StepR.refl _ _ _)
  rw [e]
  exact this
 refine calls_of_wp hf hb ?_
 have hrel:Rel (fun _=>0) ⟨frame0 args fn.ntmps,[]⟩ { tmps:=(args.map (AV.val fun _=>0)).toArray ++ Array.replicate (fn.ntmps - (args.map (AV.val fun _=>0)).toArray.size) undef,defers:=[] } w:=by
  refine ⟨?_,rfl,fun x hx=>?_,RelH.nil _ _⟩
  ·apply Array.ext'
   simp [frame0,undefA,AV.val,undef]
  ·unfold frame0 at hx
   rcases List.mem_append.1 hx with hx | hx
   ·exact AV.ok_mono (fun _ h=>h.elim) (hargs x hx)
   ·have:=(List.mem_replicate.1 hx).2
    subst this
    intro v hv;cases hv
 refine wp_mono (h _ _ w hrel) fun e a' w' ⟨s',ρ',q,r',st⟩=>?_
 have fin:(∃ v',resA T s' fn.results.toList = some v'/\∀ ρ,v'.val ρ = v.val ρ)->a'.defers = []/\∃ u,(results fn a'.tmps).run P w' = .ok u w'/\(Ending.returned u = .returned (v.val fun _=>0)/\StepW w w'):=by
  intro ⟨v',hres,hvv⟩
  have:=resA_run hT r' (fn:=fn) hres
  refine ⟨r'.defers,_,this.1,?_,⟨st.os,st.output,st.size,fun b hb=>st.keep b hb (fun i hi=>?_)⟩⟩
  ·rw [hvv ρ',val_ok_any hv ρ' fun _=>0]
  ·obtain ⟨c,hc⟩:=hi;simp [hget] at hc
 cases e with
 | normal=>exact fin q
 | ret=>exact fin q
 | exit j=>exact q.elim
 | goto l=>exact q.elim
 | panic ch=>exact q.elim
 | outgrown=>exact q.elim
end Go.Rq
namespace Go.Proofs.YtnjocbcjejpklaaGreat
open Go.Rq Go Go.ChangeShapes Go.WideShapes Go.ChangeAt Go.RowKit
set_option maxRecDepth 100000
theorem Tryz.own:ownKnob Tryz.prog.godebug = none:=by kernel_rfl
theorem u64_lit {z:Int} (h:(Lit.int .u64 z).wf = true):Int.ofNat (z.toNat % W) = z:=by
 simp only [Lit.wf,IntKind.min,IntKind.max,IntKind.signed,IntKind.bits,Bool.and_eq_true] at h
 simp only [W,Int.ofNat_eq_natCast]
 simp at h
 omega
end Go.Proofs.YtnjocbcjejpklaaGreat
namespace Go.Rq
open Go
def idxN (x:Nat):List Nat->Nat->Nat
 | [],k=>k + 1000000
 | y :: r,k=>match Nat.beq x y with
  | true=>k
  | false=>idxN x r (k + 1)
def nthN:List Nat->Nat->Nat
 | [],_=>0
 | a :: _,0=>a
 | _ :: r,i + 1=>nthN r i
theorem idxN_spec {x:Nat}:∀ {m:List Nat} {k:Nat},idxN x m k < k + m.length->k <= idxN x m k/\nthN m (idxN x m k - k) = x
 | [],k,h=>by exfalso;simp [idxN] at h;omega
 | y :: r,k,h=>by
  simp only [idxN] at h ⊢
  cases hb:Nat.beq x y
  ·rw [hb] at h
   simp only at h ⊢
   have:=idxN_spec (x:=x) (m:=r) (k:=k + 1) (by simp at h;omega)
   refine ⟨by omega,?_⟩
   rw [show idxN x r (k + 1) - k = (idxN x r (k + 1) - (k + 1)) + 1 by omega]
   exact this.2
  ·have:x = y:=by rw [<-Nat.beq_eq];exact hb
   simp only [Nat.le_refl,Nat.sub_self,nthN,true_and]
   exact this.symm
def bk (m:List Nat) (b:Nat):Nat:=idxN b m 0
theorem bk_spec {m:List Nat} {b:Nat} (h:bk m b < m.length):nthN m (bk m b) = b:=by
 have:=idxN_spec (x:=b) (m:=m) (k:=0) (by simpa [bk] using h)
 simpa [bk] using this.2
def bkSc (m:List Nat):Sc->Sc
 | .pt b o=>.pt (bk m b) o
 | .sl b o l c=>.sl (bk m b) o l c
 | .so b n=>match Nat.beq (bk m (b + 1)) (bk m b + 1) with
  | true=>.so (bk m b) n
  | false=>.so 1000000 n
 | .sv b o n=>match Nat.beq (bk m (b + 1)) (bk m b + 1) with
  | true=>.sv (bk m b) o n
  | false=>.sv 1000000 o n
 | .fn f caps=>.fn f (caps.map (bk m))
 | s=>s
def bkCell (m:List Nat):Cell->Cell
 | .ws k n f=>.ws k n f
 | .one s=>.one (bkSc m s)
def bkCells (m:List Nat):List Cell->List Cell
 | []=>[]
 | c :: r=>bkCell m c :: bkCells m r
def bkV1 (m:List Nat):V1->V1
 | .sc s=>.sc (bkSc m s)
 | .agg cs=>.agg (bkCells m cs)
def bkV1s (m:List Nat):List V1->List V1
 | []=>[]
 | v :: r=>bkV1 m v :: bkV1s m r
def bkAV (m:List Nat):AV->AV
 | .v1 v=>.v1 (bkV1 m v)
 | .tup l=>.tup (bkV1s m l)
 | .raw v=>.raw v
def bkAVs (m:List Nat):List AV->List AV
 | []=>[]
 | v :: r=>bkAV m v :: bkAVs m r
def bkBlk (m:List Nat) (b:Blk):Blk:=⟨b.ty,bkCells m b.cells,b.lo,b.hi⟩
def rnm (m:List Nat) (ρ:Ren):Ren:=fun i=>ρ (nthN m i)
section
variable {m:List Nat} {D:Nat->Prop} (hD:∀ i,D i->i < m.length/\m.length < 1000000) {ρ:Ren}
include hD
theorem bkSc_val {s:Sc} (h:(bkSc m s).ok D):(bkSc m s).val (rnm m ρ) = s.val ρ:=by
 cases s with
 | pt b o=>simp only [bkSc,Sc.ok] at h;simp only [bkSc,Sc.val,rnm,bk_spec (hD _ h).1]
 | sl b o l c=>simp only [bkSc,Sc.ok] at h;simp only [bkSc,Sc.val,rnm,bk_spec (hD _ h).1]
 | so b n =>
  simp only [bkSc] at h ⊢
  cases hb:Nat.beq (bk m (b + 1)) (bk m b + 1)
  ·rw [hb] at h
   simp only [Sc.ok] at h
   have h1:=hD _ h.1
   omega
  ·rw [hb] at h
   simp only [Sc.ok] at h
   rw [Nat.beq_eq] at hb
   simp only [Sc.val,rnm,bk_spec (hD _ h.1).1]
   have h2:=(hD _ h.2).1
   rw [<-hb] at h2 ⊢
   rw [bk_spec h2]
 | sv b o n =>
  simp only [bkSc] at h ⊢
  cases hb:Nat.beq (bk m (b + 1)) (bk m b + 1)
  ·rw [hb] at h
   simp only [Sc.ok] at h
   have h1:=hD _ h.1
   omega
  ·rw [hb] at h
   simp only [Sc.ok] at h
   rw [Nat.beq_eq] at hb
   simp only [Sc.val,rnm,bk_spec (hD _ h.1).1]
   have h2:=(hD _ h.2).1
   rw [<-hb] at h2 ⊢
   rw [bk_spec h2]
 | fn f caps =>
  simp only [bkSc,Sc.ok] at h
  simp only [bkSc,Sc.val,List.map_map]
  congr 2
  refine List.map_congr_left fun c hc=>?_
  simp only [Function.comp,rnm]
  rw [bk_spec (hD _ (h _ (List.mem_map.2 ⟨c,hc,rfl⟩))).1]
 | _=>rfl
theorem bkCell_vals {c:Cell} (h:(bkCell m c).ok D):(bkCell m c).vals (rnm m ρ) = c.vals ρ:=by
 cases c with
 | ws k n f=>rfl
 | one s=>simp only [bkCell,Cell.ok] at h;simp only [bkCell,Cell.vals,bkSc_val hD h]
theorem bkCells_vals:∀ {cs:List Cell},cok D (bkCells m cs)->cvals (rnm m ρ) (bkCells m cs) = cvals ρ cs
 | [],_=>rfl
 | c :: r,h=>by
  simp only [bkCells,cvals]
  rw [bkCell_vals hD (h _ (by simp [bkCells])),bkCells_vals (cs:=r) fun d hd=>h d (by simp [bkCells,hd])]
theorem bkV1_val {v:V1} (h:(bkV1 m v).ok D):(bkV1 m v).val (rnm m ρ) = v.val ρ:=by
 cases v with
 | sc s=>exact bkSc_val hD h
 | agg cs=>simp only [bkV1,V1.val];rw [bkCells_vals hD h]
theorem bkAV_val {v:AV} (h:(bkAV m v).ok D):(bkAV m v).val (rnm m ρ) = v.val ρ:=by
 cases v with
 | v1 v=>exact bkV1_val hD h
 | tup l =>
  simp only [bkAV,AV.ok] at h
  have key:∀ l:List V1,(∀ v ∈ bkV1s m l,v.ok D)->(bkV1s m l).map (V1.val (rnm m ρ)) = l.map (V1.val ρ):=by
   intro l
   induction l with
   | nil=>intro _;rfl
   | cons v r ih =>
    intro h
    simp only [bkV1s,List.map_cons]
    rw [bkV1_val hD (h _ (by simp [bkV1s])),ih fun u hu=>h u (by simp [bkV1s,hu])]
  simp only [bkAV,AV.val]
  rw [key l h]
 | raw v=>rfl
end
theorem bkCells_len (m:List Nat):∀ cs:List Cell,clen (bkCells m cs) = clen cs
 | []=>rfl
 | c :: r=>by
  simp only [bkCells]
  rw [clen_cons,clen_cons,bkCells_len m r]
  cases c <;> rfl
def pickB (m:List Nat):Option Blk->Option Blk
 | none=>none
 | some b=>some (bkBlk m b)
def pickH (m:List Nat) (h:Heap):List Nat->Heap
 | []=>[]
 | i :: r=>pickB m (hget h i) :: pickH m h r
theorem hget_pickH {m:List Nat} {h:Heap} {b':Blk}:∀ {l:List Nat} {i:Nat},hget (pickH m h l) i = some b'->i < l.length/\∃ b,hget h (nthN l i) = some b/\b' = bkBlk m b
 | [],i,e=>by simp [pickH,hget] at e
 | j :: r,0,e=>by
  simp only [pickH,hget] at e
  refine ⟨by simp,?_⟩
  simp only [nthN]
  cases hh:hget h j with
  | none=>rw [hh] at e;cases e
  | some b=>rw [hh] at e;simp only [pickB,Option.some.injEq] at e;exact ⟨b,rfl,e.symm⟩
 | j :: r,i + 1,e=>by
  simp only [pickH,hget] at e
  have:=hget_pickH (l:=r) e
  exact ⟨by simp;omega,this.2⟩
def notIn (x:Nat):List Nat->Bool
 | []=>true
 | y :: r=>match Nat.beq x y with
  | true=>false
  | false=>notIn x r
def nodupB:List Nat->Bool
 | []=>true
 | x :: r=>match notIn x r with
  | true=>nodupB r
  | false=>false
theorem notIn_spec {x:Nat}:∀ {l:List Nat},notIn x l = true->∀ i,i < l.length->nthN l i ≠ x
 | [],_,i,hi=>by simp at hi
 | y :: r,h,i,hi=>by
  simp only [notIn] at h
  cases hb:Nat.beq x y
  ·rw [hb] at h
   cases i with
   | zero=>simp only [nthN];intro e;subst e;simp at hb
   | succ i=>exact notIn_spec (l:=r) h i (by simpa using hi)
  ·rw [hb] at h;cases h
theorem nodupB_spec:∀ {l:List Nat},nodupB l = true->∀ i j,i < l.length->j < l.length->nthN l i = nthN l j->i = j
 | [],_,i,_,hi,_,_=>by simp at hi
 | x :: r,h,i,j,hi,hj,e=>by
  simp only [nodupB] at h
  cases hb:notIn x r
  ·rw [hb] at h;cases h
  ·rw [hb] at h
   cases i with
   | zero =>
    cases j with
    | zero=>rfl
    | succ j=>exact absurd e.symm (notIn_spec hb j (by simpa using hj))
   | succ i =>
    cases j with
    | zero=>exact absurd e (notIn_spec hb i (by simpa using hi))
    | succ j=>have:=nodupB_spec (l:=r) h i j (by simpa using hi) (by simpa using hj) e;omega
def nextB:List Nat->Heap->Bool
 | a :: b :: r,some k :: h=>match k.lo with
  | 1=>match Nat.beq b (a + 1) with
   | true=>nextB (b :: r) h
   | false=>false
  | _=>nextB (b :: r) h
 | [_],some k :: _=>match k.lo with
  | 1=>false
  | _=>true
 | _ :: r,none :: h=>nextB r h
 | _,_=>true
theorem nextB_spec:∀ {l:List Nat} {h:Heap},nextB l h = true->∀ i b,i < l.length->hget h i = some b->b.lo = 1->nthN l (i + 1) = nthN l i + 1
 | [],_,_,i,b,hi,_,_=>by simp at hi
 | _ :: _,[],_,i,b,_,hb,_=>by simp [hget] at hb
 | [a],none :: h,hn,i,b,hi,hb,_=>by
  have:i = 0:=by simpa using hi
  subst this
  simp [hget] at hb
 | [a],some k :: h,hn,i,b,hi,hb,h1=>by
  have:i = 0:=by simpa using hi
  subst this
  simp only [hget,Option.some.injEq] at hb
  subst hb
  simp only [nextB,h1] at hn
  cases hn
 | a :: b' :: r,none :: h,hn,i,b,hi,hb,h1=>by
  simp only [nextB] at hn
  cases i with
  | zero=>simp [hget] at hb
  | succ i=>exact nextB_spec (l:=b' :: r) hn i b (by simpa using hi) (by simpa [hget] using hb) h1
 | a :: b' :: r,some k :: h,hn,i,b,hi,hb,h1=>by
  simp only [nextB] at hn
  have hrest:nextB (b' :: r) h = true/\(k.lo = 1->b' = a + 1):=by
   split at hn
   ·split at hn
    ·rename_i e;exact ⟨hn,fun _=>by rw [<-Nat.beq_eq];exact e⟩
    ·cases hn
   ·rename_i e;exact ⟨hn,fun e'=>absurd e' e⟩
  cases i with
  | zero =>
   simp only [hget,Option.some.injEq] at hb
   subst hb
   simp only [nthN]
   exact hrest.2 h1
  | succ i=>exact nextB_spec (l:=b' :: r) hrest.1 i b (by simpa using hi) (by simpa [hget] using hb) h1
def chkB (m:List Nat) (h:Heap):Bool:=nodupB m && (nextB m h && Nat.blt m.length 1000000)
theorem Dm_lt {h:Heap} {i:Nat} (hi:Dm h i):i < h.length:=let ⟨_,hb⟩:=hi;hget_lt hb
end Go.Rq
namespace Go.Rq
open Go
theorem RelH.view {ρ:Ren} {h:Heap} {w:World} (r:RelH ρ h w) {m:List Nat} {K:Heap} (hp:pickH m h m = K) (hc:chkB m K = true) (hb:heapB K 0 K = true) :
  RelH (rnm m ρ) K w/\(∀ i,Dm K i->Dm h (nthN m i)):=by
 have hsub:∀ i b,hget K i = some b->i < m.length/\∃ b0,hget h (nthN m i) = some b0/\b = bkBlk m b0:=fun i b hb=>by
  rw [<-hp] at hb;exact hget_pickH hb
 unfold chkB at hc
 simp only [Bool.and_eq_true] at hc
 have hDm:∀ i,Dm K i->i < m.length/\m.length < 1000000:=fun i ⟨b,hb⟩=>⟨(hsub i b hb).1,by rw [<-Nat.blt_eq];exact hc.2.2⟩
 have hcells:∀ i b b0,hget K i = some b->b = bkBlk m b0->cvals (rnm m ρ) b.cells = cvals ρ b0.cells:=fun i b b0 h1 h2=>by
  have:=(heapB_spec hb i b h1).1
  subst h2
  exact bkCells_vals hDm this
 refine ⟨⟨fun i b hg=>(heapB_spec hb i b hg).1,fun i b hg h0=>?_,fun i b hg h1=>?_,fun i b hg=>(heapB_spec hb i b hg).2.1,fun i j hi hj he=>?_,fun i b hg h3=>?_,fun i j b hi hg h3=>?_⟩,fun i ⟨b,hg⟩=>?_⟩
 ·obtain ⟨h1,b0,h2,h3⟩:=hsub i b hg
  have h4:=r.row _ b0 h2 (by subst h3;exact h0)
  rw [hcells i b b0 hg h3]
  subst h3
  exact h4
 ·obtain ⟨h2,b0,h3,h4⟩:=hsub i b hg
  have hcv:=hcells i b b0 hg h4
  obtain ⟨⟨cur,g1,g2,g3,g4,g5,g6⟩,g7⟩:=r.own _ b0 h3 (by subst h4;exact h1)
  have hn:=nextB_spec hc.2.1 i b h2 hg h1
  have hdn:=(heapB_spec hb i b hg).2.2 h1
  rw [Nat.zero_add] at hdn
  refine ⟨⟨cur,?_,?_,?_,?_,?_,?_⟩,hdn⟩
  ·subst h4;exact g1
  ·subst h4;simp only [rnm,hn];exact g2
  ·simp only [rnm,hn];exact g3
  ·simp only [rnm,hn];exact g4
  ·subst h4;simp only [bkBlk,bkCells_len];exact g5
  ·rw [hcv];subst h4;simp only [bkBlk,bkCells_len];exact g6
 ·obtain ⟨b,hg,hl⟩:=hi
  obtain ⟨c,hcj,hl'⟩:=hj
  obtain ⟨h1,b0,h2,h3⟩:=hsub i b hg
  obtain ⟨k1,c0,k2,k3⟩:=hsub j c hcj
  refine nodupB_spec hc.1 i j h1 k1 (r.inj _ _ ⟨b0,h2,?_⟩ ⟨c0,k2,?_⟩ he)
  ·subst h3;exact hl
  ·subst k3;exact hl'
 ·obtain ⟨h1,b0,h2,h4⟩:=hsub i b hg
  obtain ⟨arr,fr,w1,w2,w3⟩:=r.win _ b0 h2 (by subst h4;exact h3)
  have hc:=hcells i b b0 hg h4
  exact ⟨arr,fr,by subst h4;exact w1,by rw [hc];exact w2,by rw [hc];subst h4;exact w3⟩
 ·obtain ⟨c,hc,hl⟩:=hi
  obtain ⟨h1,b0,h2,h4⟩:=hsub j b hg
  obtain ⟨k1,c0,k2,k3⟩:=hsub i c hc
  exact r.sep _ _ b0 ⟨c0,k2,by subst k3;exact hl⟩ h2 (by subst h4;exact h3)
 ·obtain ⟨_,b0,h2,_⟩:=hsub i b hg
  exact ⟨b0,h2⟩
section
variable {m:List Nat} {D D':Nat->Prop} (hD:∀ i,D i->i < m.length/\m.length < 1000000) (hD':∀ i,D i->D' (nthN m i))
include hD hD'
theorem bkSc_ok {s:Sc} (h:(bkSc m s).ok D):s.ok D':=by
 have key:∀ b,D (bk m b)->D' b:=fun b hb=>by have:=hD' _ hb;rw [bk_spec (hD _ hb).1] at this;exact this
 cases s with
 | pt b o=>exact key _ h
 | sl b o l c=>exact key _ h
 | so b n =>
  simp only [bkSc] at h
  cases hb:Nat.beq (bk m (b + 1)) (bk m b + 1)
  ·rw [hb] at h
   simp only [Sc.ok] at h
   have h1:=hD _ h.1
   omega
  ·rw [hb] at h
   simp only [Sc.ok] at h
   rw [Nat.beq_eq] at hb
   rw [<-hb] at h
   exact ⟨key _ h.1,key _ h.2⟩
 | sv b o n =>
  simp only [bkSc] at h
  cases hb:Nat.beq (bk m (b + 1)) (bk m b + 1)
  ·rw [hb] at h
   simp only [Sc.ok] at h
   have h1:=hD _ h.1
   omega
  ·rw [hb] at h
   simp only [Sc.ok] at h
   rw [Nat.beq_eq] at hb
   rw [<-hb] at h
   exact ⟨key _ h.1,key _ h.2⟩
 | fn f caps=>exact fun c hc=>key _ (h _ (List.mem_map.2 ⟨c,hc,rfl⟩))
 | rw v=>exact h
 | _=>trivial
theorem bkCells_ok:∀ {cs:List Cell},cok D (bkCells m cs)->cok D' cs
 | [],_=>fun c hc=>by cases hc
 | c :: r,h=>fun d hd=>by
  rcases List.mem_cons.1 hd with rfl | hd
  ·have:=h _ (by simp only [bkCells];exact List.mem_cons_self ..)
   cases d with
   | ws k n f=>trivial
   | one s=>exact bkSc_ok hD hD' this
  ·exact bkCells_ok (cs:=r) (fun e he=>h e (by simp only [bkCells];exact List.mem_cons_of_mem _ he)) d hd
theorem bkV1_ok {v:V1} (h:(bkV1 m v).ok D):v.ok D':=by
 cases v with
 | sc s=>exact bkSc_ok hD hD' h
 | agg cs=>exact bkCells_ok hD hD' h
theorem bkAV_ok {v:AV} (h:(bkAV m v).ok D):v.ok D':=by
 cases v with
 | v1 v=>exact bkV1_ok hD hD' h
 | tup l =>
  have key:∀ l:List V1,(∀ v ∈ bkV1s m l,v.ok D)->∀ v ∈ l,v.ok D':=by
   intro l
   induction l with
   | nil=>intro _ v hv;cases hv
   | cons v r ih =>
    intro h u hu
    rcases List.mem_cons.1 hu with rfl | hu
    ·exact bkV1_ok hD hD' (h _ (by simp [bkV1s]))
    ·exact ih (fun x hx=>h x (by simp [bkV1s,hx])) u hu
  exact key l h
 | raw v=>trivial
end
theorem nthN_app {a b:List Nat} {i:Nat} (h:i < a.length):nthN (a ++ b) i = nthN a i:=by
 induction a generalizing i with
 | nil=>simp at h
 | cons x r ih =>
  cases i with
  | zero=>rfl
  | succ i=>exact ih (by simpa using h)
theorem nthN_app2 {a b:List Nat} {i:Nat} (h:a.length <= i):nthN (a ++ b) i = nthN b (i - a.length):=by
 induction a generalizing i with
 | nil=>rfl
 | cons x r ih =>
  cases i with
  | zero=>simp at h
  | succ i =>
   simp only [List.cons_append,nthN,List.length_cons]
   rw [ih (by simpa using h)]
   congr 1;omega
def upto:Nat->Nat->List Nat
 | _,0=>[]
 | k,n + 1=>k :: upto (k + 1) n
theorem length_upto:∀ k n,(upto k n).length = n
 | _,0=>rfl
 | k,n + 1=>by simp [upto,length_upto (k + 1) n]
theorem nthN_upto:∀ {k n i:Nat},i < n->nthN (upto k n) i = k + i
 | k,n + 1,0,_=>rfl
 | k,n + 1,i + 1,h=>by
  simp only [upto,nthN]
  rw [nthN_upto (k:=k + 1) (by omega)];omega
def SimB:Option Blk->Option Blk->Prop
 | none,none=>True
 | some b,some c=>b.ty = c.ty/\b.lo = c.lo/\b.hi = c.hi/\∀ ρ,cvals ρ b.cells = cvals ρ c.cells
 | _,_=>False
def SimH:Heap->Heap->Prop
 | [],[]=>True
 | a :: r,b :: s=>SimB a b/\SimH r s
 | _,_=>False
theorem SimH.get:∀ {h k:Heap},SimH h k->∀ i,SimB (hget h i) (hget k i)
 | [],[],_,_=>trivial
 | [],_ :: _,s,_=>s.elim
 | _ :: _,[],s,_=>s.elim
 | _ :: _,_ :: _,hs,0=>hs.1
 | _ :: r,_ :: s,hs,i + 1=>SimH.get (h:=r) (k:=s) hs.2 i
theorem SimH.at {h k:Heap} (s:SimH h k) {i:Nat} {c:Blk} (hk:hget k i = some c):∃ b,hget h i = some b/\b.ty = c.ty/\b.lo = c.lo/\b.hi = c.hi/\∀ ρ,cvals ρ b.cells = cvals ρ c.cells:=by
 have:=s.get i
 rw [hk] at this
 cases hh:hget h i with
 | none=>rw [hh] at this;exact this.elim
 | some b=>rw [hh] at this;exact ⟨b,rfl,this⟩
theorem RelH.sim {ρ:Ren} {h k:Heap} {w:World} (r:RelH ρ h w) (s:SimH h k) (hb:heapB k 0 k = true):RelH ρ k w:=by
 have hL:∀ i,Lv k i->Lv h i:=fun i ⟨c,hc,hl⟩=>let ⟨b,h1,_,h3,_,_⟩:=s.at hc;⟨b,h1,by omega⟩
 refine ⟨fun i c hc=>(heapB_spec hb i c hc).1,fun i c hc h0=>?_,fun i c hc h1=>?_,fun i c hc=>(heapB_spec hb i c hc).2.1,fun i j hi hj=>r.inj i j (hL i hi) (hL j hj),fun i c hc h3=>?_,fun i j c hi hc h3=>?_⟩
 ·obtain ⟨b,e1,e2,e3,e4,e5⟩:=s.at hc
  have:=r.row i b e1 (by omega)
  rw [e2,e3,e4,e5] at this
  exact this
 ·obtain ⟨b,e1,e2,e3,e4,e5⟩:=s.at hc
  obtain ⟨⟨cur,g1,g2,g3,g4,g5,g6⟩,g7⟩:=r.own i b e1 (by omega)
  have hl:clen b.cells = clen c.cells:=by rw [<-length_cvals fun _=>0,<-length_cvals fun _=>0,e5]
  have hd:=(heapB_spec hb i c hc).2.2 h1
  rw [Nat.zero_add] at hd
  exact ⟨⟨cur,by rw [<-e2];exact g1,by rw [<-e4];exact g2,g3,g4,by rw [<-hl];exact g5,by rw [<-hl,g6,e5]⟩,hd⟩
 ·obtain ⟨b,e1,e2,e3,e4,e5⟩:=s.at hc
  obtain ⟨arr,fr,w1,w2,w3⟩:=r.win i b e1 (by omega)
  exact ⟨arr,fr,by rw [<-e2];exact w1,by rw [<-e5];exact w2,by rw [<-e5,<-e4];exact w3⟩
 ·obtain ⟨b,e1,e2,e3,e4,e5⟩:=s.at hc
  exact r.sep i j b (hL i hi) e1 (by omega)
theorem SimH.dm {h k:Heap} (s:SimH h k) {i:Nat} (hi:Dm k i):Dm h i:=let ⟨_,hc⟩:=hi;let ⟨b,hb,_⟩:=s.at hc;⟨b,hb⟩
def FEndM (T:TT) (fn:Func) (mc:List Nat) (vK:AV) (K:Heap):Exit->AS->Prop
 | .normal,s | .ret,s=>chkB mc (pickH mc s.h mc) = true/\heapB (pickH mc s.h mc) 0 (pickH mc s.h mc) = true/\SimH (pickH mc s.h mc) K /\
  ∃ v',resA T s fn.results.toList = some v'/\avB (pickH mc s.h mc) (bkAV mc v') = true/\∀ ρ,(bkAV mc v').val ρ = vK.val ρ
 | _,_=>False
theorem mem_walkW {P:Program} {T:TT} (hT:TTOk P T) {f:FuncId} {fn:Func} (hf:P.funcs[f]? = some fn) (hb:fn.body = some (bodyOf fn)) (hn:(fn.name == "runtime.NumGoroutine") = false)
  {args args':List AV} {h h':Heap} (ins outs:List Nat) (slot:Nat) (H0 K:Heap) {v vK:AV}
  (hc0:chkB ins H0 = true) (hp0:pickH ins h ins = H0) (hb0:heapB H0 0 H0 = true) (ha:bkAVs ins args = args') (hab:args'.all (avB H0) = true) (hall:∀ i,i < ins.length->Lv H0 i∨∃ b,hget H0 i = some b/\b.lo = 3/\hget K i = some b)
  (hKw:∀ i b,hget K i = some b->b.lo = 3->i < ins.length/\hget H0 i = some b)
  (hK:heapB K 0 K = true) (hvK:avB K vK = true) (hKall:∀ i,i < ins.length + outs.length->Dm K i)
  (hm:chkB (ins ++ upto slot outs.length) K = true) (hp:pickH (ins ++ upto slot outs.length) h' (ins ++ upto slot outs.length) = K) (hv:bkAV (ins ++ upto slot outs.length) v = vK)
  (hho:∀ t,t < outs.length->isHole h (slot + t) = true)
  (hrest:∀ i,(∀ j,j < ins.length->nthN ins j ≠ i)->(∀ t,t < outs.length->slot + t ≠ i)->hget h' i = hget h i)
  (hwalk:AWqS P (Dm H0) (flatC (bodyOf fn)) (FEndM T fn (upto 0 ins.length ++ outs) vK K) ⟨frame0 args' fn.ntmps,H0⟩):CallOk P f args h v h':=by
 intro ρ w hr hargs o a next Q hnext
 rw [enter_run hf hb hn,Oper.upon_enter]
 refine calls_of_wp hf hb ?_
 obtain ⟨r0,hsub0⟩:=hr.view hp0 hc0 hb0
 have hlen0:∀ i,Dm H0 i->i < ins.length/\ins.length < 1000000:=fun i ⟨b,hg⟩=>by
  rw [<-hp0] at hg
  unfold chkB at hc0
  simp only [Bool.and_eq_true] at hc0
  exact ⟨(hget_pickH hg).1,by rw [<-Nat.blt_eq];exact hc0.2.2⟩
 have haok:∀ x ∈ args',x.ok (Dm H0):=fun x hx=>avB_spec (List.all_eq_true.1 hab x hx)
 have hav:args'.map (AV.val (rnm ins ρ)) = args.map (AV.val ρ):=by
  rw [<-ha] at haok ⊢
  have key:∀ l:List AV,(∀ x ∈ bkAVs ins l,x.ok (Dm H0))->(bkAVs ins l).map (AV.val (rnm ins ρ)) = l.map (AV.val ρ):=by
   intro l
   induction l with
   | nil=>intro _;rfl
   | cons x r ih =>
    intro hx
    simp only [bkAVs,List.map_cons]
    rw [bkAV_val hlen0 (hx _ (by simp [bkAVs])),ih fun y hy=>hx y (by simp [bkAVs,hy])]
  exact key args haok
 have hrel:Rel (rnm ins ρ) ⟨frame0 args' fn.ntmps,H0⟩ { tmps:=(args.map (AV.val ρ)).toArray ++ Array.replicate (fn.ntmps - (args.map (AV.val ρ)).toArray.size) undef,defers:=[] } w:=by
  refine ⟨?_,rfl,fun x hx=>?_,r0⟩
  ·have hl:args'.length = args.length:=by have:=congrArg List.length hav;simpa using this
   apply Array.ext'
   simp [frame0,hav,hl,undefA,AV.val,undef]
  ·unfold frame0 at hx
   rcases List.mem_append.1 hx with hx | hx
   ·exact haok x hx
   ·have:=(List.mem_replicate.1 hx).2
    subst this
    intro v hv;cases hv
 refine wp_mono (AWq.of_flat _ hwalk (rnm ins ρ) w (rnm ins ρ) _ w hrel (StepR.refl _ _ _)) fun e a' w' ⟨s',ρ',q,r',st⟩=>?_
 have fin:(chkB (upto 0 ins.length ++ outs) (pickH (upto 0 ins.length ++ outs) s'.h (upto 0 ins.length ++ outs)) = true/\heapB (pickH (upto 0 ins.length ++ outs) s'.h (upto 0 ins.length ++ outs)) 0 (pickH (upto 0 ins.length ++ outs) s'.h (upto 0 ins.length ++ outs)) = true /\
   SimH (pickH (upto 0 ins.length ++ outs) s'.h (upto 0 ins.length ++ outs)) K/\∃ v',resA T s' fn.results.toList = some v'/\avB (pickH (upto 0 ins.length ++ outs) s'.h (upto 0 ins.length ++ outs)) (bkAV (upto 0 ins.length ++ outs) v') = true/\∀ ρ,(bkAV (upto 0 ins.length ++ outs) v').val ρ = vK.val ρ) ->
   a'.defers = []/\∃ u,(results fn a'.tmps).run P w' = .ok u w'/\next (a.put o.dst u) w':=by
  intro ⟨q1,q1b,q2,v',q3,q3b,q4⟩
  have hres:=resA_run hT r' (fn:=fn) q3
  refine ⟨r'.defers,_,hres.1,?_⟩
  obtain ⟨rK0,hsubK0⟩:=r'.mem.view rfl q1 q1b
  have rK:=rK0.sim q2 hK
  have hsubK:∀ i,Dm K i->Dm s'.h (nthN (upto 0 ins.length ++ outs) i):=fun i hi=>hsubK0 i (q2.dm hi)
  have hmclen:(upto 0 ins.length ++ outs).length = ins.length + outs.length:=by rw [List.length_append,length_upto]
  have hmlen:(ins ++ upto slot outs.length).length = ins.length + outs.length:=by rw [List.length_append,length_upto]
  have hKlt0:∀ i,Dm (pickH (upto 0 ins.length ++ outs) s'.h (upto 0 ins.length ++ outs)) i->i < ins.length + outs.length:=fun i ⟨b,hg⟩=>by
   rw [<-hmclen];exact (hget_pickH hg).1
  have hKlt:∀ i,Dm K i->i < ins.length + outs.length:=fun i hi=>hKlt0 i (q2.dm hi)
  unfold chkB at q1 hm
  simp only [Bool.and_eq_true] at q1 hm
  have hD1:∀ i,Dm (pickH (upto 0 ins.length ++ outs) s'.h (upto 0 ins.length ++ outs)) i->i < (upto 0 ins.length ++ outs).length/\(upto 0 ins.length ++ outs).length < 1000000:=fun i hi=>⟨by rw [hmclen];exact hKlt0 i hi,by rw [<-Nat.blt_eq];exact q1.2.2⟩
  have hD2:∀ i,Dm K i->i < (ins ++ upto slot outs.length).length/\(ins ++ upto slot outs.length).length < 1000000:=fun i hi=>⟨by rw [hmlen];exact hKlt i hi,by rw [<-Nat.blt_eq];exact hm.2.2⟩
  let ρ2:Ren:=fun i=>if slot <= i/\i < slot + outs.length then ρ' (nthN outs (i - slot)) else ρ i
  have hnew:∀ t,t < outs.length->¬ Dm h (slot + t):=fun t ht hd=>by
   obtain ⟨c,hcc⟩:=hd
   rw [(isHole_lt (hho t ht)).2] at hcc;cases hcc
  have hag:Agree (Dm h) ρ ρ2:=fun i hi=>by
   refine if_neg fun hh=>?_
   exact hnew (i - slot) (by omega) (by rw [show slot + (i - slot) = i by omega];exact hi)
  have hallD:∀ j,j < ins.length->Dm H0 j:=fun j hj=>by
   rcases hall j hj with hl | ⟨b,hb,_⟩
   ·exact hl.dm
   ·exact ⟨b,hb⟩
  have hins:∀ j,j < ins.length->Dm h (nthN ins j):=fun j hj=>hsub0 j (hallD j hj)
  have hinL:∀ j,Lv H0 j->Lv h (nthN ins j):=fun j ⟨b,hg,hbl⟩=>by
   rw [<-hp0] at hg
   obtain ⟨_,b0,h2,h3⟩:=hget_pickH hg
   exact ⟨b0,h2,by subst h3;exact hbl⟩
  have hinW:∀ j b,hget H0 j = some b->b.lo = 3->∃ b0,hget h (nthN ins j) = some b0/\b0.lo = 3:=fun j b hg hbl=>by
   rw [<-hp0] at hg
   obtain ⟨_,b0,h2,h3⟩:=hget_pickH hg
   exact ⟨b0,h2,by subst h3;exact hbl⟩
  have hrn:∀ i,i < ins.length + outs.length->rnm (ins ++ upto slot outs.length) ρ2 i = rnm (upto 0 ins.length ++ outs) ρ' i:=by
   intro i hi
   simp only [rnm]
   by_cases hlt:i < ins.length
   ·rw [nthN_app hlt,nthN_app (by rw [length_upto];exact hlt),nthN_upto hlt,Nat.zero_add,hag _ (hins i hlt)]
    exact (st.agree i (hallD i hlt)).symm
   ·rw [nthN_app2 (by omega),nthN_app2 (by rw [length_upto];omega),length_upto,nthN_upto (by omega)]
    simp only [ρ2]
    rw [if_pos (by omega)]
    congr 2;omega
  have hvalK:∀ {u:AV},u.ok (Dm K)->u.val (rnm (ins ++ upto slot outs.length) ρ2) = u.val (rnm (upto 0 ins.length ++ outs) ρ'):=fun {u} hu=>AV.val_agree (D:=Dm K) (fun i hi=>hrn i (hKlt i hi)) hu
  have hvok:vK.ok (Dm K):=avB_spec hvK
  have hvv:v.val ρ2 = v'.val ρ':=by
   have e1:(bkAV (ins ++ upto slot outs.length) v).val (rnm (ins ++ upto slot outs.length) ρ2) = v.val ρ2:=bkAV_val hD2 (by rw [hv];exact hvok)
   have e2:(bkAV (upto 0 ins.length ++ outs) v').val (rnm (upto 0 ins.length ++ outs) ρ') = v'.val ρ':=bkAV_val hD1 (avB_spec q3b)
   rw [<-e1,<-e2,hv,q4,hvalK hvok]
  have hK':∀ p b,hget K p = some b->∃ b',hget h' (nthN (ins ++ upto slot outs.length) p) = some b'/\b = bkBlk (ins ++ upto slot outs.length) b':=fun p b hg=>by
   rw [<-hp] at hg;exact (hget_pickH hg).2
  have hin:∀ i,Dm h' i->(∃ p,p < ins.length + outs.length/\nthN (ins ++ upto slot outs.length) p = i)∨((∀ j,j < ins.length->nthN ins j ≠ i)/\(∀ t,t < outs.length->slot + t ≠ i)/\hget h' i = hget h i):=by
   intro i hi
   by_cases h1:∃ j,j < ins.length/\nthN ins j = i
   ·obtain ⟨j,hj,e⟩:=h1
    exact .inl ⟨j,by omega,by rw [nthN_app hj];exact e⟩
   ·by_cases h2:∃ t,t < outs.length/\slot + t = i
    ·obtain ⟨t,ht,e⟩:=h2
     exact .inl ⟨ins.length + t,by omega,by rw [nthN_app2 (by omega),Nat.add_sub_cancel_left,nthN_upto ht];exact e⟩
    ·have g1:∀ j,j < ins.length->nthN ins j ≠ i:=fun j hj e=>h1 ⟨j,hj,e⟩
     have g2:∀ t,t < outs.length->slot + t ≠ i:=fun t ht e=>h2 ⟨t,ht,e⟩
     exact .inr ⟨g1,g2,hrest i g1 g2⟩
  have hmD:∀ p,p < ins.length + outs.length->Dm h' (nthN (ins ++ upto slot outs.length) p):=fun p hpl=>by
   obtain ⟨b,hg⟩:=hKall p hpl
   obtain ⟨b',h1,_⟩:=hK' p b hg
   exact ⟨b',h1⟩
  have hsubD:∀ i,Dm h i->Dm h' i:=fun i ⟨b,hg⟩=>by
   by_cases h1:∃ j,j < ins.length/\nthN ins j = i
   ·obtain ⟨j,hj,e⟩:=h1
    have:=hmD j (by omega)
    rw [nthN_app hj,e] at this
    exact this
   ·have g1:∀ j,j < ins.length->nthN ins j ≠ i:=fun j hj e=>h1 ⟨j,hj,e⟩
    have g2:∀ t,t < outs.length->slot + t ≠ i:=fun t ht e=>hnew t ht ⟨b,by rw [e];exact hg⟩
    exact ⟨b,by rw [hrest i g1 g2];exact hg⟩
  have hDK:∀ p,Dm K p->Dm h' (nthN (ins ++ upto slot outs.length) p):=fun p hpd=>hmD p (hKlt p hpd)
  have hkeep:∀ i,Lv h i->(∀ j,j < ins.length->nthN ins j ≠ i)->w'.heap[ρ i]? = w.heap[ρ i]?:=fun i hi hni=>st.keep _ (hr.lt hi) fun j hj e=>by
   have hj':=(hlen0 j hj).1
   rcases hall j hj' with hl0 | ⟨b,hg,hb3,_⟩
   ·exact hni j hj' (hr.inj _ _ (hinL j hl0) hi e)
   ·obtain ⟨b0,h2,h3⟩:=hinW j b hg hb3
    exact hr.sep i _ b0 hi h2 h3 e.symm
  have hkeepW:∀ i b,hget h i = some b->b.lo = 3->w'.heap[ρ i]? = w.heap[ρ i]?:=fun i b hi h3=>by
   by_cases hex:∃ j,Dm H0 j/\rnm ins ρ j = ρ i
   ·obtain ⟨j,hj,e⟩:=hex
    have hj':=(hlen0 j hj).1
    rcases hall j hj' with hl0 | ⟨c,hg,hc3,hgK⟩
    ·exact absurd e (hr.sep _ i b (hinL j hl0) hi h3)
    ·obtain ⟨arr,fr,a1,a2,_⟩:=r0.win j c hg hc3
     obtain ⟨arr',fr',b1,b2,_⟩:=rK.win j c hgK hc3
     have e1:rnm (upto 0 ins.length ++ outs) ρ' j = ρ i:=by
      simp only [rnm]
      rw [nthN_app (by rw [length_upto];exact hj'),nthN_upto hj',Nat.zero_add,st.agree j hj,e]
     have e2:cvals (rnm (upto 0 ins.length ++ outs) ρ') c.cells = cvals (rnm ins ρ) c.cells:=cvals_agree (D:=Dm H0) (fun t ht=>by
      have ht':=(hlen0 t ht).1
      simp only [rnm]
      rw [nthN_app (by rw [length_upto];exact ht'),nthN_upto ht',Nat.zero_add]
      exact st.agree t ht) ((heapB_spec hb0 j c hg).1)
     rw [e2,a2] at b2
     have e3:=wrapB_inj (Option.some.inj b2)
     rw [e1] at b1
     rw [e] at a1
     rw [a1,b1,e3.1,e3.2]
   ·exact st.keep _ (hr.ltW hi h3) fun j hj e=>hex ⟨j,hj,e⟩
  have hmemC:∀ p b',hget h' (nthN (ins ++ upto slot outs.length) p) = some b'->p < ins.length + outs.length->hget K p = some (bkBlk (ins ++ upto slot outs.length) b'):=by
   intro p b' hg hpl
   obtain ⟨b,hgk⟩:=hKall p hpl
   obtain ⟨b2,h1,h2⟩:=hK' p b hgk
   rw [hg] at h1
   cases h1
   rw [hgk,h2]
  have hcvK:∀ p b',hget K p = some (bkBlk (ins ++ upto slot outs.length) b')->p < ins.length + outs.length->cvals ρ2 b'.cells = cvals (rnm (upto 0 ins.length ++ outs) ρ') (bkBlk (ins ++ upto slot outs.length) b').cells:=by
   intro p b' hg hpl
   have hok:=(heapB_spec hK p _ hg).1
   have e1:=bkCells_vals (ρ:=ρ2) hD2 hok
   rw [<-e1]
   exact cvals_agree (D:=Dm K) (fun i hi=>hrn i (hKlt i hi)) hok
  have hr2:∀ p,p < ins.length + outs.length->ρ2 (nthN (ins ++ upto slot outs.length) p) = rnm (upto 0 ins.length ++ outs) ρ' p:=fun p hpl=>hrn p hpl
  have hLvK:∀ p,p < ins.length + outs.length->Lv h' (nthN (ins ++ upto slot outs.length) p)->Lv K p:=fun p hpl ⟨b',hg,hl⟩=>⟨_,hmemC p b' hg hpl,hl⟩
  have hrelH:RelH ρ2 h' w':=by
   refine ⟨fun i b' hg=>?_,fun i b' hg h0=>?_,fun i b' hg h1=>?_,fun i b' hg=>?_,fun i j hi hj he=>?_,fun i b' hg h3=>?_,fun i j b' hi hg h3=>?_⟩
   ·rcases hin i ⟨b',hg⟩ with ⟨p,hpl,rfl⟩ | ⟨g1,g2,g3⟩
    ·have hgk:=hmemC p b' hg hpl
     exact bkCells_ok hD2 hDK (heapB_spec hK p _ hgk).1
    ·rw [g3] at hg;exact cok_mono hsubD (hr.cok i b' hg)
   ·rcases hin i ⟨b',hg⟩ with ⟨p,hpl,rfl⟩ | ⟨g1,g2,g3⟩
    ·have hgk:=hmemC p b' hg hpl
     have:=rK.row p _ hgk h0
     rw [hr2 p hpl,hcvK p b' hgk hpl]
     exact this
    ·rw [g3] at hg
     have hl:Lv h i:=⟨b',hg,by omega⟩
     rw [hag i hl.dm,hkeep i hl g1,hr.row i b' hg h0,cvals_agree hag (hr.cok i b' hg)]
   ·rcases hin i ⟨b',hg⟩ with ⟨p,hpl,rfl⟩ | ⟨g1,g2,g3⟩
    ·have hgk:=hmemC p b' hg hpl
     obtain ⟨⟨cur,e1,e2,e3,e4,e5,e6⟩,e7⟩:=rK.own p _ hgk h1
     have hpl1:=hKlt _ e7
     have hnx:=nextB_spec hm.2.1 p _ (by rw [hmlen];exact hpl) hgk h1
     have e0:=hr2 p hpl
     have e00:=hr2 (p + 1) hpl1
     rw [hnx] at e00
     refine ⟨⟨cur,by rw [e0];exact e1,by rw [e0,e00];exact e2,by rw [e0,e00];exact e3,by rw [e0,e00];exact e4,?_,?_⟩,?_⟩
     ·simp only [bkBlk,bkCells_len] at e5;exact e5
     ·rw [hcvK p b' hgk hpl,<-e6];simp only [bkBlk,bkCells_len]
     ·rw [<-hnx];exact hmD _ hpl1
    ·rw [g3] at hg
     have hl:Lv h i:=⟨b',hg,by omega⟩
     obtain ⟨k1,k2⟩:=hr.own i b' hg h1
     exact ⟨k1.agree hag hl.dm k2 (hr.cok i b' hg) (hkeep i hl g1),hsubD _ k2⟩
   ·rcases hin i ⟨b',hg⟩ with ⟨p,hpl,rfl⟩ | ⟨g1,g2,g3⟩
    ·exact (heapB_spec hK p _ (hmemC p b' hg hpl)).2.1
    ·rw [g3] at hg;exact hr.few i b' hg
   ·have mix:∀ p i,p < ins.length + outs.length->Lv h' (nthN (ins ++ upto slot outs.length) p)->Lv h' i->(∀ j,j < ins.length->nthN ins j ≠ i)->(∀ t,t < outs.length->slot + t ≠ i)->hget h' i = hget h i->ρ2 (nthN (ins ++ upto slot outs.length) p) ≠ ρ2 i:=by
     intro p i hpl hp1 hi g1 g2 g3 e
     have hl:Lv h i:=by obtain ⟨b,hg,hbl⟩:=hi;rw [g3] at hg;exact ⟨b,hg,hbl⟩
     rw [hag i hl.dm] at e
     have viaIn:∀ j,j < ins.length->ρ (nthN ins j) = ρ i->False:=fun j hj e=>by
      rcases hall j hj with hl0 | ⟨b,hg,hb3,_⟩
      ·exact g1 j hj (hr.inj _ _ (hinL j hl0) hl e)
      ·obtain ⟨b0,h2,h3⟩:=hinW j b hg hb3
       exact hr.sep i _ b0 hl h2 h3 e.symm
     by_cases hlt:p < ins.length
     ·rw [nthN_app hlt,hag _ (hins p hlt)] at e
      exact viaIn p hlt e
     ·rw [hr2 p hpl] at e
      simp only [rnm] at e
      rw [nthN_app2 (by rw [length_upto];omega),length_upto] at e
      by_cases hd:Dm H0 (nthN outs (p - ins.length))
      ·have:=st.agree _ hd
       rw [this] at e
       exact viaIn _ (hlen0 _ hd).1 e
      ·have hdd:Dm s'.h (nthN outs (p - ins.length)):=by
        have:=hsubK p (hLvK p hpl hp1).dm
        rw [nthN_app2 (by rw [length_upto];omega),length_upto] at this
        exact this
       rcases st.fresh _ hdd hd with h3 | ⟨j,h3,h4⟩
       ·have:=hr.lt hl;omega
       ·rw [h4] at e
        exact viaIn j (hlen0 j h3).1 e
    rcases hin i hi.dm with ⟨p,hpl,rfl⟩ | ⟨g1,g2,g3⟩ <;> rcases hin j hj.dm with ⟨q,hql,rfl⟩ | ⟨k1,k2,k3⟩
    ·rw [hr2 p hpl,hr2 q hql] at he
     rw [rK.inj p q (hLvK p hpl hi) (hLvK q hql hj) he]
    ·exact absurd he (mix p j hpl hi hj k1 k2 k3)
    ·exact absurd he.symm (mix q i hql hj hi g1 g2 g3)
    ·have l1:Lv h i:=by obtain ⟨b,hg,hbl⟩:=hi;rw [g3] at hg;exact ⟨b,hg,hbl⟩
     have l2:Lv h j:=by obtain ⟨b,hg,hbl⟩:=hj;rw [k3] at hg;exact ⟨b,hg,hbl⟩
     rw [hag i l1.dm,hag j l2.dm] at he
     exact hr.inj i j l1 l2 he
   ·rcases hin i ⟨b',hg⟩ with ⟨p,hpl,rfl⟩ | ⟨g1,g2,g3⟩
    ·have hgk:=hmemC p b' hg hpl
     obtain ⟨arr,fr,e1,e2,e3⟩:=rK.win p _ hgk h3
     exact ⟨arr,fr,by rw [hr2 p hpl];exact e1,by rw [hcvK p b' hgk hpl];exact e2,by rw [hcvK p b' hgk hpl];exact e3⟩
    ·rw [g3] at hg
     exact (hr.win i b' hg h3).agree hag ⟨b',hg⟩ (hr.cok i b' hg) (hkeepW i b' hg h3)
   ·intro he
    rcases hin i hi.dm with ⟨p,hpl,rfl⟩ | ⟨g1,g2,g3⟩ <;> rcases hin j ⟨b',hg⟩ with ⟨q,hql,rfl⟩ | ⟨k1,k2,k3⟩
    ·rw [hr2 p hpl,hr2 q hql] at he
     exact rK.sep p q _ (hLvK p hpl hi) (hmemC q b' hg hql) h3 he
    ·rw [k3] at hg
     rw [hag j ⟨b',hg⟩] at he
     have viaIn:∀ t,Dm H0 t->ρ (nthN ins t) = ρ j->rnm (upto 0 ins.length ++ outs) ρ' p = ρ' t->False:=fun t ht e e'=>by
      have ht':=(hlen0 t ht).1
      rcases hall t ht' with hl0 | ⟨b,hgt,hb3,hbK⟩
      ·exact hr.sep _ j b' (hinL t hl0) hg h3 e
      ·refine rK.sep p t b (hLvK p hpl hi) hbK hb3 ?_
       rw [e']
       simp only [rnm]
       rw [nthN_app (by rw [length_upto];exact ht'),nthN_upto ht',Nat.zero_add]
     rw [hr2 p hpl] at he
     by_cases hlt:p < ins.length
     ·have hd:=hallD p hlt
      have e':rnm (upto 0 ins.length ++ outs) ρ' p = ρ' p:=by
       simp only [rnm]
       rw [nthN_app (by rw [length_upto];exact hlt),nthN_upto hlt,Nat.zero_add]
      refine viaIn p hd ?_ e'
      rw [<-he,e',st.agree p hd]
      rfl
     ·have e':rnm (upto 0 ins.length ++ outs) ρ' p = ρ' (nthN outs (p - ins.length)):=by
       simp only [rnm]
       rw [nthN_app2 (by rw [length_upto];omega),length_upto]
      by_cases hd:Dm H0 (nthN outs (p - ins.length))
      ·refine viaIn _ hd ?_ e'
       rw [<-he,e',st.agree _ hd]
       rfl
      ·have hdd:Dm s'.h (nthN outs (p - ins.length)):=by
        have:=hsubK p (hLvK p hpl hi).dm
        rw [nthN_app2 (by rw [length_upto];omega),length_upto] at this
        exact this
       rcases st.fresh _ hdd hd with h4 | ⟨t,h4,h5⟩
       ·have:=hr.ltW hg h3;rw [e'] at he;omega
       ·refine viaIn t h4 ?_ (by rw [e',h5,st.agree t h4])
        rw [<-he,e',h5]
        rfl
    ·have l1:Lv h i:=by obtain ⟨b,hg,hbl⟩:=hi;rw [g3] at hg;exact ⟨b,hg,hbl⟩
     obtain ⟨hq,hq0⟩:=hKw q _ (hmemC q b' hg hql) h3
     obtain ⟨b0,h2,h4⟩:=hinW q _ hq0 h3
     rw [hag i l1.dm,nthN_app hq,hag _ (hins q hq)] at he
     exact hr.sep i _ b0 l1 h2 h4 he
    ·have l1:Lv h i:=by obtain ⟨b,hg,hbl⟩:=hi;rw [g3] at hg;exact ⟨b,hg,hbl⟩
     rw [k3] at hg
     rw [hag i l1.dm,hag j ⟨b',hg⟩] at he
     exact hr.sep i j b' l1 hg h3 he
  have hstep:StepR (Dm h) ρ w (Dm h') ρ2 w':=by
   refine ⟨hag,hsubD,st.size,st.os,st.tape,st.output,fun b hbl hne=>st.keep b hbl fun i hi=>hne _ (hsub0 i hi),fun i hi hni=>?_⟩
   rcases hin i hi with ⟨p,hpl,rfl⟩ | ⟨g1,g2,g3⟩
   ·by_cases hlt:p < ins.length
    ·rw [nthN_app hlt] at hni;exact absurd (hins p hlt) hni
    ·rw [hr2 p hpl]
     simp only [rnm]
     rw [nthN_app2 (by rw [length_upto];omega),length_upto]
     by_cases hd:Dm H0 (nthN outs (p - ins.length))
     ·exact .inr ⟨_,hsub0 _ hd,st.agree _ hd⟩
     ·have hdd:Dm s'.h (nthN outs (p - ins.length)):=by
       have:=hsubK p (hKall p hpl)
       rw [nthN_app2 (by rw [length_upto];omega),length_upto] at this
       exact this
      rcases st.fresh _ hdd hd with h3 | ⟨j,h3,h4⟩
      ·exact .inl h3
      ·exact .inr ⟨_,hsub0 j h3,h4⟩
   ·obtain ⟨b,hg⟩:=hi
    rw [g3] at hg
    exact absurd ⟨b,hg⟩ hni
  have:=hnext ρ2 w' hstep hrelH (bkAV_ok hD2 hDK (by rw [hv];exact hvok))
  rw [hvv] at this
  exact this
 cases e with
 | normal=>exact fin q
 | ret=>exact fin q
 | exit j=>exact q.elim
 | goto l=>exact q.elim
 | panic ch=>exact q.elim
 | outgrown=>exact q.elim
def noWinB:Heap->Bool
 | []=>true
 | none :: r=>noWinB r
 | some b :: r=>Nat.blt b.lo 3 && noWinB r
theorem noWinB_spec:∀ {h:Heap},noWinB h = true->∀ i b,hget h i = some b->b.lo < 3
 | [],_,i,b,hb=>by simp [hget] at hb
 | none :: r,h,0,b,hb=>by simp [hget] at hb
 | none :: r,h,i + 1,b,hb=>noWinB_spec (h:=r) h i b (by simpa [hget] using hb)
 | some c :: r,h,0,b,hb=>by
  simp only [noWinB,Bool.and_eq_true,Nat.blt_eq] at h
  simp only [hget,Option.some.injEq] at hb
  subst hb;exact h.1
 | some c :: r,h,i + 1,b,hb=>by
  simp only [noWinB,Bool.and_eq_true] at h
  exact noWinB_spec (h:=r) h.2 i b (by simpa [hget] using hb)
theorem mem_walk {P:Program} {T:TT} (hT:TTOk P T) {f:FuncId} {fn:Func} (hf:P.funcs[f]? = some fn) (hb:fn.body = some (bodyOf fn)) (hn:(fn.name == "runtime.NumGoroutine") = false)
  {args args':List AV} {h h':Heap} (ins outs:List Nat) (slot:Nat) (H0 K:Heap) {v vK:AV}
  (hc0:chkB ins H0 = true) (hp0:pickH ins h ins = H0) (hb0:heapB H0 0 H0 = true) (ha:bkAVs ins args = args') (hab:args'.all (avB H0) = true) (hall:∀ i,i < ins.length->Lv H0 i)
  (hK:heapB K 0 K = true) (hvK:avB K vK = true) (hKall:∀ i,i < ins.length + outs.length->Dm K i)
  (hm:chkB (ins ++ upto slot outs.length) K = true) (hp:pickH (ins ++ upto slot outs.length) h' (ins ++ upto slot outs.length) = K) (hv:bkAV (ins ++ upto slot outs.length) v = vK)
  (hho:∀ t,t < outs.length->isHole h (slot + t) = true)
  (hrest:∀ i,(∀ j,j < ins.length->nthN ins j ≠ i)->(∀ t,t < outs.length->slot + t ≠ i)->hget h' i = hget h i)
  (hwalk:AWqS P (Dm H0) (flatC (bodyOf fn)) (FEndM T fn (upto 0 ins.length ++ outs) vK K) ⟨frame0 args' fn.ntmps,H0⟩) (hnw:noWinB K = true:=by kernel_rfl):CallOk P f args h v h' :=
 mem_walkW hT hf hb hn ins outs slot H0 K hc0 hp0 hb0 ha hab (fun i hi=>.inl (hall i hi)) (fun i b hb h3=>by have:=noWinB_spec hnw i b hb;omega) hK hvK hKall hm hp hv hho hrest hwalk
end Go.Rq
namespace Go.Rq
open Go
theorem bkSc_plain {m:List Nat} {s:Sc} (h:zokS s = true):bkSc m s = s:=by
 cases s with
 | fn f caps =>
  cases caps with
  | nil=>rfl
  | cons c r=>cases h
 | pt _ _=>cases h
 | sl _ _ _ _=>cases h
 | so _ _=>cases h
 | sv _ _ _=>cases h
 | _=>rfl
def plainCs (cs:List Cell):Bool:=zokB (.agg cs)
theorem bkCells_plain {m:List Nat}:∀ {cs:List Cell},plainCs cs = true->bkCells m cs = cs
 | [],_=>rfl
 | c :: r,h=>by
  unfold plainCs zokB at h
  simp only [List.all_cons,Bool.and_eq_true] at h
  have hr:bkCells m r = r:=bkCells_plain (cs:=r) h.2
  simp only [bkCells,hr]
  congr 1
  cases c with
  | ws k n f=>rfl
  | one s=>exact congrArg Cell.one (bkSc_plain h.1)
theorem bkV1_plain {m:List Nat} {v:V1} (h:zokB v = true):bkV1 m v = v:=by
 cases v with
 | sc s=>exact congrArg V1.sc (bkSc_plain h)
 | agg cs=>exact congrArg V1.agg (bkCells_plain h)
theorem bkAV_plain {m:List Nat} {v:AV} (h:vokB v = true):bkAV m v = v:=by
 cases v with
 | v1 v=>exact congrArg AV.v1 (bkV1_plain h)
 | tup l =>
  unfold vokB at h
  have key:∀ l:List V1,l.all zokB = true->bkV1s m l = l:=by
   intro l
   induction l with
   | nil=>intro _;rfl
   | cons v r ih =>
    intro h
    simp only [List.all_cons,Bool.and_eq_true] at h
    simp only [bkV1s,bkV1_plain h.1,ih h.2]
  exact congrArg AV.tup (key l h)
 | raw v=>rfl
theorem bkAVs_plain {m:List Nat}:∀ {l:List AV},l.all vokB = true->bkAVs m l = l
 | [],_=>rfl
 | v :: r,h=>by
  simp only [List.all_cons,Bool.and_eq_true] at h
  simp only [bkAVs,bkAV_plain h.1,bkAVs_plain h.2]
theorem avB_plain {h:Heap} {v:AV} (hv:vokB v = true):avB h v = true:=by
 have key:∀ s:Sc,zokS s = true->scB h s = true:=by
  intro s hs
  cases s with
  | fn f caps =>
   cases caps with
   | nil=>rfl
   | cons c r=>cases hs
  | pt _ _=>cases hs
  | sl _ _ _ _=>cases hs
  | so _ _=>cases hs
  | sv _ _ _=>cases hs
  | rw v=>exact hs
  | _=>rfl
 have keyV:∀ v:V1,zokB v = true->v1B h v = true:=by
  intro v hv
  cases v with
  | sc s=>exact key s hv
  | agg cs =>
   have kc:∀ cs:List Cell,plainCs cs = true->cellsB h cs = true:=by
    intro cs
    induction cs with
    | nil=>intro _;rfl
    | cons c r ih =>
     intro hc
     unfold plainCs zokB at hc
     simp only [List.all_cons,Bool.and_eq_true] at hc
     cases c with
     | ws k n f=>exact ih hc.2
     | one s=>simp only [cellsB,Bool.and_eq_true];exact ⟨key s hc.1,ih hc.2⟩
   exact kc cs hv
 cases v with
 | v1 v=>exact keyV v hv
 | tup l =>
  unfold vokB at hv
  exact List.all_eq_true.2 fun x hx=>keyV x (List.all_eq_true.1 hv x hx)
 | raw v=>rfl
theorem cellsB_plain {h:Heap} {cs:List Cell} (hc:plainCs cs = true):cellsB h cs = true:=avB_plain (h:=h) (v:=.v1 (.agg cs)) hc
end Go.Rq
namespace Go.Rq
def sB (B:Nat) (f:Nat->Nat):Nat->Nat
 | 0=>0
 | i + 1=>sB B f i + B ^ i * (f i % W)
theorem sB_W (f:Nat->Nat):∀ i,sB W f i = nvn f i
 | 0=>rfl
 | i + 1=>by simp only [sB,nvn,sB_W f i]
theorem sB_congr {B:Nat} {f g:Nat->Nat}:∀ {i},(∀ j,j < i->f j % W = g j % W)->sB B f i = sB B g i
 | 0,_=>rfl
 | i + 1,h=>by simp only [sB];rw [sB_congr (i:=i) fun j hj=>h j (by omega),h i (by omega)]
theorem sB_upd_hi {B:Nat} (f:Nat->Nat) {j m x:Nat} (h:m <= j):sB B (upd f j x) m = sB B f m :=
 sB_congr fun i hi=>by rw [upd_ne _ _ (by omega)]
theorem sB_upd {B:Nat} (f:Nat->Nat) {j x:Nat}:∀ {m},j < m->sB B (upd f j x) m + B ^ j * (f j % W) = sB B f m + B ^ j * (x % W)
 | m + 1,h=>by
  simp only [sB]
  by_cases e:j = m
  ·subst e;rw [upd_same,sB_upd_hi f (Nat.le_refl _)];omega
  ·have:=sB_upd (B:=B) f (j:=j) (x:=x) (m:=m) (by omega)
   rw [upd_ne _ _ (show m ≠ j by omega)]
   omega
structure RowI (B:Nat) (x y:Nat->Nat) (n i k:Nat) (all:Nat->Nat) (c:Nat):Prop where
 val:sB B all (i + n) + B ^ (i + k) * c = sB B x i * sB B y n + B ^ i * (x i % W) * sB B y k
 small:∀ j,all j % W < B
 carry:c < B
theorem RowI.start {B:Nat} {x y all:Nat->Nat} {n i:Nat} (hB:0 < B) (h:sB B all (i + n) = sB B x i * sB B y n) (hs:∀ j,all j % W < B):RowI B x y n i 0 all 0 :=
 ⟨by simp [sB,h],hs,hB⟩
theorem RowI.step {B:Nat} {x y all:Nat->Nat} {n i k c l c':Nat} (h:RowI B x y n i k all c) (hk:k < n) (e:l % W + B * c' = all (i + k) % W + c + x i % W * (y k % W)) (hl:l % W < B) (hc:c' < B) :
  RowI B x y n i (k + 1) (upd all (i + k) l) c':=by
 refine ⟨?_,fun j=>?_,hc⟩
 ·have h1:=sB_upd (B:=B) all (j:=i + k) (x:=l) (m:=i + n) (by omega)
  have h2:=h.val
  simp only [sB]
  rw [Nat.mul_add,<-Nat.add_assoc (sB B x i * sB B y n),<-h2]
  have e3:B ^ (i + (k + 1)) * c' = B ^ (i + k) * (B * c'):=by rw [<-Nat.add_assoc,Nat.pow_succ,Nat.mul_assoc]
  have e4:B ^ i * (x i % W) * (B ^ k * (y k % W)) = B ^ (i + k) * (x i % W * (y k % W)):=by
   rw [Nat.pow_add];simp only [Nat.mul_assoc,Nat.mul_left_comm,Nat.mul_comm]
  rw [e3,e4]
  have e5:B ^ (i + k) * (l % W) + B ^ (i + k) * (B * c') = B ^ (i + k) * (all (i + k) % W) + B ^ (i + k) * c + B ^ (i + k) * (x i % W * (y k % W)):=by
   rw [<-Nat.mul_add,<-Nat.mul_add,<-Nat.mul_add,e]
  omega
 ·by_cases hj:j = i + k
  ·subst hj;rw [upd_same];exact hl
  ·rw [upd_ne _ _ hj];exact h.small j
theorem RowI.fin {B:Nat} {x y all:Nat->Nat} {n i c:Nat} (h:RowI B x y n i n all c) (hB:B <= W):sB B (upd all (i + n) c) (i + 1 + n) = sB B x (i + 1) * sB B y n/\∀ j,upd all (i + n) c j % W < B:=by
 have hcW:c % W = c:=Nat.mod_eq_of_lt (Nat.lt_of_lt_of_le h.carry hB)
 refine ⟨?_,fun j=>?_⟩
 ·rw [show i + 1 + n = i + n + 1 by omega]
  simp only [sB]
  rw [upd_same,sB_upd_hi all (Nat.le_refl _),hcW,h.val,Nat.add_mul]
 ·by_cases hj:j = i + n
  ·subst hj;rw [upd_same,hcW];exact h.carry
  ·rw [upd_ne _ _ hj];exact h.small j
def mC1 (x y p:Nat):Nat:=(x * y % W + p % W + 0 % W) / W
def mLo (x y p c:Nat):Nat:=x * y + p + 0 + c + 0
def mC2 (x y p c:Nat):Nat:=((x * y + p + 0) % W + c % W + 0 % W) / W
def mHi (x y p c:Nat):Nat:=x % W * (y % W) / W + mC1 x y p + mC2 x y p c
theorem m_step {x y p c:Nat} (hc:c < W):mLo x y p c % W + W * mHi x y p c = p % W + c + x % W * (y % W)/\mHi x y p c < W:=by
 have hx:x % W < W:=Nat.mod_lt _ (by decide)
 have hy:y % W < W:=Nat.mod_lt _ (by decide)
 have hp:p % W < W:=Nat.mod_lt _ (by decide)
 have hxy:x * y % W = x % W * (y % W) % W:=Nat.mul_mod _ _ _
 have hub:x % W * (y % W) <= (W - 1) * (W - 1):=Nat.mul_le_mul (by omega) (by omega)
 unfold mLo mHi mC1 mC2
 have e0:(x * y + p + 0 + c + 0) % W = (x * y % W + p % W + c) % W:=by simp only [W];omega
 have e1:(x * y + p + 0) % W = (x * y % W + p % W) % W:=by simp only [W];omega
 rw [e0,e1,hxy]
 generalize x % W * (y % W) = t at *
 generalize p % W = q at *
 simp only [W] at *
 omega
theorem sB_add (B:Nat) (f:Nat->Nat) (m:Nat):∀ k,sB B f (m + k) = sB B f m + B ^ m * sB B (fun j=>f (m + j)) k
 | 0=>by simp [sB]
 | k + 1=>by
  rw [<-Nat.add_assoc]
  simp only [sB]
  rw [sB_add B f m k,Nat.mul_add,Nat.pow_add,Nat.mul_assoc,Nat.add_assoc]
theorem sB_split (f:Nat->Nat):sB W f 12 = nv f + R * nv (fun j=>f (6 + j)):=by
 rw [show 12 = 6 + 6 from rfl,sB_add,sB_W,sB_W,<-nv_nvn,<-nv_nvn,<-R_eq]
theorem mul_halves {a b all:Nat->Nat} (h:sB W all 12 = sB W a 6 * sB W b 6):nv all = nv a * nv b % R/\nv (fun j=>all (6 + j)) = nv a * nv b / R:=by
 rw [sB_split,sB_W,sB_W,<-nv_nvn,<-nv_nvn] at h
 have h1:=nv_lt all
 rw [<-h]
 refine ⟨by rw [Nat.add_mul_mod_self_left,Nat.mod_eq_of_lt h1],by rw [Nat.add_mul_div_left _ _ (by decide),Nat.div_eq_of_lt h1,Nat.zero_add]⟩
end Go.Rq
namespace Go.Rq
open Go
def rinv (N:Nat):Nat:=((N + 1) / 2) ^ E % N
theorem rinv_spec {N:Nat} (h1:N % 2 = 1):R * rinv N % N = 1 % N:=by
 unfold rinv
 rw [Nat.mul_mod,Nat.mod_mod,<-Nat.mul_mod,R_pow,<-Nat.mul_pow,show 2 * ((N + 1) / 2) = N + 1 by omega,Nat.pow_mod,Nat.add_mod_left]
 rw [<-Nat.pow_mod,Nat.one_pow]
def montV (N x y:Nat):Nat:=x * y * rinv N % N
theorem mont_unique {N x y r:Nat} (h1:N % 2 = 1) (hr:r < N) (h:r * R % N = x * y % N):r = montV N x y:=by
 have e1:r * (R * rinv N) % N = r:=by
  rw [Nat.mul_mod,rinv_spec h1,<-Nat.mul_mod,Nat.mul_one,Nat.mod_eq_of_lt hr]
 have e2:r * (R * rinv N) % N = montV N x y:=by
  unfold montV
  rw [<-Nat.mul_assoc,Nat.mul_mod,h,<-Nat.mul_mod]
 rw [<-e1,e2]
theorem montV_lt {N x y:Nat} (h:0 < N):montV N x y < N:=Nat.mod_lt _ h
theorem mont_end {N A B T Q:Nat} (h1:N % 2 = 1) (hN:0 < N) (hA:A < R) (hB:B < R) (hAB:A < N∨B < N) (hQ:Q < R) (h:T * R = A * B + Q * N) :
  T < 2 * N/\(bif Nat.ble N T then T - N else T) = montV N A B:=by
 have hlt:T < 2 * N:=by
  refine Nat.lt_of_mul_lt_mul_right (a:=R) ?_
  rw [h]
  have hRpos:0 < R:=by decide
  have h2:Q * N < R * N:=Nat.mul_lt_mul_of_pos_right hQ hN
  have h3:A * B <= N * R:=by
   rcases hAB with h | h
   ·exact Nat.mul_le_mul (by omega) (by omega)
   ·rw [Nat.mul_comm N];exact Nat.mul_le_mul (by omega) (by omega)
  rw [show 2 * N * R = N * R + R * N by rw [Nat.mul_comm R,Nat.mul_assoc,Nat.two_mul]]
  omega
 have hmod:T * R % N = A * B % N:=by rw [h,Nat.add_mul_mod_self_right]
 refine ⟨hlt,?_⟩
 cases hb:Nat.ble N T
 ·have:¬ N <= T:=by rw [<-Nat.ble_eq,hb];simp
  simp only [cond_false]
  exact mont_unique h1 (by omega) hmod
 ·rw [Nat.ble_eq] at hb
  refine mont_unique h1 (by simp only [cond_true];omega) ?_
  simp only [cond_true]
  rw [<-hmod,show T * R = (T - N) * R + R * N by rw [Nat.mul_comm R,<-Nat.add_mul];congr 1;omega,Nat.add_mul_mod_self_right]
theorem mont_round {T S T2 x B q N:Nat} (h1:S = T + x * B) (h2:T2 * W = S + q * N) {i Ai Q:Nat} (hT:T * W ^ i = Ai * B + Q * N) (hQ:Q < W ^ i) (hq:q < W) :
  T2 * W ^ (i + 1) = (Ai + W ^ i * x) * B + (Q + q * W ^ i) * N/\Q + q * W ^ i < W ^ (i + 1):=by
 constructor
 ·rw [Nat.pow_succ,show T2 * (W ^ i * W) = T2 * W * W ^ i by rw [Nat.mul_assoc,Nat.mul_comm W]]
  rw [h2,h1,Nat.add_mul,Nat.add_mul,hT,Nat.add_mul,Nat.add_mul]
  rw [show x * B * W ^ i = W ^ i * x * B by rw [Nat.mul_comm (x * B),Nat.mul_assoc],show q * N * W ^ i = q * W ^ i * N by rw [Nat.mul_assoc,Nat.mul_comm N,<-Nat.mul_assoc]]
  omega
 ·have h3:(q + 1) * W ^ i <= W * W ^ i:=Nat.mul_le_mul_right _ hq
  rw [Nat.add_mul,Nat.one_mul] at h3
  rw [Nat.pow_succ,Nat.mul_comm (W ^ i) W]
  omega
theorem mont_words {t0 t1 t2 t3 t4 t5 t6 b0 b1 b2 b3 b4 b5 x l0 l1 l2 l3 l4 l5 s6 s7 c1 c2 c3 c4 c5 c6:Nat}
  (e0:l0 + W * c1 = t0 + 0 + x * b0) (e1:l1 + W * c2 = t1 + c1 + x * b1) (e2:l2 + W * c3 = t2 + c2 + x * b2) (e3:l3 + W * c4 = t3 + c3 + x * b3)
  (e4:l4 + W * c5 = t4 + c4 + x * b4) (e5:l5 + W * c6 = t5 + c5 + x * b5) (e6:s6 + W * s7 = t6 + c6) :
  l0 + W * (l1 + W * (l2 + W * (l3 + W * (l4 + W * (l5 + W * (s6 + W * s7)))))) = t0 + W * (t1 + W * (t2 + W * (t3 + W * (t4 + W * (t5 + W * t6))))) + x * (b0 + W * (b1 + W * (b2 + W * (b3 + W * (b4 + W * b5))))):=by
 have hx:x * (b0 + W * (b1 + W * (b2 + W * (b3 + W * (b4 + W * b5))))) = x * b0 + W * (x * b1 + W * (x * b2 + W * (x * b3 + W * (x * b4 + W * (x * b5))))):=by
  grind
 rw [hx]
 generalize x * b0 = y0 at *
 generalize x * b1 = y1 at *
 generalize x * b2 = y2 at *
 generalize x * b3 = y3 at *
 generalize x * b4 = y4 at *
 generalize x * b5 = y5 at *
 simp only [W] at *
 omega
theorem mont_less {l0 l1 l2 l3 l4 l5 s6 s7 n0 n1 n2 n3 n4 n5 q d1 d2 d3 d4 d5 d6 m0 m1 m2 m3 m4 m5 m6 c:Nat}
  (e0:W * d1 = l0 + q * n0) (e1:m0 + W * d2 = l1 + d1 + q * n1) (e2:m1 + W * d3 = l2 + d2 + q * n2) (e3:m2 + W * d4 = l3 + d3 + q * n3)
  (e4:m3 + W * d5 = l4 + d4 + q * n4) (e5:m4 + W * d6 = l5 + d5 + q * n5) (e6:m5 + W * c = s6 + d6) (e7:m6 = s7 + c) :
  (m0 + W * (m1 + W * (m2 + W * (m3 + W * (m4 + W * (m5 + W * m6)))))) * W = l0 + W * (l1 + W * (l2 + W * (l3 + W * (l4 + W * (l5 + W * (s6 + W * s7)))))) + q * (n0 + W * (n1 + W * (n2 + W * (n3 + W * (n4 + W * n5))))):=by
 have hx:q * (n0 + W * (n1 + W * (n2 + W * (n3 + W * (n4 + W * n5))))) = q * n0 + W * (q * n1 + W * (q * n2 + W * (q * n3 + W * (q * n4 + W * (q * n5))))):=by
  grind
 rw [hx]
 generalize q * n0 = y0 at *
 generalize q * n1 = y1 at *
 generalize q * n2 = y2 at *
 generalize q * n3 = y3 at *
 generalize q * n4 = y4 at *
 generalize q * n5 = y5 at *
 simp only [W] at *
 omega
end Go.Rq
namespace Go.Rq
open Go
theorem cg {N x y:Nat} (c:Nat) (h:x % N = y % N):x * c % N = y * c % N:=by rw [Nat.mul_mod,h,<-Nat.mul_mod]
theorem cg' {N x y:Nat} (c:Nat) (h:x % N = y % N):c * x % N = c * y % N:=by rw [Nat.mul_mod,h,<-Nat.mul_mod]
theorem ri_one {N:Nat} (h1:N % 2 = 1) (x:Nat):x * (R * rinv N) % N = x % N:=by rw [cg' x (rinv_spec h1),Nat.mul_one]
theorem mont_out {N:Nat} (h1:N % 2 = 1) (a b:Nat):montV N (a * R % N) b = a * b % N:=by
 unfold montV
 rw [cg (rinv N) (cg b (Nat.mod_mod (a * R) N)),show a * R * b * rinv N = a * b * (R * rinv N) by rw [Nat.mul_assoc a R b,Nat.mul_comm R b,<-Nat.mul_assoc,Nat.mul_assoc (a * b)],ri_one h1]
theorem mont_mul {N:Nat} (h1:N % 2 = 1) (a b:Nat):montV N (a * R % N) (b * R % N) = a * b * R % N:=by
 rw [mont_out h1,cg' a (Nat.mod_mod (b * R) N),Nat.mul_assoc]
def lessV (N a:Nat):Nat:=bif Nat.ble N a then a - N else a
theorem lessV_mod {N a:Nat} (h:a < 2 * N):lessV N a = a % N:=by
 unfold lessV
 cases hb:Nat.ble N a
 ·have:¬ N <= a:=by rw [<-Nat.ble_eq,hb];simp
  simp only [cond_false]
  exact (Nat.mod_eq_of_lt (by omega)).symm
 ·rw [Nat.ble_eq] at hb
  simp only [cond_true]
  rw [Nat.mod_eq_sub_mod hb,Nat.mod_eq_of_lt (by omega)]
def subM (N a b:Nat):Nat:=(a % N + (N - b % N)) % N
theorem sub_gen {r N a b:Nat} (ha:a < N) (hb:b < N) (h2:2 * N <= r):(bif Nat.blt a b then ((a + r - b) % r + N) % r else (a + r - b) % r) = (a + (N - b)) % N:=by
 cases hc:Nat.blt a b
 ·have h:¬ a < b:=by rw [<-Nat.blt_eq,hc];simp
  simp only [cond_false]
  rw [show a + r - b = (a - b) + r by omega,Nat.add_mod_right,Nat.mod_eq_of_lt (show a - b < r by omega)]
  rw [show a + (N - b) = (a - b) + N by omega,Nat.add_mod_right,Nat.mod_eq_of_lt (show a - b < N by omega)]
 ·rw [Nat.blt_eq] at hc
  simp only [cond_true]
  rw [Nat.mod_eq_of_lt (show a + r - b < r by omega),show a + r - b + N = (a + N - b) + r by omega,Nat.add_mod_right,Nat.mod_eq_of_lt (show a + N - b < r by omega)]
  rw [show a + (N - b) = a + N - b by omega,Nat.mod_eq_of_lt (show a + N - b < N by omega)]
theorem sub_eq {N a b:Nat} (hN:0 < N) (h2:2 * N <= R):(bif Nat.blt (a % N) (b % N) then ((a % N + R - b % N) % R + N) % R else (a % N + R - b % N) % R) = subM N a b :=
 sub_gen (Nat.mod_lt a hN) (Nat.mod_lt b hN) h2
end Go.Rq
namespace Go.Rq
open Go
theorem less_gen {r N a:Nat} (h:N <= a) (ha:a < r):a - N = (a + r - N) % r:=by
 rw [show a + r - N = (a - N) + r by omega,Nat.add_mod_right,Nat.mod_eq_of_lt (by omega)]
def crow (x:Nat) (b t:Nat->Nat):Nat->Nat
 | 0=>0
 | k + 1=>mHi x (b k) (t k) (crow x b t k)
def drow (q:Nat) (n L:Nat->Nat):Nat->Nat
 | 0=>0
 | 1=>q % W * (n 0 % W) / W + (q * n 0 % W + L 0 % W + 0 % W) / W
 | k + 2=>mHi q (n (k + 1)) (L (k + 1)) (drow q n L (k + 1))
def mrow (q:Nat) (n L D:Nat->Nat) (S6 S7:Nat):Nat->Nat
 | 0=>mLo q (n 1) (L 1) (D 1)
 | 1=>mLo q (n 2) (L 2) (D 2)
 | 2=>mLo q (n 3) (L 3) (D 3)
 | 3=>mLo q (n 4) (L 4) (D 4)
 | 4=>mLo q (n 5) (L 5) (D 5)
 | 5=>S6 + D 6 + 0
 | 6=>S7 + (S6 % W + D 6 % W + 0 % W) / W
 | _=>0
theorem top_step {x c:Nat} (hc:c < W):(x + c + 0) % W + W * ((x % W + c % W + 0 % W) / W) = x % W + c/\(x % W + c % W + 0 % W) / W <= 1:=by
 simp only [W] at *;omega
theorem bound_gen {w q n l:Nat} (hq:q < w) (hn:n < w) (hl:l < w):(l + q * n) / w < w:=by
 rw [Nat.div_lt_iff_lt_mul (by omega)]
 have h1:q * n <= (w - 1) * (w - 1):=Nat.mul_le_mul (by omega) (by omega)
 obtain ⟨v,rfl⟩:∃ v,w = v + 1:=⟨w - 1,by omega⟩
 simp only [Nat.add_sub_cancel] at h1
 rw [Nat.add_mul,Nat.mul_add]
 omega
theorem first_step {q n0 l0:Nat} (h:(l0 + q * n0) % W = 0):W * (q % W * (n0 % W) / W + (q * n0 % W + l0 % W + 0 % W) / W) = l0 % W + q % W * (n0 % W)/\q % W * (n0 % W) / W + (q * n0 % W + l0 % W + 0 % W) / W < W:=by
 have e1:q * n0 % W = q % W * (n0 % W) % W:=Nat.mul_mod _ _ _
 have hz:0 % W = 0:=rfl
 have e2:(l0 % W + q % W * (n0 % W)) % W = 0:=by
  rw [Nat.add_mod,Nat.mod_mod,<-e1,<-Nat.add_mod];exact h
 have hb:=bound_gen (w:=W) (q:=q % W) (n:=n0 % W) (l:=l0 % W) (Nat.mod_lt _ (by decide)) (Nat.mod_lt _ (by decide)) (Nat.mod_lt _ (by decide))
 have hl:l0 % W < W:=Nat.mod_lt _ (by decide)
 rw [e1,hz]
 generalize q % W * (n0 % W) = u at *
 generalize l0 % W = l at *
 have e3:W * (u / W + (u % W + l + 0) / W) = l + u:=by simp only [W] at *;omega
 refine ⟨e3,?_⟩
 have e4:u / W + (u % W + l + 0) / W = (l + u) / W:=by simp only [W] at *;omega
 rw [e4];exact hb
theorem low_zero {w n0 l l0:Nat} (h:(n0 % w * (l % w) + 1) % w = 0):(l0 + l0 * l * n0) % w = 0:=by
 have e:l0 + l0 * l * n0 = l0 * (n0 * l + 1):=by rw [Nat.mul_add,Nat.mul_one,Nat.mul_assoc,Nat.mul_comm l n0,Nat.add_comm]
 have h2:(n0 * l + 1) % w = 0:=by rw [Nat.add_mod,Nat.mul_mod,<-Nat.add_mod];exact h
 rw [e,Nat.mul_mod,h2,Nat.mul_zero,Nat.zero_mod]
theorem sB7_eq (t:Nat->Nat):sB W t 7 = t 0 % W + W * (t 1 % W + W * (t 2 % W + W * (t 3 % W + W * (t 4 % W + W * (t 5 % W + W * (t 6 % W)))))):=by
 simp only [sB,W]
 generalize t 0 % 18446744073709551616 = x0
 generalize t 1 % 18446744073709551616 = x1
 generalize t 2 % 18446744073709551616 = x2
 generalize t 3 % 18446744073709551616 = x3
 generalize t 4 % 18446744073709551616 = x4
 generalize t 5 % 18446744073709551616 = x5
 generalize t 6 % 18446744073709551616 = x6
 omega
theorem sB7 {f Mm:Nat->Nat} (h:∀ j,j < 7->f j = Mm j):sB W f 7 = sB W Mm 7:=sB_congr fun j hj=>by rw [h j hj]
theorem sB7_nv {t:Nat->Nat} (h:sB W t 7 < R):sB W t 7 = nv t:=by
 have e:=sB7_eq t
 have h6:t 6 % W = 0:=by
  rw [e] at h
  simp only [R,W] at *
  omega
 rw [e,h6]
 unfold nv
 rfl
theorem mont_row {x l:Nat} {b t n C L D Mm:Nat->Nat} {S6 S7 q cc:Nat} (low:(n 0 % W * (l % W) + 1) % W = 0) (hC:C = crow x b t) (hL:L = fun k=>mLo x (b k) (t k) (C k)) (hS6:S6 = t 6 + C 6 + 0)
  (hS7:S7 = (t 6 % W + C 6 % W + 0 % W) / W) (hq:q = L 0 * l) (hD:D = drow q n L) (hM:Mm = mrow q n L D S6 S7) (hcc:cc = (S6 % W + D 6 % W + 0 % W) / W) :
  ∃ T2,T2 = sB W Mm 7/\T2 * W = (sB W t 7 + x % W * nv b) + q % W * nv n:=by
 have cs:∀ k,C (k + 1) = mHi x (b k) (t k) (C k):=fun k=>by rw [hC];rfl
 have ls:∀ k,L k = mLo x (b k) (t k) (C k):=fun k=>by rw [hL]
 have c0:C 0 = 0:=by rw [hC];rfl
 have b0:C 0 < W:=by rw [c0];decide
 have s0:=m_step (x:=x) (y:=b 0) (p:=t 0) b0
 rw [<-cs,<-ls] at s0
 have s1:=m_step (x:=x) (y:=b 1) (p:=t 1) s0.2
 rw [<-cs,<-ls] at s1
 have s2:=m_step (x:=x) (y:=b 2) (p:=t 2) s1.2
 rw [<-cs,<-ls] at s2
 have s3:=m_step (x:=x) (y:=b 3) (p:=t 3) s2.2
 rw [<-cs,<-ls] at s3
 have s4:=m_step (x:=x) (y:=b 4) (p:=t 4) s3.2
 rw [<-cs,<-ls] at s4
 have s5:=m_step (x:=x) (y:=b 5) (p:=t 5) s4.2
 rw [<-cs,<-ls] at s5
 have s6:=top_step (x:=t 6) s5.2
 rw [<-hS6,<-hS7] at s6
 rw [c0] at s0
 have f0:=first_step (q:=q) (n0:=n 0) (l0:=L 0) (by rw [hq];exact low_zero low)
 have d1:D 1 = q % W * (n 0 % W) / W + (q * n 0 % W + L 0 % W + 0 % W) / W:=by rw [hD];rfl
 rw [<-d1] at f0
 have ds:∀ k,D (k + 2) = mHi q (n (k + 1)) (L (k + 1)) (D (k + 1)):=fun k=>by rw [hD];rfl
 have f1:=m_step (x:=q) (y:=n 1) (p:=L 1) f0.2
 have f2:=m_step (x:=q) (y:=n 2) (p:=L 2) (c:=D 2) (by rw [ds 0];exact f1.2)
 have f3:=m_step (x:=q) (y:=n 3) (p:=L 3) (c:=D 3) (by rw [ds 1];exact f2.2)
 have f4:=m_step (x:=q) (y:=n 4) (p:=L 4) (c:=D 4) (by rw [ds 2];exact f3.2)
 have f5:=m_step (x:=q) (y:=n 5) (p:=L 5) (c:=D 5) (by rw [ds 3];exact f4.2)
 have f6:=top_step (x:=S6) (c:=D 6) (by rw [ds 4];exact f5.2)
 have g1:=f1.1
 have g2:=f2.1
 have g3:=f3.1
 have g4:=f4.1
 have g5:=f5.1
 rw [<-ds 0] at g1
 rw [<-ds 1] at g2
 rw [<-ds 2] at g3
 rw [<-ds 3] at g4
 rw [<-ds 4] at g5
 have m0:Mm 0 = mLo q (n 1) (L 1) (D 1):=by rw [hM];rfl
 have m1:Mm 1 = mLo q (n 2) (L 2) (D 2):=by rw [hM];rfl
 have m2:Mm 2 = mLo q (n 3) (L 3) (D 3):=by rw [hM];rfl
 have m3:Mm 3 = mLo q (n 4) (L 4) (D 4):=by rw [hM];rfl
 have m4:Mm 4 = mLo q (n 5) (L 5) (D 5):=by rw [hM];rfl
 have m5:Mm 5 = S6 + D 6 + 0:=by rw [hM];rfl
 have m6:Mm 6 = S7 + cc:=by rw [hM,hcc];rfl
 rw [<-m0] at g1
 rw [<-m1] at g2
 rw [<-m2] at g3
 rw [<-m3] at g4
 rw [<-m4] at g5
 have h6:=f6.1
 rw [<-m5,<-hcc] at h6
 have h7:Mm 6 % W = S7 + cc:=by
  rw [m6]
  have h8:=s6.2
  have h9:=f6.2
  rw [<-hcc] at h9
  exact Nat.mod_eq_of_lt (by simp only [W];omega)
 refine ⟨_,rfl,?_⟩
 rw [sB7_eq Mm,sB7_eq t]
 have hw:=mont_words (x:=x % W) s0.1 s1.1 s2.1 s3.1 s4.1 s5.1 s6.1
 have hm:=mont_less (q:=q % W) f0.1 g1 g2 g3 g4 g5 h6 h7
 unfold nv
 rw [hm,hw]
end Go.Rq
namespace Go.Rq
open Go
def Pr (n:Nat):Prop:=1 < n/\∀ d,d ∣ n->d = 1∨d = n
theorem Pr.cop {s m:Nat} (h:Pr s) (h0:0 < m) (h1:m < s):Nat.Coprime s m:=by
 rcases h.2 _ (Nat.gcd_dvd_left s m) with e | e
 ·exact e
 ·have:=Nat.le_of_dvd h0 (Nat.gcd_dvd_right s m)
  omega
theorem Pr.cop' {s m:Nat} (h:Pr s) (h0:¬ s ∣ m):Nat.Coprime s m:=by
 rcases h.2 _ (Nat.gcd_dvd_left s m) with e | e
 ·exact e
 ·exact absurd (e ▸ Nat.gcd_dvd_right s m) h0
theorem pr_div:∀ n:Nat,1 < n->∃ s,Pr s/\s ∣ n:=by
 intro n
 induction n using Nat.strongRecOn with
 | ind n ih =>
  intro h
  by_cases hp:Pr n
  ·exact ⟨n,hp,Nat.dvd_refl n⟩
  ·have:∃ d,d ∣ n/\d ≠ 1/\d ≠ n:=by
    refine Classical.byContradiction fun hc=>hp ⟨h,fun d hd=>?_⟩
    refine Classical.byContradiction fun hh=>hc ⟨d,hd,fun e=>hh (.inl e),fun e=>hh (.inr e)⟩
   obtain ⟨d,hd,h1,hn⟩:=this
   have hle:=Nat.le_of_dvd (by omega) hd
   have h0:d ≠ 0:=fun e=>by rw [e] at hd;have:=Nat.eq_zero_of_zero_dvd hd;omega
   obtain ⟨s,hs,hsd⟩:=ih d (by omega) (by omega)
   exact ⟨s,hs,Nat.dvd_trans hsd hd⟩
theorem pr_of {n:Nat} (h:1 < n) (hs:∀ s,Pr s->s ∣ n->n < s * s):Pr n:=by
 refine ⟨h,fun d hd=>?_⟩
 refine Classical.byContradiction fun hc=>?_
 obtain ⟨e,he⟩:=hd
 have hd1:d ≠ 1:=fun e=>hc (.inl e)
 have hdn:d ≠ n:=fun e=>hc (.inr e)
 have hd0:d ≠ 0:=fun e'=>by rw [e',Nat.zero_mul] at he;omega
 have he0:e ≠ 0:=fun e'=>by rw [e',Nat.mul_zero] at he;omega
 have he1:e ≠ 1:=fun e'=>by rw [e',Nat.mul_one] at he;exact hdn he.symm
 obtain ⟨s,hs1,hs2⟩:=pr_div d (by omega)
 obtain ⟨t,ht1,ht2⟩:=pr_div e (by omega)
 have k1:=hs s hs1 (Nat.dvd_trans hs2 ⟨e,he⟩)
 have k2:=hs t ht1 (Nat.dvd_trans ht2 ⟨d,by rw [he,Nat.mul_comm]⟩)
 have l1:=Nat.le_of_dvd (by omega) hs2
 have l2:=Nat.le_of_dvd (by omega) ht2
 have m1:s * s <= d * d:=Nat.mul_le_mul l1 l1
 have m2:t * t <= e * e:=Nat.mul_le_mul l2 l2
 rcases Nat.le_total d e with hde | hde
 ·have:d * d <= d * e:=Nat.mul_le_mul_left _ hde
  omega
 ·have:e * e <= d * e:=Nat.mul_le_mul_right _ hde
  omega
def chs:Nat->Nat->Nat
 | _,0=>1
 | 0,_ + 1=>0
 | n + 1,k + 1=>chs n k + chs n (k + 1)
theorem chs_zero (n:Nat):chs n 0 = 1:=by cases n <;> rfl
theorem chs_big:∀ {n k:Nat},n < k->chs n k = 0
 | 0,k + 1,_=>rfl
 | n + 1,k + 1,h=>by
  show chs n k + chs n (k + 1) = 0
  rw [chs_big (by omega),chs_big (by omega)]
theorem chs_self:∀ n:Nat,chs n n = 1
 | 0=>rfl
 | n + 1=>by
  show chs n n + chs n (n + 1) = 1
  rw [chs_self n,chs_big (by omega)]
theorem chs_mul:∀ n k:Nat,(k + 1) * chs (n + 1) (k + 1) = (n + 1) * chs n k
 | 0,0=>rfl
 | 0,k + 1=>by
  show (k + 1 + 1) * (chs 0 (k + 1) + chs 0 (k + 2)) = (0 + 1) * chs 0 (k + 1)
  simp [chs]
 | n + 1,0=>by
  have:=chs_mul n 0
  show (0 + 1) * (chs (n + 1) 0 + chs (n + 1) 1) = (n + 1 + 1) * chs (n + 1) 0
  simp only [chs_zero,Nat.zero_add] at *
  omega
 | n + 1,k + 1=>by
  have h1:=chs_mul n k
  have h2:=chs_mul n (k + 1)
  have e3:chs (n + 1) (k + 1) = chs n k + chs n (k + 1):=rfl
  show (k + 1 + 1) * (chs (n + 1) (k + 1) + chs (n + 1) (k + 2)) = (n + 1 + 1) * chs (n + 1) (k + 1)
  have e4:(k + 1 + 1) * chs (n + 1) (k + 2) = (n + 1) * chs n (k + 1):=h2
  rw [Nat.mul_add,e4,Nat.add_mul (k + 1) 1,h1,Nat.one_mul,Nat.add_mul (n + 1) 1,Nat.one_mul]
  rw [show (n + 1) * chs (n + 1) (k + 1) = (n + 1) * chs n k + (n + 1) * chs n (k + 1) by rw [e3,Nat.mul_add]]
  omega
theorem chs_dvd {s k:Nat} (h:Pr s) (hk:k + 1 < s):s ∣ chs s (k + 1):=by
 obtain ⟨n,rfl⟩:∃ n,s = n + 1:=⟨s - 1,by have:=h.1;omega⟩
 refine Nat.Coprime.dvd_of_dvd_mul_left (h.cop (m:=k + 1) (by omega) hk) ⟨chs n k,chs_mul n k⟩
structure GI where
 re:Int
 im:Int
theorem GI.ext {x y:GI} (h1:x.re = y.re) (h2:x.im = y.im):x = y:=by cases x;cases y;simp_all
namespace GI
def add (x y:GI):GI:=⟨x.re + y.re,x.im + y.im⟩
def mul (x y:GI):GI:=⟨x.re * y.re - x.im * y.im,x.re * y.im + x.im * y.re⟩
def sc (c:Int) (x:GI):GI:=⟨c * x.re,c * x.im⟩
def one:GI:=⟨1,0⟩
def cj (x:GI):GI:=⟨x.re,-x.im⟩
def pow (x:GI):Nat->GI
 | 0=>one
 | n + 1=>mul x (pow x n)
theorem mul_comm (x y:GI):mul x y = mul y x:=GI.ext (by simp only [mul];grind) (by simp only [mul];grind)
theorem mul_assoc (x y z:GI):mul (mul x y) z = mul x (mul y z):=GI.ext (by simp only [mul];grind) (by simp only [mul];grind)
theorem one_mul (x:GI):mul one x = x:=GI.ext (by simp only [mul,one];grind) (by simp only [mul,one];grind)
theorem mul_one (x:GI):mul x one = x:=by rw [mul_comm,one_mul]
theorem pow_add (x:GI) (a:Nat):∀ b,pow x (a + b) = mul (pow x a) (pow x b)
 | 0=>by rw [Nat.add_zero];exact (mul_one _).symm
 | b + 1=>by
  show mul x (pow x (a + b)) = mul (pow x a) (mul x (pow x b))
  rw [pow_add x a b,<-mul_assoc,<-mul_assoc,mul_comm x]
theorem pow_one (x:GI):pow x 1 = x:=mul_one x
theorem one_pow:∀ n,pow one n = one
 | 0=>rfl
 | n + 1=>by show mul one (pow one n) = one;rw [one_pow n,one_mul]
theorem pow_mul (x:GI) (a:Nat):∀ b,pow x (a * b) = pow (pow x a) b
 | 0=>rfl
 | b + 1=>by
  rw [Nat.mul_succ,Nat.add_comm,pow_add,pow_mul x a b];rfl
theorem mul_pow (x y:GI):∀ n,pow (mul x y) n = mul (pow x n) (pow y n)
 | 0=>(mul_one one).symm
 | n + 1=>by
  show mul (mul x y) (pow (mul x y) n) = mul (mul x (pow x n)) (mul y (pow y n))
  rw [mul_pow x y n,mul_assoc,mul_assoc,<-mul_assoc y,mul_comm y,mul_assoc (pow x n)]
def bT (x y:GI) (n:Nat):Nat->GI
 | 0=>one
 | k + 1=>add (mul y (bT x y n k)) (sc (chs n (k + 1)) (pow x (k + 1)))
theorem bT_step (x y:GI) (n:Nat):∀ k,bT x y (n + 1) (k + 1) = add (bT x y n (k + 1)) (mul x (bT x y n k))
 | 0=>by
  simp only [bT,pow]
  rw [show chs (n + 1) (0 + 1) = chs n 0 + chs n 1 from rfl,chs_zero]
  refine GI.ext ?_ ?_ <;> simp only [add,mul,sc,one,Int.natCast_add] <;> grind
 | k + 1=>by
  have ih:=bT_step x y n k
  show add (mul y (bT x y (n + 1) (k + 1))) (sc (chs (n + 1) (k + 2)) (pow x (k + 2))) = add (add (mul y (bT x y n (k + 1))) (sc (chs n (k + 2)) (pow x (k + 2)))) (mul x (bT x y n (k + 1)))
  rw [ih]
  have e1:bT x y n (k + 1) = add (mul y (bT x y n k)) (sc (chs n (k + 1)) (pow x (k + 1))):=rfl
  have e2:chs (n + 1) (k + 2) = chs n (k + 1) + chs n (k + 2):=rfl
  have e3:pow x (k + 2) = mul x (pow x (k + 1)):=rfl
  rw [e2,e3]
  generalize pow x (k + 1) = P at *
  generalize bT x y n k = B at *
  generalize bT x y n (k + 1) = C at *
  generalize chs n (k + 1) = c at *
  generalize chs n (k + 2) = d at *
  subst e1
  refine GI.ext ?_ ?_ <;> simp only [add,mul,sc,Int.natCast_add] <;> grind
theorem bT_pow (x y:GI):∀ n,bT x y n n = pow (add x y) n
 | 0=>rfl
 | n + 1=>by
  rw [bT_step]
  show add (add (mul y (bT x y n n)) (sc (chs n (n + 1)) (pow x (n + 1)))) (mul x (bT x y n n)) = mul (add x y) (pow (add x y) n)
  rw [chs_big (by omega),bT_pow x y n]
  generalize pow (add x y) n = P
  generalize pow x (n + 1) = Q
  refine GI.ext ?_ ?_ <;> simp only [add,mul,sc] <;> grind
def cg (s:Nat) (x y:GI):Prop:=∃ K:GI,x = add y (sc s K)
theorem cg_refl (s:Nat) (x:GI):cg s x x:=⟨⟨0,0⟩,GI.ext (by simp [add,sc]) (by simp [add,sc])⟩
theorem cg_symm {s:Nat} {x y:GI} (h:cg s x y):cg s y x:=by
 obtain ⟨K,rfl⟩:=h
 exact ⟨⟨-K.re,-K.im⟩,GI.ext (by simp only [add,sc];grind) (by simp only [add,sc];grind)⟩
theorem cg_trans {s:Nat} {x y z:GI} (h:cg s x y) (h2:cg s y z):cg s x z:=by
 obtain ⟨K,rfl⟩:=h
 obtain ⟨L,rfl⟩:=h2
 exact ⟨add K L,GI.ext (by simp only [add,sc];grind) (by simp only [add,sc];grind)⟩
theorem cg_mul {s:Nat} {x y z w:GI} (h:cg s x y) (h2:cg s z w):cg s (mul x z) (mul y w):=by
 obtain ⟨K,rfl⟩:=h
 obtain ⟨L,rfl⟩:=h2
 exact ⟨add (mul K w) (add (mul y L) (sc s (mul K L))),GI.ext (by simp only [add,sc,mul];grind) (by simp only [add,sc,mul];grind)⟩
theorem cg_add {s:Nat} {x y z w:GI} (h:cg s x y) (h2:cg s z w):cg s (add x z) (add y w):=by
 obtain ⟨K,rfl⟩:=h
 obtain ⟨L,rfl⟩:=h2
 exact ⟨add K L,GI.ext (by simp only [add,sc];grind) (by simp only [add,sc];grind)⟩
theorem cg_pow {s:Nat} {x y:GI} (h:cg s x y):∀ n,cg s (pow x n) (pow y n)
 | 0=>cg_refl s one
 | n + 1=>cg_mul h (cg_pow h n)
theorem cg_dvd {s n:Nat} (hd:s ∣ n) {x y:GI} (h:cg n x y):cg s x y:=by
 obtain ⟨m,rfl⟩:=hd
 obtain ⟨K,rfl⟩:=h
 exact ⟨sc m K,GI.ext (by simp only [add,sc,Int.natCast_mul];grind) (by simp only [add,sc,Int.natCast_mul];grind)⟩
theorem bT_cg {s:Nat} (hs:Pr s) (x y:GI):∀ k,k < s->cg s (bT x y s k) (pow y k)
 | 0,_=>cg_refl s one
 | k + 1,h=>by
  have ih:=bT_cg hs x y k (by omega)
  obtain ⟨m,hm⟩:=chs_dvd hs h
  have e:bT x y s (k + 1) = add (mul y (bT x y s k)) (sc (chs s (k + 1)) (pow x (k + 1))):=rfl
  rw [e,hm]
  refine cg_trans (cg_add (cg_mul (cg_refl s y) ih) (w:=⟨0,0⟩) ⟨sc m (pow x (k + 1)),?_⟩) ⟨⟨0,0⟩,?_⟩
  ·refine GI.ext ?_ ?_ <;> simp only [add,sc,Int.natCast_mul] <;> grind
  ·refine GI.ext ?_ ?_ <;> simp only [add,sc,pow] <;> grind
theorem frob {s:Nat} (hs:Pr s) (x y:GI):cg s (pow (add x y) s) (add (pow x s) (pow y s)):=by
 obtain ⟨n,rfl⟩:∃ n,s = n + 1:=⟨s - 1,by have:=hs.1;omega⟩
 rw [<-bT_pow]
 show cg (n + 1) (add (mul y (bT x y (n + 1) n)) (sc (chs (n + 1) (n + 1)) (pow x (n + 1)))) _
 rw [chs_self]
 refine cg_trans (cg_add (cg_mul (cg_refl _ y) (bT_cg hs x y n (by omega))) (cg_refl _ _)) ⟨⟨0,0⟩,?_⟩
 show add (pow y (n + 1)) _ = _
 refine GI.ext ?_ ?_ <;> simp only [add,sc] <;> grind
def nat (a:Nat):GI:=⟨a,0⟩
theorem fermat {s:Nat} (hs:Pr s):∀ a:Nat,cg s (pow (nat a) s) (nat a)
 | 0=>by
  obtain ⟨n,rfl⟩:∃ n,s = n + 1:=⟨s - 1,by have:=hs.1;omega⟩
  have:pow (nat 0) (n + 1) = nat 0:=by
   show mul (nat 0) (pow (nat 0) n) = nat 0
   refine GI.ext ?_ ?_ <;> simp [mul,nat]
  rw [this];exact cg_refl _ _
 | a + 1=>by
  have e:nat (a + 1) = add (nat a) one:=by refine GI.ext ?_ ?_ <;> simp [add,nat,one]
  rw [e]
  refine cg_trans (frob hs (nat a) one) ?_
  rw [one_pow]
  exact cg_add (fermat hs a) (cg_refl _ _)
def gi:GI:=⟨0,1⟩
theorem gi_pow:∀ k:Nat,pow gi (4 * k) = one
 | 0=>rfl
 | k + 1=>by
  rw [show 4 * (k + 1) = 4 + 4 * k by omega,pow_add,gi_pow k]
  rfl
theorem gfrob {s:Nat} (hs:Pr s) (u v:Nat):(s % 4 = 1->cg s (pow ⟨u,v⟩ s) ⟨u,v⟩)/\(s % 4 = 3->cg s (pow ⟨u,v⟩ s) (cj ⟨u,v⟩)):=by
 have e:(⟨u,v⟩:GI) = add (nat u) (mul (nat v) gi):=by refine GI.ext ?_ ?_ <;> simp [add,mul,nat,gi]
 have h1:cg s (pow ⟨u,v⟩ s) (add (nat u) (mul (nat v) (pow gi s))):=by
  rw [e]
  refine cg_trans (frob hs _ _) (cg_add (fermat hs u) ?_)
  rw [mul_pow]
  exact cg_mul (fermat hs v) (cg_refl _ _)
 constructor
 ·intro h4
  rw [show s = 4 * (s / 4) + 1 by omega,pow_add gi,gi_pow,one_mul] at h1
  rw [<-show s = 4 * (s / 4) + 1 by omega] at h1
  have:add (nat u) (mul (nat v) (pow gi 1)) = ⟨u,v⟩:=by rw [e];rfl
  rwa [this] at h1
 ·intro h4
  rw [show s = 4 * (s / 4) + 3 by omega,pow_add gi,gi_pow,one_mul] at h1
  rw [<-show s = 4 * (s / 4) + 3 by omega] at h1
  have:add (nat u) (mul (nat v) (pow gi 3)) = cj ⟨u,v⟩:=by
   refine GI.ext ?_ ?_ <;> simp [add,mul,nat,gi,pow,one,cj]
  rwa [this] at h1
theorem pow_gcd {s:Nat} (x:GI):∀ a b:Nat,cg s (pow x a) one->cg s (pow x b) one->cg s (pow x (Nat.gcd a b)) one:=by
 intro a b
 induction a,b using Nat.gcd.induction with
 | H0 b=>intro _ h;rw [Nat.gcd_zero_left];exact h
 | H1 a b ha ih =>
  intro h1 h2
  rw [Nat.gcd_rec]
  refine ih ?_ h1
  have e:pow x b = mul (pow (pow x a) (b / a)) (pow x (b % a)):=by rw [<-pow_mul,<-pow_add,Nat.div_add_mod]
  rw [e] at h2
  have h3:cg s (mul (pow (pow x a) (b / a)) (pow x (b % a))) (mul one (pow x (b % a))):=by
   have:=cg_pow h1 (b / a)
   rw [one_pow] at this
   exact cg_mul this (cg_refl _ _)
  rw [one_mul] at h3
  exact cg_trans (cg_symm h3) h2
theorem ord_dvd {s q m:Nat} (hq:Pr q) (x:GI) (h1:cg s (pow x q) one) (hm:cg s (pow x m) one) (hn:¬ cg s x one):q ∣ m:=by
 refine Classical.byContradiction fun hd=>hn ?_
 have:=pow_gcd x q m h1 hm
 rw [show Nat.gcd q m = 1 from hq.cop' hd,pow_one] at this
 exact this
end GI
end Go.Rq
namespace Go.Rq
open Go
theorem Pr.two {s n:Nat} (_:Pr s) (hd:s ∣ n) (hn:n % 2 = 1):s % 4 = 1∨s % 4 = 3:=by
 have:s % 2 ≠ 0:=fun e=>by
  have h2:2 ∣ n:=Nat.dvd_trans (Nat.dvd_of_mod_eq_zero e) hd
  have:=Nat.mod_eq_zero_of_dvd h2
  omega
 omega
def gmM (n:Nat) (x y:Nat × Nat):Nat × Nat:=((x.1 * y.1 + (n - x.2 * y.2 % n)) % n,(x.1 * y.2 + x.2 * y.1) % n)
def gpM (n:Nat) (x:Nat × Nat):Nat->Nat->Nat × Nat
 | 0,_=>(1,0)
 | k + 1,e=>bif Nat.beq (e % 2) 1 then gmM n (gmM n (gpM n x k (e / 2)) (gpM n x k (e / 2))) x else gmM n (gpM n x k (e / 2)) (gpM n x k (e / 2))
def toG (x:Nat × Nat):GI:=⟨x.1,x.2⟩
theorem gmM_cg {n:Nat} (hn:0 < n) (x y:Nat × Nat):GI.cg n (toG (gmM n x y)) (GI.mul (toG x) (toG y)):=by
 obtain ⟨a,b⟩:=x
 obtain ⟨c,d⟩:=y
 unfold gmM toG
 simp only
 refine ⟨⟨1 + ((b * d / n:Nat):Int) - (((a * c + (n - b * d % n)) / n:Nat):Int),- (((a * d + b * c) / n:Nat):Int)⟩,?_⟩
 have h1:=Nat.div_add_mod (a * c + (n - b * d % n)) n
 have h2:=Nat.div_add_mod (b * d) n
 have h3:=Nat.div_add_mod (a * d + b * c) n
 have h4:b * d % n <= n:=Nat.le_of_lt (Nat.mod_lt _ hn)
 refine GI.ext ?_ ?_
 ·simp only [GI.add,GI.sc,GI.mul]
  generalize (a * c + (n - b * d % n)) / n = q1 at *
  generalize (a * c + (n - b * d % n)) % n = r1 at *
  generalize b * d / n = q2 at *
  generalize b * d % n = r2 at *
  have e1:(n:Int) * q1 + r1 = a * c + (n - r2):=by
   rw [<-Int.natCast_sub h4]
   exact_mod_cast h1
  have e2:(n:Int) * q2 + r2 = b * d:=by exact_mod_cast h2
  grind
 ·simp only [GI.add,GI.sc,GI.mul]
  generalize (a * d + b * c) / n = q1 at *
  generalize (a * d + b * c) % n = r1 at *
  have e1:(n:Int) * q1 + r1 = a * d + b * c:=by exact_mod_cast h3
  grind
theorem gpM_cg {n:Nat} (hn:0 < n) (x:Nat × Nat):∀ k e,e < 2 ^ k->GI.cg n (toG (gpM n x k e)) (GI.pow (toG x) e)
 | 0,e,h=>by
  have:e = 0:=by simpa using h
  subst this
  exact GI.cg_refl _ _
 | k + 1,e,h=>by
  have ih:=gpM_cg hn x k (e / 2) (by rw [Nat.pow_succ] at h;omega)
  have h2:GI.cg n (toG (gmM n (gpM n x k (e / 2)) (gpM n x k (e / 2)))) (GI.pow (toG x) (e / 2 + e / 2)):=by
   rw [GI.pow_add]
   exact GI.cg_trans (gmM_cg hn _ _) (GI.cg_mul ih ih)
  show GI.cg n (toG (bif Nat.beq (e % 2) 1 then _ else _)) _
  cases hb:Nat.beq (e % 2) 1
  ·have:e % 2 ≠ 1:=fun e'=>by rw [<-Nat.beq_eq,hb] at e';cases e'
   rw [cond_false]
   rwa [show e / 2 + e / 2 = e by omega] at h2
  ·rw [Nat.beq_eq] at hb
   rw [cond_true]
   have e1:GI.pow (toG x) e = GI.mul (GI.pow (toG x) (e / 2 + e / 2)) (toG x):=by
    rw [GI.mul_comm]
    show _ = GI.pow (toG x) (e / 2 + e / 2 + 1)
    rw [show e / 2 + e / 2 + 1 = e by omega]
   rw [e1]
   exact GI.cg_trans (gmM_cg hn _ _) (GI.cg_mul h2 (GI.cg_refl _ _))
def pRow (n k q u v t:Nat):Bool :=
 Nat.blt q (2 ^ k) && Nat.beq (gpM n (u,v) k q).1 1 && Nat.beq (gpM n (u,v) k q).2 0 && Nat.beq (t * ((u + (n - 1)) * (u + (n - 1)) + v * v) % n) 1
theorem row_ord {n k q u v t s m:Nat} (hn:1 < n) (hq:Pr q) (h:pRow n k q u v t = true) (hs:Pr s) (hd:s ∣ n)
  (hm:GI.cg s (GI.pow ⟨u,v⟩ m) GI.one):GI.cg s (GI.pow ⟨u,v⟩ q) GI.one/\q ∣ m:=by
 unfold pRow at h
 simp only [Bool.and_eq_true,Nat.beq_eq,Nat.blt_eq] at h
 obtain ⟨⟨⟨h1,h2⟩,h3⟩,h4⟩:=h
 have hp:=gpM_cg (n:=n) (by omega) (u,v) k q h1
 have e:toG (gpM n (u,v) k q) = GI.one:=by
  unfold toG;rw [h2,h3];rfl
 rw [e] at hp
 have hq1:GI.cg s (GI.pow ⟨u,v⟩ q) GI.one:=GI.cg_dvd hd (GI.cg_symm hp)
 refine ⟨hq1,GI.ord_dvd hq ⟨u,v⟩ hq1 hm fun hc=>?_⟩
 obtain ⟨K,hK⟩:=hc
 obtain ⟨m',rfl⟩:=hd
 have r1:(u:Int) = 1 + s * K.re:=congrArg GI.re hK
 have r2:(v:Int) = 0 + s * K.im:=congrArg GI.im hK
 have hmod:=Nat.div_add_mod (t * ((u + (s * m' - 1)) * (u + (s * m' - 1)) + v * v)) (s * m')
 rw [h4] at hmod
 generalize t * ((u + (s * m' - 1)) * (u + (s * m' - 1)) + v * v) / (s * m') = Q at hmod
 have hI:((s:Int) * m') * Q + 1 = t * ((u + (s * m' - 1)) * (u + (s * m' - 1)) + v * v):=by
  have hle:1 <= s * m':=by omega
  have hc:((s * m' - 1:Nat):Int) = (s:Int) * m' - 1:=by
   rw [Int.natCast_sub hle,Int.natCast_mul];rfl
  rw [<-hc]
  exact_mod_cast hmod
 have hdv:(s:Int) ∣ 1:=by
  refine ⟨(t:Int) * ((K.re + m') * (s * K.re + s * m') + K.im * (s * K.im)) - m' * Q,?_⟩
  rw [r1,r2] at hI
  grind
 have h1s:=Int.le_of_dvd (by omega) hdv
 have:=hs.1
 omega
theorem row_p {n k q u t s:Nat} (hn:1 < n) (h2:n % 2 = 1) (hq:Pr q) (h:pRow n k q u 0 t = true) (hs:Pr s) (hd:s ∣ n):q ∣ s - 1:=by
 have hf:GI.cg s (GI.pow ⟨u,((0:Nat):Int)⟩ s) ⟨u,((0:Nat):Int)⟩:=by
  rcases hs.two hd h2 with h4 | h4
  ·exact (GI.gfrob hs u 0).1 h4
  ·have:=(GI.gfrob hs u 0).2 h4
   have e:GI.cj ⟨u,((0:Nat):Int)⟩ = ⟨u,((0:Nat):Int)⟩:=by refine GI.ext ?_ ?_ <;> simp [GI.cj]
   rw [e] at this
   exact this
 have hq1:=(row_ord (v:=0) (m:=0) hn hq h hs hd (GI.cg_refl _ _)).1
 refine (row_ord (v:=0) (m:=s - 1) hn hq h hs hd ?_).2
 have hs1:=hs.1
 have hq0:=hq.1
 have e1:GI.pow ⟨u,((0:Nat):Int)⟩ q = GI.mul ⟨u,((0:Nat):Int)⟩ (GI.pow ⟨u,((0:Nat):Int)⟩ (q - 1)):=by
  show _ = GI.pow _ (q - 1 + 1)
  rw [show q - 1 + 1 = q by omega]
 have e2:GI.pow ⟨u,((0:Nat):Int)⟩ s = GI.mul ⟨u,((0:Nat):Int)⟩ (GI.pow ⟨u,((0:Nat):Int)⟩ (s - 1)):=by
  show _ = GI.pow _ (s - 1 + 1)
  rw [show s - 1 + 1 = s by omega]
 rw [e1] at hq1
 rw [e2] at hf
 generalize GI.pow ⟨u,((0:Nat):Int)⟩ (s - 1) = P at *
 generalize GI.pow ⟨u,((0:Nat):Int)⟩ (q - 1) = Q at *
 have h3:GI.cg s (GI.mul (GI.mul ⟨u,((0:Nat):Int)⟩ P) Q) (GI.mul ⟨u,((0:Nat):Int)⟩ Q):=GI.cg_mul hf (GI.cg_refl _ _)
 have e3:GI.mul (GI.mul ⟨u,((0:Nat):Int)⟩ P) Q = GI.mul P (GI.mul ⟨u,((0:Nat):Int)⟩ Q):=by
  rw [GI.mul_comm ⟨u,((0:Nat):Int)⟩ P,GI.mul_assoc]
 rw [e3] at h3
 have h4:=GI.cg_trans (GI.cg_symm (GI.cg_mul (GI.cg_refl s P) hq1)) (GI.cg_trans h3 hq1)
 rwa [GI.mul_one] at h4
theorem row_m {n k q u v t s:Nat} (hn:1 < n) (hq:Pr q) (h:pRow n k q u v t = true) (hno:Nat.beq ((u * u + v * v) % n) 1 = true) (hs:Pr s) (hd:s ∣ n) :
  (s % 4 = 1->q ∣ s - 1)/\(s % 4 = 3->q ∣ s + 1):=by
 have hs1:=hs.1
 have hN:GI.cg s (GI.mul ⟨u,v⟩ (GI.cj ⟨u,v⟩)) GI.one:=by
  rw [Nat.beq_eq] at hno
  have hmod:=Nat.div_add_mod (u * u + v * v) n
  rw [hno] at hmod
  refine GI.cg_dvd hd ⟨⟨(((u * u + v * v) / n:Nat):Int),0⟩,?_⟩
  generalize (u * u + v * v) / n = Q at *
  have hI:(n:Int) * Q + 1 = u * u + v * v:=by exact_mod_cast hmod
  refine GI.ext ?_ ?_ <;> simp only [GI.mul,GI.cj,GI.add,GI.sc,GI.one] <;> grind
 have e2:GI.pow ⟨u,v⟩ s = GI.mul ⟨u,v⟩ (GI.pow ⟨u,v⟩ (s - 1)):=by
  show _ = GI.pow _ (s - 1 + 1)
  rw [show s - 1 + 1 = s by omega]
 constructor
 ·intro h4
  refine (row_ord (m:=s - 1) hn hq h hs hd ?_).2
  have hf:=(GI.gfrob hs u v).1 h4
  rw [e2] at hf
  generalize GI.pow ⟨(u:Int),v⟩ (s - 1) = P at *
  have h3:=GI.cg_mul hf (GI.cg_refl s (GI.cj ⟨u,v⟩))
  have e3:GI.mul (GI.mul ⟨u,v⟩ P) (GI.cj ⟨u,v⟩) = GI.mul P (GI.mul ⟨u,v⟩ (GI.cj ⟨u,v⟩)):=by
   rw [GI.mul_comm ⟨u,v⟩ P,GI.mul_assoc]
  rw [e3] at h3
  have h5:=GI.cg_trans (GI.cg_symm (GI.cg_mul (GI.cg_refl s P) hN)) (GI.cg_trans h3 hN)
  rwa [GI.mul_one] at h5
 ·intro h4
  refine (row_ord (m:=s + 1) hn hq h hs hd ?_).2
  have hf:=(GI.gfrob hs u v).2 h4
  show GI.cg s (GI.mul ⟨u,v⟩ (GI.pow ⟨u,v⟩ s)) GI.one
  exact GI.cg_trans (GI.cg_mul (GI.cg_refl s _) hf) hN
def lcmL:List Nat->Nat
 | []=>1
 | q :: r=>Nat.lcm q (lcmL r)
theorem lcmL_dvd {m:Nat}:∀ {l:List Nat},(∀ q ∈ l,q ∣ m)->lcmL l ∣ m
 | [],_=>Nat.one_dvd m
 | q :: _,h=>Nat.lcm_dvd (h q (List.mem_cons_self ..)) (lcmL_dvd fun x hx=>h x (List.mem_cons_of_mem _ hx))
def bigB (n:Nat) (l:List Nat):Bool:=Nat.beq (n % 2) 1 && Nat.blt 1 n && Nat.blt 1 (lcmL l) && Nat.blt n ((lcmL l - 1) * (lcmL l - 1))
theorem pock {n:Nat} (l:List Nat) (hb:bigB n l = true) (h:n % 2 = 1->1 < n->∀ s,Pr s->s ∣ n->∀ q ∈ l,q ∣ s - 1):Pr n:=by
 unfold bigB at hb
 simp only [Bool.and_eq_true,Nat.beq_eq,Nat.blt_eq] at hb
 obtain ⟨⟨⟨h2,h1⟩,hF⟩,hn⟩:=hb
 refine pr_of h1 fun s hs hd=>?_
 have hs1:=hs.1
 have hle:=Nat.le_of_dvd (by omega) (lcmL_dvd (h h2 h1 s hs hd))
 have:=Nat.mul_le_mul (show lcmL l - 1 <= s by omega) (show lcmL l - 1 <= s by omega)
 omega
theorem morr {n:Nat} (l:List Nat) (hb:bigB n l = true) (h:n % 2 = 1->1 < n->∀ s,Pr s->s ∣ n->∀ q ∈ l,(s % 4 = 1->q ∣ s - 1)/\(s % 4 = 3->q ∣ s + 1)):Pr n:=by
 unfold bigB at hb
 simp only [Bool.and_eq_true,Nat.beq_eq,Nat.blt_eq] at hb
 obtain ⟨⟨⟨h2,h1⟩,hF⟩,hn⟩:=hb
 refine pr_of h1 fun s hs hd=>?_
 have hs1:=hs.1
 have hle:lcmL l - 1 <= s:=by
  rcases hs.two hd h2 with h4 | h4
  ·have:=Nat.le_of_dvd (by omega) (lcmL_dvd fun q hq=>(h h2 h1 s hs hd q hq).1 h4)
   omega
  ·have:=Nat.le_of_dvd (by omega) (lcmL_dvd fun q hq=>(h h2 h1 s hs hd q hq).2 h4)
   omega
 have:=Nat.mul_le_mul hle hle
 omega
def triB (n:Nat):Nat->Bool
 | 0=>true
 | k + 1=>bif Nat.beq (n % (k + 2)) 0 then false else triB n k
theorem triB_ok {n:Nat}:∀ {k:Nat},triB n k = true->∀ d,2 <= d->d <= k + 1->n % d ≠ 0
 | 0,_,d,h1,h2=>by omega
 | k + 1,h,d,h1,h2=>by
  unfold triB at h
  cases hb:Nat.beq (n % (k + 2)) 0
  ·rw [hb,cond_false] at h
   by_cases e:d = k + 2
   ·rw [e];intro e';rw [<-Nat.beq_eq,hb] at e';cases e'
   ·exact triB_ok h d h1 (by omega)
  ·rw [hb,cond_true] at h;cases h
theorem trial {n:Nat} (k:Nat) (h:(Nat.blt 1 n && Nat.blt n ((k + 2) * (k + 2)) && triB n k) = true):Pr n:=by
 simp only [Bool.and_eq_true,Nat.blt_eq] at h
 obtain ⟨⟨h1,h2⟩,h3⟩:=h
 refine pr_of h1 fun s hs hd=>?_
 have hs1:=hs.1
 by_cases hsk:s <= k + 1
 ·exact absurd (Nat.mod_eq_zero_of_dvd hd) (triB_ok h3 s (by omega) hsk)
 ·have:=Nat.mul_le_mul (show k + 2 <= s by omega) (show k + 2 <= s by omega)
  omega
theorem fermat_nat {p:Nat} (hp:Pr p) {a:Nat} (ha:a % p ≠ 0):a ^ (p - 1) % p = 1:=by
 have hp1:=hp.1
 have hpow:∀ n:Nat,GI.pow (GI.nat a) n = GI.nat (a ^ n):=by
  intro n
  induction n with
  | zero=>rfl
  | succ n ih =>
   show GI.mul (GI.nat a) (GI.pow (GI.nat a) n) = _
   rw [ih,Nat.pow_succ]
   refine GI.ext ?_ ?_ <;> simp [GI.mul,GI.nat,Int.mul_comm]
 have h:=GI.fermat hp a
 rw [hpow] at h
 obtain ⟨K,hK⟩:=h
 have e:((a ^ p:Nat):Int) = a + p * K.re:=congrArg GI.re hK
 have hd:(p:Int) ∣ ((a ^ p:Nat):Int) - (a:Int):=⟨K.re,by rw [e];omega⟩
 have e2:a ^ p = a * a ^ (p - 1):=by rw [Nat.mul_comm,<-Nat.pow_succ,show (p - 1).succ = p by omega]
 have h1:1 <= a ^ (p - 1):=Nat.one_le_pow _ _ (Nat.pos_of_ne_zero fun e=>ha (by rw [e,Nat.zero_mod]))
 have e3:((a ^ p:Nat):Int) - (a:Int) = ((a * (a ^ (p - 1) - 1):Nat):Int):=by
  rw [e2,Nat.mul_sub,Nat.mul_one,Int.natCast_sub (Nat.le_mul_of_pos_right _ h1)]
 rw [e3,Int.natCast_dvd_natCast] at hd
 have hc:Nat.Coprime p a:=hp.cop' fun hd=>ha (Nat.mod_eq_zero_of_dvd hd)
 obtain ⟨m,hm⟩:=hc.dvd_of_dvd_mul_left hd
 rw [show a ^ (p - 1) = 1 + p * m by omega,Nat.add_mul_mod_self_left,Nat.mod_eq_of_lt hp1]
end Go.Rq
namespace Go.Rq
open Go
theorem pr0:Pr 110573:=trial 331 (by kernel_rfl)
theorem pr1:Pr 2653753:=by
 refine pock [110573] (by kernel_rfl) fun h2 h1 s hs hd q hq=>?_
 simp only [List.mem_cons,List.not_mem_nil,or_false] at hq
 subst hq
 ·exact row_p (k:=17) (u:=854698) (t:=2531333) h1 h2 pr0 (by kernel_rfl) hs hd
theorem pr2:Pr 63690073:=by
 refine pock [2653753] (by kernel_rfl) fun h2 h1 s hs hd q hq=>?_
 simp only [List.mem_cons,List.not_mem_nil,or_false] at hq
 subst hq
 ·exact row_p (k:=22) (u:=16777216) (t:=5408073) h1 h2 pr1 (by kernel_rfl) hs hd
theorem pr3:Pr 254760293:=by
 refine pock [63690073] (by kernel_rfl) fun h2 h1 s hs hd q hq=>?_
 simp only [List.mem_cons,List.not_mem_nil,or_false] at hq
 subst hq
 ·exact row_p (k:=26) (u:=16) (t:=218527718) h1 h2 pr2 (by kernel_rfl) hs hd
theorem pr4:Pr 609743:=trial 779 (by kernel_rfl)
theorem pr5:Pr 52437899:=by
 refine pock [609743] (by kernel_rfl) fun h2 h1 s hs hd q hq=>?_
 simp only [List.mem_cons,List.not_mem_nil,or_false] at hq
 subst hq
 ·exact row_p (k:=20) (u:=27034091) (t:=23767086) h1 h2 pr4 (by kernel_rfl) hs hd
theorem pr6:Pr 18329:=trial 134 (by kernel_rfl)
theorem pr7:Pr 2529403:=by
 refine pock [18329] (by kernel_rfl) fun h2 h1 s hs hd q hq=>?_
 simp only [List.mem_cons,List.not_mem_nil,or_false] at hq
 subst hq
 ·exact row_p (k:=15) (u:=1443810) (t:=1017113) h1 h2 pr6 (by kernel_rfl) hs hd
theorem pr8:Pr 79:=trial 7 (by kernel_rfl)
theorem pr9:Pr 7:=trial 1 (by kernel_rfl)
theorem pr10:Pr 3:=trial 0 (by kernel_rfl)
theorem pr11:Pr 2508409:=by
 refine pock [79,7,3] (by kernel_rfl) fun h2 h1 s hs hd q hq=>?_
 simp only [List.mem_cons,List.not_mem_nil,or_false] at hq
 rcases hq with rfl | rfl | rfl
 ·exact row_p (k:=7) (u:=1922404) (t:=2391828) h1 h2 pr8 (by kernel_rfl) hs hd
 ·exact row_p (k:=3) (u:=1491919) (t:=1172022) h1 h2 pr9 (by kernel_rfl) hs hd
 ·exact row_p (k:=2) (u:=1632621) (t:=2216480) h1 h2 pr10 (by kernel_rfl) hs hd
theorem pr12:Pr 906349:=trial 951 (by kernel_rfl)
theorem pr13:Pr 859267:=trial 925 (by kernel_rfl)
theorem pr14:Pr 52435875175126190479447740508185965837690552500527637822603658699938581184513:=by
 refine pock [254760293,52437899,2529403,2508409,906349,859267] (by kernel_rfl) fun h2 h1 s hs hd q hq=>?_
 simp only [List.mem_cons,List.not_mem_nil,or_false] at hq
 rcases hq with rfl | rfl | rfl | rfl | rfl | rfl
 ·exact row_p (k:=28) (u:=47291686569396616499156425462872067838946887208699558622576110439061623524034) (t:=8272491309021774342347510960184665570624408625638511717582691645139962808322) h1 h2 pr3 (by kernel_rfl) hs hd
 ·exact row_p (k:=26) (u:=40744907299244235407352508676493668180470552603717615087053811498945141922481) (t:=24435588047324498985135671879022453924774874957194622137846116853917900082546) h1 h2 pr5 (by kernel_rfl) hs hd
 ·exact row_p (k:=22) (u:=47059450156245510142419071452461480537773589021230600566513559274632232753225) (t:=13496695038677861703451944757302736120028747692333370252067538937534610912918) h1 h2 pr7 (by kernel_rfl) hs hd
 ·exact row_p (k:=22) (u:=18373012691511662944661031135262503793624804446979480243025351198939613928965) (t:=42251000375476754255644692231166830250970314810999252736040166163806149457416) h1 h2 pr11 (by kernel_rfl) hs hd
 ·exact row_p (k:=20) (u:=15769418934976494890171147995125343002726346209648636226952077001274280108622) (t:=7341832720726551148783492391540452822139670106997616514216132388446397894251) h1 h2 pr12 (by kernel_rfl) hs hd
 ·exact row_p (k:=20) (u:=43027507203922512242553617092411604239850773065986444709280750291974666585789) (t:=16036145616883159554067384683196216776631872494468603349542811717840123738380) h1 h2 pr13 (by kernel_rfl) hs hd
theorem pr15:Pr 597593:=trial 772 (by kernel_rfl)
theorem pr16:Pr 26647:=trial 162 (by kernel_rfl)
theorem pr17:Pr 73779548989605253:=by
 refine pock [597593,26647] (by kernel_rfl) fun h2 h1 s hs hd q hq=>?_
 simp only [List.mem_cons,List.not_mem_nil,or_false] at hq
 rcases hq with rfl | rfl
 ·exact row_p (k:=20) (u:=15261372537049322) (t:=68173055282261295) h1 h2 pr15 (by kernel_rfl) hs hd
 ·exact row_p (k:=15) (u:=57226719683905182) (t:=36802108169195659) h1 h2 pr16 (by kernel_rfl) hs hd
theorem pr18:Pr 156083864923250991785002799:=by
 refine pock [73779548989605253] (by kernel_rfl) fun h2 h1 s hs hd q hq=>?_
 simp only [List.mem_cons,List.not_mem_nil,or_false] at hq
 subst hq
 ·exact row_p (k:=57) (u:=115599829464088582696410051) (t:=124844899530365331206805700) h1 h2 pr17 (by kernel_rfl) hs hd
theorem pr19:Pr 14543:=trial 119 (by kernel_rfl)
theorem pr20:Pr 4362901:=by
 refine pock [14543] (by kernel_rfl) fun h2 h1 s hs hd q hq=>?_
 simp only [List.mem_cons,List.not_mem_nil,or_false] at hq
 subst hq
 ·exact row_p (k:=14) (u:=2350225) (t:=3155058) h1 h2 pr19 (by kernel_rfl) hs hd
theorem pr21:Pr 43629011:=by
 refine pock [4362901] (by kernel_rfl) fun h2 h1 s hs hd q hq=>?_
 simp only [List.mem_cons,List.not_mem_nil,or_false] at hq
 subst hq
 ·exact row_p (k:=23) (u:=1024) (t:=8214742) h1 h2 pr20 (by kernel_rfl) hs hd
theorem pr22:Pr 87258023:=by
 refine pock [43629011] (by kernel_rfl) fun h2 h1 s hs hd q hq=>?_
 simp only [List.mem_cons,List.not_mem_nil,or_false] at hq
 subst hq
 ·exact row_p (k:=26) (u:=4) (t:=9695336) h1 h2 pr21 (by kernel_rfl) hs hd
theorem pr23:Pr 174516047:=by
 refine pock [87258023] (by kernel_rfl) fun h2 h1 s hs hd q hq=>?_
 simp only [List.mem_cons,List.not_mem_nil,or_false] at hq
 subst hq
 ·exact row_p (k:=27) (u:=4) (t:=19390672) h1 h2 pr22 (by kernel_rfl) hs hd
theorem pr24:Pr 46072236409:=by
 refine pock [174516047] (by kernel_rfl) fun h2 h1 s hs hd q hq=>?_
 simp only [List.mem_cons,List.not_mem_nil,or_false] at hq
 subst hq
 ·exact row_p (k:=28) (u:=7621387813) (t:=33744688159) h1 h2 pr23 (by kernel_rfl) hs hd
theorem pr25:Pr 915869:=trial 956 (by kernel_rfl)
theorem pr26:Pr 11365934291:=by
 refine pock [915869] (by kernel_rfl) fun h2 h1 s hs hd q hq=>?_
 simp only [List.mem_cons,List.not_mem_nil,or_false] at hq
 subst hq
 ·exact row_p (k:=20) (u:=9964290366) (t:=2552703921) h1 h2 pr25 (by kernel_rfl) hs hd
theorem pr27:Pr 16253286036131:=by
 refine pock [11365934291] (by kernel_rfl) fun h2 h1 s hs hd q hq=>?_
 simp only [List.mem_cons,List.not_mem_nil,or_false] at hq
 subst hq
 ·exact row_p (k:=34) (u:=5194687395456) (t:=7986676649825) h1 h2 pr26 (by kernel_rfl) hs hd
theorem pr28:Pr 307202528959414010196955747273574637769335820764971303266458398669801375004184727427572867063:=by
 refine morr [156083864923250991785002799,46072236409,16253286036131] (by kernel_rfl) fun h2 h1 s hs hd q hq=>?_
 simp only [List.mem_cons,List.not_mem_nil,or_false] at hq
 rcases hq with rfl | rfl | rfl
 ·exact row_m (k:=88) (u:=284533188331670450599559813562649621612636685766427118446961277331686977444749608028565734413) (v:=143899997501999503499924603473387784879380665968700981587986861323721007018233406030319024085) (t:=263961610173074643512334520666667076154059701411169151621168832623478342677021642072110504767) h1 pr18 (by kernel_rfl) (by kernel_rfl) hs hd
 ·exact row_m (k:=36) (u:=178849773102153389778765108071561236754748357461711022044902314706950378098802454584841181827) (v:=148487190946588945029736634807864168232989787455781536400857407814839195839367751376879611109) (t:=281082323720725506404661016030753170361552213859806326759736578068591841163932858626056371741) h1 pr24 (by kernel_rfl) (by kernel_rfl) hs hd
 ·exact row_m (k:=44) (u:=93254127763411557939324456773691262884123920146095204746477972588369835382385029015072454195) (v:=128235565482707231171401749281996455088748478161738036983036643917099646789267762343546613900) (t:=232241080552751787871792791193002398125699963483135957149912324268265853973978820469013805396) h1 pr27 (by kernel_rfl) (by kernel_rfl) hs hd
theorem pr29:Pr 845817742016413227687614079825846186930871263723374447449716427752331287085975880059739566595311847852471317109:=by
 refine pock [307202528959414010196955747273574637769335820764971303266458398669801375004184727427572867063] (by kernel_rfl) fun h2 h1 s hs hd q hq=>?_
 simp only [List.mem_cons,List.not_mem_nil,or_false] at hq
 subst hq
 ·exact row_p (k:=308) (u:=81187775623023919112919733391471430114509226083388684504755857439343848484154488959623945095297981823968039695) (t:=532332458101301275505511731943247530129837256366664136881696355035850008364731273543126876511034358404920518420) h1 h2 pr28 (by kernel_rfl) hs hd
theorem pr30:Pr 4002409555221667393417789825735904156556882819939007885332058136124031650490837864442687629129015664037894272559787:=by
 refine morr [845817742016413227687614079825846186930871263723374447449716427752331287085975880059739566595311847852471317109] (by kernel_rfl) fun h2 h1 s hs hd q hq=>?_
 simp only [List.mem_cons,List.not_mem_nil,or_false] at hq
 subst hq
 ·exact row_m (k:=369) (u:=1588245469955867453221167050554654839771414121579679824916963608285392547594593910888830993357567425149309403817626) (v:=1235324612909888021685800130558716099355515684439840888916641554913866144767399377883741991451359506303539880195943) (t:=3407498155760335788028185507862619618592417260020186979764066134515508538569650611251186940344440273035076553594098) h1 pr29 (by kernel_rfl) (by kernel_rfl) hs hd
end Go.Rq
namespace Go.Rq
open Go
def powM (N a e:Nat):Nat:=a ^ e % N
def PowI (N A e k o:Nat):Prop:=o = A ^ (e / 2 ^ k) * R % N
theorem PowI.start {N A e k:Nat} (h:e < 2 ^ k):PowI N A e k (1 * R % N):=by
 unfold PowI
 rw [Nat.div_eq_of_lt h,Nat.pow_zero]
theorem PowI.step {N A e k o x:Nat} (h1:N % 2 = 1) (h:PowI N A e (k + 1) o) (hx:x = A * R % N) :
  (e / 2 ^ k % 2 = 0->PowI N A e k (montV N o o))/\(e / 2 ^ k % 2 = 1->PowI N A e k (montV N (montV N o o) x)):=by
 have hd:e / 2 ^ (k + 1) = e / 2 ^ k / 2:=by rw [Nat.div_div_eq_div_mul,Nat.pow_succ]
 unfold PowI at *
 have hs:montV N o o = A ^ (2 * (e / 2 ^ k / 2)) * R % N:=by
  rw [h,hd,mont_mul h1,Nat.two_mul,Nat.pow_add]
 constructor
 ·intro h0
  rw [hs,show 2 * (e / 2 ^ k / 2) = e / 2 ^ k by omega]
 ·intro h0
  rw [hs,hx,mont_mul h1,<-Nat.pow_succ,show (2 * (e / 2 ^ k / 2)).succ = e / 2 ^ k by omega]
theorem PowI.fin {N A e o:Nat} (h1:N % 2 = 1) (h:PowI N A e 0 o):montV N o 1 = powM N A e:=by
 unfold PowI at h
 unfold powM
 rw [h,mont_out h1,Nat.mul_one,Nat.pow_zero,Nat.div_one]
theorem PowI.lt {N A e k o:Nat} (hN:0 < N) (h:PowI N A e k o):o < N:=by unfold PowI at h;rw [h];exact Nat.mod_lt _ hN
def halfV (N a:Nat):Nat:=(bif Nat.beq (a % 2) 1 then a + N else a) / 2
theorem halfV_two {N a:Nat} (h1:N % 2 = 1) (ha:a < N):halfV N a < N/\2 * halfV N a % N = a % N:=by
 unfold halfV
 cases hb:Nat.beq (a % 2) 1
 ·have:a % 2 ≠ 1:=fun e=>by rw [<-Nat.beq_eq,hb] at e;cases e
  simp only [cond_false]
  refine ⟨by omega,?_⟩
  rw [show 2 * (a / 2) = a by omega]
 ·rw [Nat.beq_eq] at hb
  simp only [cond_true]
  refine ⟨by omega,?_⟩
  rw [show 2 * ((a + N) / 2) = a + N by omega,Nat.add_mod_right]
structure IS where
 u:Nat
 v:Nat
 x:Nat
 y:Nat
def invS (N:Nat) (s:IS):IS :=
 bif Nat.beq (s.u % 2) 0 then ⟨s.u / 2,s.v,halfV N s.x,s.y⟩
 else bif Nat.beq (s.v % 2) 0 then ⟨s.u,s.v / 2,s.x,halfV N s.y⟩
 else bif Nat.ble s.v s.u then ⟨s.u - s.v,s.v,subM N s.x s.y,s.y⟩
 else ⟨s.u,s.v - s.u,s.x,subM N s.y s.x⟩
def invG (N:Nat):Nat->IS->IS
 | 0,s=>s
 | k + 1,s=>bif Nat.beq s.u 0 then s else invG N k (invS N s)
def invF (N a:Nat):IS:=invG N (a % N + N) ⟨a % N,N,1,0⟩
def invE (N a:Nat):Int:=bif Nat.beq (invF N a).v 1 then 0 else 6
def invV (N a:Nat):Nat:=bif Nat.beq (invF N a).v 1 then (invF N a).y else 0
structure ISOk (N A:Nat) (s:IS):Prop where
 v0:0 < s.v
 vN:s.v <= N
 uN:s.u < N
 xN:s.x < N
 yN:s.y < N
 ux:s.u % N = s.x * A % N
 vy:s.v % N = s.y * A % N
 gcd:Nat.gcd s.u s.v = Nat.gcd A N
theorem two_cancel {N a b:Nat} (h1:N % 2 = 1) (h:2 * a % N = 2 * b % N):a % N = b % N:=by
 have e:=cg' ((N + 1) / 2) h
 rw [<-Nat.mul_assoc,<-Nat.mul_assoc,show (N + 1) / 2 * 2 = N + 1 by omega,Nat.add_mul,Nat.add_mul,Nat.one_mul,Nat.one_mul,Nat.mul_add_mod_self_left,Nat.mul_add_mod_self_left] at e
 exact e
theorem subM_lt {N a b:Nat} (h:0 < N):subM N a b < N:=Nat.mod_lt _ h
theorem subM_add {N a b:Nat} (h:0 < N):(subM N a b + b) % N = a % N:=by
 unfold subM
 rw [Nat.add_mod,Nat.mod_mod,<-Nat.add_mod]
 have hb:=Nat.mod_lt b h
 rw [Nat.add_mod,Nat.add_mod (a % N),Nat.mod_mod]
 have e:(a % N + (N - b % N) % N) % N = (a % N + (N - b % N)) % N:=by rw [Nat.add_mod,Nat.mod_mod,Nat.mod_mod,<-Nat.mod_mod a,<-Nat.add_mod];rw [Nat.mod_mod]
 rw [e,<-Nat.mod_mod b,<-Nat.add_mod,Nat.mod_mod,show a % N + (N - b % N) + b % N = a % N + N by omega,Nat.add_mod_right,Nat.mod_mod]
theorem sub_mul {N a b c A:Nat} (h:0 < N) (hle:b <= a) (ha:a % N = c * A % N) {d:Nat} (hb:b % N = d * A % N):(a - b) % N = subM N c d * A % N:=by
 have e1:(subM N c d * A + d * A) % N = c * A % N:=by rw [<-Nat.add_mul];exact cg A (subM_add h)
 have e2:((a - b) + b) % N = (subM N c d * A + b) % N:=by
  rw [Nat.sub_add_cancel hle,ha,<-e1,Nat.add_mod,<-hb,<-Nat.add_mod]
 have e3:=congrArg (fun z=>(z + (N - b % N)) % N) e2
 have hbN:=Nat.mod_lt b h
 have key:∀ x:Nat,((x + b) % N + (N - b % N)) % N = x % N:=by
  intro x
  have:(x + b) % N = (x + b % N) % N:=by rw [Nat.add_mod,<-Nat.mod_mod b,<-Nat.add_mod,Nat.mod_mod]
  rw [this,Nat.add_mod,Nat.mod_mod,<-Nat.add_mod,show x + b % N + (N - b % N) = x + N by omega,Nat.add_mod_right]
 rw [key,key] at e3
 exact e3
theorem gcd_half {a b:Nat} (ha:a % 2 = 0) (hb:b % 2 = 1):Nat.gcd (a / 2) b = Nat.gcd a b:=by
 have h:a = 2 * (a / 2):=by omega
 have hc:Nat.Coprime 2 b:=by
  show Nat.gcd 2 b = 1
  rw [Nat.gcd_rec,hb];rfl
 conv=>rhs;rw [h]
 exact (Nat.Coprime.gcd_mul_left_cancel (a / 2) hc).symm
theorem ISOk.step {N A:Nat} {s:IS} (h1:N % 2 = 1) (h:ISOk N A s) (hu:s.u ≠ 0) (hodd:s.u % 2 = 1∨s.v % 2 = 1) :
  ISOk N A (invS N s)/\(invS N s).u + (invS N s).v < s.u + s.v/\((invS N s).u % 2 = 1∨(invS N s).v % 2 = 1):=by
 have hN:0 < N:=by have:=h.uN;omega
 obtain ⟨v0,vN,uN,xN,yN,ux,vy,g⟩:=h
 unfold invS
 cases h2:Nat.beq (s.u % 2) 0
 ·have e2:s.u % 2 ≠ 0:=fun e=>by rw [<-Nat.beq_eq,h2] at e;cases e
  simp only [cond_false]
  cases h3:Nat.beq (s.v % 2) 0
  ·have e3:s.v % 2 ≠ 0:=fun e=>by rw [<-Nat.beq_eq,h3] at e;cases e
   simp only [cond_false]
   cases h4:Nat.ble s.v s.u
   ·have e4:¬ s.v <= s.u:=by rw [<-Nat.ble_eq,h4];simp
    simp only [cond_false]
    refine ⟨⟨by first | omega | (simp only;omega),by first | omega | (simp only;omega),uN,xN,subM_lt hN,ux,sub_mul hN (by omega) vy ux,?_⟩,by first | omega | (simp only;omega),.inl (by first | omega | (simp only;omega))⟩
    simp only
    rw [<-g,Nat.gcd_comm,Nat.gcd_comm s.u]
    exact Nat.gcd_sub_self_left (by omega)
   ·rw [Nat.ble_eq] at h4
    simp only [cond_true]
    refine ⟨⟨v0,vN,by first | omega | (simp only;omega),subM_lt hN,yN,sub_mul hN h4 ux vy,vy,?_⟩,by first | omega | (simp only;omega),.inr (by first | omega | (simp only;omega))⟩
    simp only
    rw [<-g]
    exact Nat.gcd_sub_self_left h4
  ·rw [Nat.beq_eq] at h3
   have hh:=halfV_two h1 yN
   simp only [cond_true]
   refine ⟨⟨by first | omega | (simp only;omega),by first | omega | (simp only;omega),uN,xN,hh.1,ux,?_,?_⟩,by first | omega | (simp only;omega),.inl (by first | omega | (simp only;omega))⟩
   ·simp only
    refine two_cancel h1 ?_
    rw [show 2 * (s.v / 2) = s.v by omega,vy,<-Nat.mul_assoc]
    exact (cg A hh.2).symm
   ·simp only
    rw [<-g,Nat.gcd_comm,Nat.gcd_comm s.u]
    exact gcd_half h3 (by omega)
 ·rw [Nat.beq_eq] at h2
  have hh:=halfV_two h1 xN
  simp only [cond_true]
  refine ⟨⟨v0,vN,by first | omega | (simp only;omega),hh.1,yN,?_,vy,?_⟩,by first | omega | (simp only;omega),.inr (by first | omega | (simp only;omega))⟩
  ·simp only
   refine two_cancel h1 ?_
   rw [show 2 * (s.u / 2) = s.u by omega,ux,<-Nat.mul_assoc]
   exact (cg A hh.2).symm
  ·simp only
   rw [<-g]
   exact gcd_half h2 (by omega)
theorem ISOk.start {N a:Nat} (h1:N % 2 = 1) (hN:1 < N):ISOk N a ⟨a % N,N,1,0⟩/\((a % N) % 2 = 1∨N % 2 = 1) :=
 ⟨⟨by first | omega | (simp only;omega),Nat.le_refl _,Nat.mod_lt _ (by omega),hN,by first | omega | (simp only;omega),by simp,by simp,by
  simp only
  rw [Nat.gcd_comm a,Nat.gcd_rec N a]⟩,.inr h1⟩
theorem invG_end {N A:Nat} (h1:N % 2 = 1):∀ {k:Nat} {s:IS},ISOk N A s->(s.u % 2 = 1∨s.v % 2 = 1)->s.u + s.v <= k->ISOk N A (invG N k s)/\(invG N k s).u = 0
 | 0,s,h,_,hk=>by have:=h.v0;omega
 | k + 1,s,h,ho,hk=>by
  simp only [invG]
  cases hb:Nat.beq s.u 0
  ·have hu:s.u ≠ 0:=fun e=>by rw [<-Nat.beq_eq,hb] at e;cases e
   simp only [cond_false]
   obtain ⟨a,b,c⟩:=h.step h1 hu ho
   exact invG_end h1 a c (by omega)
  ·rw [Nat.beq_eq] at hb
   simp only [cond_true]
   exact ⟨h,hb⟩
theorem invG_more {N:Nat}:∀ {k j:Nat} {s:IS},(invG N k s).u = 0->k <= j->invG N j s = invG N k s
 | 0,j,s,h,_=>by
  simp only [invG] at h
  cases j with
  | zero=>rfl
  | succ j=>simp only [invG,h];rfl
 | k + 1,0,_,_,hj=>by omega
 | k + 1,j + 1,s,h,hj=>by
  simp only [invG] at h ⊢
  cases hb:Nat.beq s.u 0
  ·rw [hb] at h
   simp only [cond_false] at h ⊢
   exact invG_more h (by omega)
  ·rfl
theorem invF_ok {N a:Nat} (h1:N % 2 = 1) (hN:1 < N):ISOk N a (invF N a)/\(invF N a).u = 0:=by
 obtain ⟨h,ho⟩:=ISOk.start (a:=a) h1 hN
 exact invG_end h1 h ho (Nat.le_refl _)
theorem invF_gcd {N a:Nat} (h1:N % 2 = 1) (hN:1 < N):(invF N a).v = Nat.gcd a N:=by
 obtain ⟨h,h0⟩:=invF_ok (a:=a) h1 hN
 have:=h.gcd
 rw [h0,Nat.gcd_zero_left] at this
 exact this
theorem invV_mul {N a:Nat} (h1:N % 2 = 1) (hN:1 < N) (h:Nat.gcd a N = 1):invE N a = 0/\invV N a < N/\invV N a * a % N = 1:=by
 obtain ⟨hk,_⟩:=invF_ok (a:=a) h1 hN
 have hv:=invF_gcd (a:=a) h1 hN
 rw [h] at hv
 have hb:Nat.beq (invF N a).v 1 = true:=by rw [hv];rfl
 have:=hk.vy
 rw [hv,Nat.mod_eq_of_lt hN] at this
 unfold invE invV
 rw [hb]
 exact ⟨rfl,hk.yN,this.symm⟩
theorem invV_none {N a:Nat} (h1:N % 2 = 1) (hN:1 < N) (h:Nat.gcd a N ≠ 1):invE N a = 6/\invV N a = 0:=by
 have hv:=invF_gcd (a:=a) h1 hN
 have hb:Nat.beq (invF N a).v 1 = false:=by rw [hv,<-Bool.not_eq_true,Nat.beq_eq];exact h
 unfold invE invV
 rw [hb]
 exact ⟨rfl,rfl⟩
def ISTo (N A:Nat) (s:IS):Prop:=ISOk N A s/\(s.u % 2 = 1∨s.v % 2 = 1)/\invG N (s.u + s.v) s = invF N A
theorem ISTo.start {N a:Nat} (h1:N % 2 = 1) (hN:1 < N):ISTo N a ⟨a % N,N,1,0⟩:=⟨(ISOk.start h1 hN).1,(ISOk.start h1 hN).2,rfl⟩
theorem ISTo.step {N A:Nat} {s:IS} (h1:N % 2 = 1) (h:ISTo N A s) (hu:s.u ≠ 0):ISTo N A (invS N s)/\(invS N s).u + (invS N s).v < s.u + s.v:=by
 obtain ⟨h2,h3,h4⟩:=h
 obtain ⟨a,b,c⟩:=h2.step h1 hu h3
 refine ⟨⟨a,c,?_⟩,b⟩
 have e0:=(invG_end h1 a c (Nat.le_refl _)).2
 have e1:=invG_more e0 (j:=s.u + s.v) (by omega)
 have e2:=invG_more (invG_end h1 h2 h3 (Nat.le_refl _)).2 (j:=s.u + s.v + 1) (by omega)
 have hb:Nat.beq s.u 0 = false:=by rw [<-Bool.not_eq_true,Nat.beq_eq];exact hu
 have e3:invG N (s.u + s.v + 1) s = invG N (s.u + s.v) (invS N s):=by simp only [invG,hb,cond_false]
 rw [<-e1,<-e3,e2,h4]
theorem ISTo.fin {N A:Nat} {s:IS} (h:ISTo N A s) (hu:s.u = 0):invF N A = s:=by
 obtain ⟨h2,h3,h4⟩:=h
 rw [<-h4]
 obtain ⟨k,hk⟩:∃ k,s.u + s.v = k + 1:=⟨s.u + s.v - 1,by have:=h2.v0;omega⟩
 rw [hk]
 simp only [invG,hu]
 rfl
end Go.Rq
namespace Go.Rq
open Go
theorem pr_mul {N a b:Nat} (hp:Pr N) (h:N ∣ a * b):N ∣ a∨N ∣ b:=by
 by_cases ha:N ∣ a
 ·exact .inl ha
 ·exact .inr ((hp.cop' ha).dvd_of_dvd_mul_left h)
def hV (N a:Nat):Nat:=a ^ ((N - 1) / 2) % N
end Go.Rq
namespace Go.Rq
open Go
def pN:Nat:=4002409555221667393417789825735904156556882819939007885332058136124031650490837864442687629129015664037894272559787
instance:NeZero pN:=⟨by decide⟩
theorem pN_pr:Pr pN:=pr30
theorem pN_pos:0 < pN:=by decide
theorem pN_odd:pN % 2 = 1:=by decide
theorem pN_small:4 * pN <= R:=by decide
theorem pN_lt:pN < R:=by decide
abbrev Fp:Type:=Fin pN
def ofN (n:Nat):Fp:=Fin.ofNat pN n
theorem ofN_val (n:Nat):(ofN n).val = n % pN:=rfl
theorem ofN_self (z:Fp):ofN z.val = z:=Fin.ext (Nat.mod_eq_of_lt z.isLt)
theorem ofN_add (a b:Nat):ofN (a + b) = ofN a + ofN b:=Fin.ext (by rw [Fin.val_add];simp only [ofN_val];rw [<-Nat.add_mod])
theorem ofN_mul (a b:Nat):ofN (a * b) = ofN a * ofN b:=Fin.ext (by rw [Fin.val_mul];simp only [ofN_val];rw [<-Nat.mul_mod])
theorem ofN_mod (a:Nat):ofN (a % pN) = ofN a:=Fin.ext (by simp only [ofN_val];rw [Nat.mod_mod])
theorem ofN_inj {a b:Nat} (ha:a < pN) (hb:b < pN) (h:ofN a = ofN b):a = b:=by
 have:=congrArg Fin.val h
 simp only [ofN_val] at this
 rwa [Nat.mod_eq_of_lt ha,Nat.mod_eq_of_lt hb] at this
theorem ofN_p:ofN pN = 0:=Fin.ext (Nat.mod_self pN)
theorem ofN_zero:ofN 0 = 0:=rfl
theorem ofN_one:ofN 1 = 1:=by
 refine Fin.ext ?_
 show 1 % pN = 1 % pN
 rfl
def rr:Fp:=ofN R
def ri:Fp:=ofN (rinv pN)
theorem rr_ri:rr * ri = 1:=by
 unfold rr ri
 rw [<-ofN_mul,<-ofN_mod,rinv_spec pN_odd,ofN_mod,ofN_one]
def enc (z:Fp):Nat:=(z * rr).val
def dec (n:Nat):Fp:=ofN n * ri
theorem enc_lt (z:Fp):enc z < pN:=(z * rr).isLt
theorem ofN_enc (z:Fp):ofN (enc z) = z * rr:=ofN_self _
theorem dec_enc (z:Fp):dec (enc z) = z:=by
 unfold dec
 have:=rr_ri
 rw [ofN_enc]
 grind
theorem enc_of {n:Nat} {z:Fp} (h:n < pN) (e:ofN n = z * rr):n = enc z:=ofN_inj h (enc_lt z) (by rw [ofN_enc,e])
theorem ofN_dec (n:Nat):dec n * rr = ofN n:=by
 unfold dec
 have:=rr_ri
 grind
theorem enc_dec {n:Nat} (h:n < pN):enc (dec n) = n:=(enc_of h (ofN_dec n).symm).symm
theorem mont_enc (a b:Nat):montV pN a b = enc (dec a * dec b):=by
 refine enc_of (montV_lt pN_pos) ?_
 unfold montV
 rw [ofN_mod,ofN_mul,ofN_mul]
 have h1:=ofN_dec a
 have h2:=ofN_dec b
 have h3:=rr_ri
 show ofN a * ofN b * ri = _
 rw [<-h1,<-h2]
 grind
theorem add_enc (a b:Nat):(a + b) % pN = enc (dec a + dec b):=by
 refine enc_of (Nat.mod_lt _ pN_pos) ?_
 rw [ofN_mod,ofN_add,<-ofN_dec a,<-ofN_dec b]
 grind
theorem sub_enc (a b:Nat):subM pN a b = enc (dec a - dec b):=by
 refine enc_of (subM_lt pN_pos) ?_
 have h:=subM_add (a:=a) (b:=b) pN_pos
 have h2:=congrArg ofN h
 rw [ofN_mod,ofN_mod,ofN_add] at h2
 have h3:=ofN_dec a
 have h4:=ofN_dec b
 rw [<-h3,<-h4] at h2
 grind
theorem dec_zero:dec 0 = 0:=by unfold dec;rw [ofN_zero];grind
theorem from_val (a:Nat):montV pN a 1 = (dec a).val:=by
 refine ofN_inj (montV_lt pN_pos) (dec a).isLt ?_
 unfold montV
 rw [ofN_self,ofN_mod,ofN_mul,ofN_mul,ofN_one]
 show ofN a * 1 * ri = ofN a * ri
 grind
theorem to_enc (n:Nat):montV pN (R * R % pN) n = enc (ofN n):=by
 refine enc_of (montV_lt pN_pos) ?_
 unfold montV
 rw [ofN_mod,ofN_mul,ofN_mul,ofN_mod,ofN_mul]
 have h3:=rr_ri
 show rr * rr * ofN n * ri = _
 grind
end Go.Rq
namespace Go.Proofs.YtnjocbcjejpklaaGreat
open Go.Rq Go
set_option maxRecDepth 100000
abbrev nm (a:Nat->Nat):AV:=.v1 (.agg [.ws .u64 6 a])
abbrev endN (u v:AV):Prop:=∃ v',some u = some v'/\∀ ρ,v'.val ρ = v.val ρ
theorem nm_val {f g:Nat->Nat} (h:nv f = nv g) (ρ:Ren):(nm f).val ρ = (nm g).val ρ:=by
 have h1:=numA_val (f:=f) (n:=nv f) (by rw [Nat.mod_eq_of_lt (nv_lt f)]) ρ
 have h2:=numA_val (f:=g) (n:=nv g) (by rw [Nat.mod_eq_of_lt (nv_lt g)]) ρ
 rw [h1,h2,h]
theorem endN_nm {f g:Nat->Nat} (e:nv f = nv g):endN (nm f) (nm g):=⟨_,rfl,nm_val e⟩
abbrev nbE (f:Nat->Nat):Option Blk:=some ⟨67,[.ws .u64 6 f],0,0⟩
def eF (z:Fp):Nat->Nat:=wd (enc z)
def dF (a:Nat->Nat):Fp:=dec (nv a)
theorem nv_eF (z:Fp):nv (eF z) = enc z:=by
 unfold eF
 rw [nv_wd,Nat.mod_eq_of_lt (Nat.lt_trans (enc_lt z) pN_lt)]
theorem dF_eF (z:Fp):dF (eF z) = z:=by unfold dF;rw [nv_eF,dec_enc]
theorem lt_eF (z:Fp):nv (eF z) < pN:=by rw [nv_eF];exact enc_lt z
theorem eF_dF {a:Nat->Nat} (h:nv a < pN):nv (eF (dF a)) = nv a:=by
 rw [nv_eF];exact enc_dec h
def cK (f:Nat->Nat):List AV->Option (List Prop × AV)
 | []=>some ([],nm f)
 | _=>none
theorem cK_ok {f:Nat->Nat} {n:FuncId} {fn:Func} (hf:Tryz.prog.funcs[n]? = some fn) (hb:fn.body = some (bodyOf fn)) (hn:(fn.name == "runtime.NumGoroutine") = false)
  (h:ev Tryz.prog tt (ctxL []) 60 (bodyOf fn) (fun e s' _=>FEnd tt fn (nm f) e s') ⟨frame0 [] fn.ntmps,[]⟩ []):(CallC.pure (cK f)).Ok Tryz.prog n:=by
 intro args pre v e _
 unfold cK at e
 split at e
 ·cases e
  exact pure_fn mixed tt_ok G0_ok hf hb hn (by rfl) (by rfl) 60 [] h
 ·cases e
def primeF:Nat->Nat:=upd (upd (upd (upd (upd (upd (fun _=>0) 0 0xb9feffffffffaaab) 1 0x1eabfffeb153ffff) 2 0x6730d2a0f6b0f624) 3 0x64774b84f38512bf) 4 0x4b1ba7b6434bacd7) 5 0x1a0111ea397fe69a
def oneF:Nat->Nat:=upd (upd (upd (upd (upd (upd (fun _=>0) 0 0x760900000002fffd) 1 0xebf4000bc40c0002) 2 0x5f48985753c758ba) 3 0x77ce585370525745) 4 0x5c071a97a256ec6d) 5 0x15f65ec3fa80e493
def wideF:Nat->Nat:=upd (upd (upd (upd (upd (upd (fun _=>0) 0 0xf4df1f341c341746) 1 0x0a76e6a609d104f1) 2 0x8de5476c4c95b6d5) 3 0x67eb88a9939d83c0) 4 0x9a793e85b519952d) 5 0x11988fe592cae3aa
theorem nv_prime:nv primeF = pN:=by kernel_rfl
theorem nv_one':nv oneF = R % pN:=by kernel_rfl
theorem nv_wide:nv wideF = R * R % pN:=by kernel_rfl
theorem okPrime:(CallC.pure (cK primeF)).Ok Tryz.prog 160 :=
 cK_ok Tryz.func160 (by kernel_rfl) (by kernel_rfl) (same (p:=some (nm primeF) = some (nm primeF)) rfl (by kernel_rfl))
theorem okOne0:(CallC.pure (cK oneF)).Ok Tryz.prog 104 :=
 cK_ok Tryz.func104 (by kernel_rfl) (by kernel_rfl) (same (p:=some (nm oneF) = some (nm oneF)) rfl (by kernel_rfl))
theorem okWide0:(CallC.pure (cK wideF)).Ok Tryz.prog 162 :=
 cK_ok Tryz.func162 (by kernel_rfl) (by kernel_rfl) (same (p:=some (nm wideF) = some (nm wideF)) rfl (by kernel_rfl))
theorem one_enc:nv oneF = enc 1:=by
 rw [nv_one']
 refine enc_of (Nat.mod_lt _ pN_pos) ?_
 rw [ofN_mod]
 show rr = 1 * rr
 grind
def el1 (F:Fp->Fp):List AV->Option (List Prop × AV)
 | [.v1 (.agg [.ws .u64 6 a])]=>some ([nv a < pN],nm (eF (F (dF a))))
 | _=>none
def el2 (F:Fp->Fp->Fp):List AV->Option (List Prop × AV)
 | [.v1 (.agg [.ws .u64 6 a]),.v1 (.agg [.ws .u64 6 b])]=>some ([nv a < pN,nv b < pN],nm (eF (F (dF a) (dF b))))
 | _=>none
theorem el1_ok {F:Fp->Fp} {f:FuncId} {fn:Func} (hf:Tryz.prog.funcs[f]? = some fn) (hb:fn.body = some (bodyOf fn)) (hn:(fn.name == "runtime.NumGoroutine") = false)
  (h:∀ a:Nat->Nat,nv a < pN->AWqS Tryz.prog (fun _=>False) (flatC (bodyOf fn)) (FEnd' tt fn (nm (eF (F (dF a))))) ⟨frame0 [nm a] fn.ntmps,[]⟩):(CallC.pure (el1 F)).Ok Tryz.prog f:=by
 intro args pre v e hp
 unfold el1 at e
 split at e
 ·rename_i a
  cases e
  exact pure_walk' tt_ok hf hb hn (by rfl) (by rfl) (h a (hp _ (List.mem_cons_self ..)))
 ·cases e
theorem el2_ok {F:Fp->Fp->Fp} {f:FuncId} {fn:Func} (hf:Tryz.prog.funcs[f]? = some fn) (hb:fn.body = some (bodyOf fn)) (hn:(fn.name == "runtime.NumGoroutine") = false)
  (h:∀ a b:Nat->Nat,nv a < pN->nv b < pN->AWqS Tryz.prog (fun _=>False) (flatC (bodyOf fn)) (FEnd' tt fn (nm (eF (F (dF a) (dF b))))) ⟨frame0 [nm a,nm b] fn.ntmps,[]⟩):(CallC.pure (el2 F)).Ok Tryz.prog f:=by
 intro args pre v e hp
 unfold el2 at e
 split at e
 ·rename_i a b
  cases e
  exact pure_walk' tt_ok hf hb hn (by rfl) (by rfl) (h a b (hp _ (by simp)) (hp _ (by simp)))
 ·cases e
def eAdd (x y:Fp):Fp:=x + y
def eSub (x y:Fp):Fp:=x - y
def eNeg (x:Fp):Fp:=0 - x
def eMul (x y:Fp):Fp:=x * y
def cLess:List AV->Option (List Prop × AV)
 | [.v1 (.agg [.ws .u64 6 a])]=>some ([],numA (lessV pN (nv a)))
 | _=>none
def GLe:Ctx:=ctxL [(160,.pure (cK primeF)),(159,.pure cSub64),(62,.pure cAdd64)]
theorem GLe_ok:CtxOk Tryz.prog GLe:=ctxL_cons okPrime <| ctxL_cons okSub64 <| ctxL_cons okAdd64 ctxL_nil
theorem okLess:(CallC.pure cLess).Ok Tryz.prog 158:=by
 intro args pre v e _
 unfold cLess at e
 split at e
 ·rename_i a
  cases e
  refine pure_walk' tt_ok Tryz.func158 (by kernel_rfl) (by kernel_rfl) (by rfl) (by rfl) ?_
  have ha:=nv_lt a
  have hd:=sub_diff a primeF
  rw [nv_prime] at hd
  cases hb:Nat.blt (nv a) pN
  ·have hb':¬ nv a < pN:=by rw [<-Nat.blt_eq,hb];simp
   rw [hb] at hd
   have hl:lessV pN (nv a) = (nv a + R - pN) % R:=by
    unfold lessV
    have:Nat.ble pN (nv a) = true:=by rw [Nat.ble_eq];omega
    rw [this,cond_true]
    exact less_gen (by omega) ha
   refine evS_q mixed tt_ok GLe_ok 100 [⟨9,1,.lit (.bo false)⟩] ?_
   refine same (p:=subC a primeF 0 % W <= 1/\subC a primeF 1 % W <= 1/\subC a primeF 2 % W <= 1/\subC a primeF 3 % W <= 1/\subC a primeF 4 % W <= 1/\subC a primeF 5 % W <= 1 /\
    Nat.beq (subC a primeF 6 % W) (1 % W) = false/\endN (nm (subO a primeF 6)) (numA (lessV pN (nv a)))) ?_ (by kernel_rfl)
   exact ⟨subC_le' _ _ 0,subC_le' _ _ 1,subC_le' _ _ 2,subC_le' _ _ 3,subC_le' _ _ 4,subC_le' _ _ 5,hd.2,_,rfl,fun ρ=>numA_val (by rw [hl,hd.1,Nat.mod_mod]) ρ⟩
  ·have hb':nv a < pN:=by rw [<-Nat.blt_eq,hb]
   rw [hb] at hd
   have hl:lessV pN (nv a) = nv a:=by
    unfold lessV
    have:Nat.ble pN (nv a) = false:=by rw [<-Bool.not_eq_true,Nat.ble_eq];omega
    rw [this,cond_false]
   refine evS_q mixed tt_ok GLe_ok 100 [⟨9,1,.lit (.bo true)⟩] ?_
   refine same (p:=subC a primeF 0 % W <= 1/\subC a primeF 1 % W <= 1/\subC a primeF 2 % W <= 1/\subC a primeF 3 % W <= 1/\subC a primeF 4 % W <= 1/\subC a primeF 5 % W <= 1 /\
    Nat.beq (subC a primeF 6 % W) (1 % W) = true/\endN (nm a) (numA (lessV pN (nv a)))) ?_ (by kernel_rfl)
   exact ⟨subC_le' _ _ 0,subC_le' _ _ 1,subC_le' _ _ 2,subC_le' _ _ 3,subC_le' _ _ 4,subC_le' _ _ 5,hd.2,_,rfl,fun ρ=>numA_val (by rw [hl,Nat.mod_eq_of_lt ha]) ρ⟩
 ·cases e
def GAe:Ctx:=ctxL [(158,.pure cLess),(62,.pure cAdd64)]
theorem GAe_ok:CtxOk Tryz.prog GAe:=ctxL_cons okLess <| ctxL_cons okAdd64 ctxL_nil
theorem okEAdd:(CallC.pure (el2 eAdd)).Ok Tryz.prog 100:=by
 refine el2_ok Tryz.func100 (by kernel_rfl) (by kernel_rfl) fun a b ha hb=>evS_q mixed tt_ok GAe_ok 100 [] ?_
 refine same (p:=addC a b 0 % W <= 1/\addC a b 1 % W <= 1/\addC a b 2 % W <= 1/\addC a b 3 % W <= 1/\addC a b 4 % W <= 1/\addC a b 5 % W <= 1/\endN (numA (lessV pN (nv (addO a b 6)))) (nm (eF (eAdd (dF a) (dF b))))) ?_ (by kernel_rfl)
 refine ⟨addC_le' a b 0,addC_le' a b 1,addC_le' a b 2,addC_le' a b 3,addC_le' a b 4,addC_le' a b 5,endN_nm ?_⟩
 have hs:=pN_small
 have e:lessV pN (nv (addO a b 6)) = enc (eAdd (dF a) (dF b)):=by
  rw [(add_sum a b).1,Nat.mod_eq_of_lt (show nv a + nv b < R by omega),lessV_mod (by omega),add_enc]
  rfl
 rw [e,nv_eF,nv_wd,Nat.mod_eq_of_lt (Nat.lt_trans (enc_lt _) pN_lt)]
def iadd (o b:Nat->Nat):Nat->(Nat->Nat)
 | 0=>o
 | i + 1=>upd (iadd o b i) i (o i + b i + addC o b i)
theorem iadd_eq (o b:Nat->Nat):∀ n j,j < n->iadd o b n j = addO o b n j
 | n + 1,j,h=>by
  show (bif Nat.beq j n then _ else iadd o b n j) = (bif Nat.beq j n then _ else addO o b n j)
  cases hb:Nat.beq j n
  ·have:j ≠ n:=fun e=>by rw [<-Nat.beq_eq,hb] at e;cases e
   rw [cond_false,cond_false,iadd_eq o b n j (by omega)]
  ·rfl
theorem okESub:(CallC.pure (el2 eSub)).Ok Tryz.prog 101:=by
 refine el2_ok Tryz.func101 (by kernel_rfl) (by kernel_rfl) fun a b ha hb=>?_
 have hs:=pN_small
 have hd:=sub_diff a b
 have hsub:=sub_eq (a:=nv a) (b:=nv b) pN_pos (show 2 * pN <= R by omega)
 rw [Nat.mod_eq_of_lt ha,Nat.mod_eq_of_lt hb] at hsub
 have key:∀ f:Nat->Nat,nv f = subM pN (nv a) (nv b)->endN (nm f) (nm (eF (eSub (dF a) (dF b)))):=fun f e=>endN_nm (by rw [e,nv_eF,sub_enc];rfl)
 cases hc:Nat.blt (nv a) (nv b)
 ·rw [hc] at hd hsub
  refine evS_q mixed tt_ok GLe_ok 100 [⟨8,1,.lit (.bo false)⟩] ?_
  refine same (p:=subC a b 0 % W <= 1/\subC a b 1 % W <= 1/\subC a b 2 % W <= 1/\subC a b 3 % W <= 1/\subC a b 4 % W <= 1/\subC a b 5 % W <= 1 /\
   Nat.beq (subC a b 6 % W) (1 % W) = false/\endN (nm (subO a b 6)) (nm (eF (eSub (dF a) (dF b))))) ?_ (by kernel_rfl)
  refine ⟨subC_le' _ _ 0,subC_le' _ _ 1,subC_le' _ _ 2,subC_le' _ _ 3,subC_le' _ _ 4,subC_le' _ _ 5,hd.2,key _ ?_⟩
  rw [hd.1,<-hsub,cond_false]
 ·rw [hc] at hd hsub
  obtain ⟨K,hK⟩:∃ K:Nat->Nat,K = addC (subO a b 6) primeF:=⟨_,rfl⟩
  obtain ⟨S,hS⟩:∃ S:Nat->Nat,S = fun i=>subO a b 6 i + primeF i + K i:=⟨_,rfl⟩
  have kl:∀ i,addC (subO a b 6) primeF i % W <= 1:=addC_le' _ _
  have fin:nv (upd (upd (upd (upd (upd (upd (subO a b 6) 0 (S 0)) 1 (S 1)) 2 (S 2)) 3 (S 3)) 4 (S 4)) 5 (S 5)) = subM pN (nv a) (nv b):=by
   rw [nv_congr (g:=addO (subO a b 6) primeF 6) fun j hj=>by
    rw [<-iadd_eq _ _ 6 j hj,hS,hK];rfl]
   rw [(add_sum _ _).1,nv_prime,hd.1,<-hsub,cond_true]
  refine evS_q mixed tt_ok GLe_ok 100 [⟨8,1,.lit (.bo true)⟩,⟨13,10,.lit (.w .u64 (S 0))⟩,⟨13,11,.lit (.w .u64 (K 1))⟩,⟨13,10,.lit (.w .u64 (S 1))⟩,⟨13,11,.lit (.w .u64 (K 2))⟩,⟨13,10,.lit (.w .u64 (S 2))⟩,⟨13,11,.lit (.w .u64 (K 3))⟩,⟨13,10,.lit (.w .u64 (S 3))⟩,⟨13,11,.lit (.w .u64 (K 4))⟩,⟨13,10,.lit (.w .u64 (S 4))⟩,⟨13,11,.lit (.w .u64 (K 5))⟩,⟨13,10,.lit (.w .u64 (S 5))⟩,⟨13,11,.lit (.w .u64 (K 6))⟩] ?_
  refine same (p:=subC a b 0 % W <= 1/\subC a b 1 % W <= 1/\subC a b 2 % W <= 1/\subC a b 3 % W <= 1/\subC a b 4 % W <= 1/\subC a b 5 % W <= 1 /\
   Nat.beq (subC a b 6 % W) (1 % W) = true/\0 % W <= 1/\subO a b 6 0 + primeF 0 + 0 = S 0/\(subO a b 6 0 % W + primeF 0 % W + 0 % W) / W = K 1/\(K 1) % W <= 1/\subO a b 6 1 + primeF 1 + (K 1) = S 1/\(subO a b 6 1 % W + primeF 1 % W + (K 1) % W) / W = K 2/\(K 2) % W <= 1/\subO a b 6 2 + primeF 2 + (K 2) = S 2/\(subO a b 6 2 % W + primeF 2 % W + (K 2) % W) / W = K 3/\(K 3) % W <= 1/\subO a b 6 3 + primeF 3 + (K 3) = S 3/\(subO a b 6 3 % W + primeF 3 % W + (K 3) % W) / W = K 4/\(K 4) % W <= 1/\subO a b 6 4 + primeF 4 + (K 4) = S 4/\(subO a b 6 4 % W + primeF 4 % W + (K 4) % W) / W = K 5/\(K 5) % W <= 1/\subO a b 6 5 + primeF 5 + (K 5) = S 5/\(subO a b 6 5 % W + primeF 5 % W + (K 5) % W) / W = K 6/\endN (nm (upd (upd (upd (upd (upd (upd (subO a b 6) 0 (S 0)) 1 (S 1)) 2 (S 2)) 3 (S 3)) 4 (S 4)) 5 (S 5))) (nm (eF (eSub (dF a) (dF b))))) ?_ (by kernel_rfl)
  have endf:=key _ fin
  subst hS hK
  exact ⟨subC_le' _ _ 0,subC_le' _ _ 1,subC_le' _ _ 2,subC_le' _ _ 3,subC_le' _ _ 4,subC_le' _ _ 5,hd.2,kl 0,rfl,rfl,kl 1,rfl,rfl,kl 2,rfl,rfl,kl 3,rfl,rfl,kl 4,rfl,rfl,kl 5,rfl,rfl,endf⟩
def GNe:Ctx:=ctxL [(101,.pure (el2 eSub))]
theorem GNe_ok:CtxOk Tryz.prog GNe:=ctxL_cons okESub ctxL_nil
theorem okENeg:(CallC.pure (el1 eNeg)).Ok Tryz.prog 183:=by
 refine el1_ok Tryz.func183 (by kernel_rfl) (by kernel_rfl) fun a ha=>evS_q mixed tt_ok GNe_ok 100 [] ?_
 refine same (p:=nv (fun _=>0) < pN/\nv a < pN/\endN (nm (eF (eSub (dF (fun _=>0)) (dF a)))) (nm (eF (eNeg (dF a))))) ?_ (by kernel_rfl)
 refine ⟨by rw [zero_nv];exact pN_pos,ha,endN_nm ?_⟩
 unfold eSub eNeg
 rw [show dF (fun _=>0) = 0 from by unfold dF;rw [zero_nv,dec_zero]]
end Go.Proofs.YtnjocbcjejpklaaGreat
namespace Go.Rq
open Go
theorem sB_lt (f:Nat->Nat):∀ i,sB W f i < W ^ i
 | 0=>by rw [Nat.pow_zero];exact Nat.one_pos
 | i + 1=>by
  have ih:=sB_lt f i
  have h:f i % W < W:=Nat.mod_lt _ (by decide)
  show sB W f i + W ^ i * (f i % W) < W ^ (i + 1)
  rw [Nat.pow_succ]
  have:=Nat.mul_le_mul_left (W ^ i) (show f i % W + 1 <= W from h)
  rw [Nat.mul_add,Nat.mul_one] at this
  omega
theorem round_bound {w T A Q B N x i:Nat} (h:T * w ^ i = A * B + Q * N) (hQ:Q < w ^ i) (hA:A < w ^ i) (hx:x < w) (hB:B < N):T + x * B < (w + 2) * N:=by
 have h1:T < 2 * N:=by
  refine Nat.lt_of_mul_lt_mul_right (a:=w ^ i) ?_
  rw [h]
  have e1:A * B <= w ^ i * N:=Nat.mul_le_mul (Nat.le_of_lt hA) (Nat.le_of_lt hB)
  have e2:Q * N < w ^ i * N:=Nat.mul_lt_mul_of_pos_right hQ (by omega)
  rw [show 2 * N * w ^ i = w ^ i * N + w ^ i * N by rw [Nat.mul_assoc,Nat.two_mul,Nat.mul_comm]]
  omega
 have h2:x * B <= w * N:=Nat.mul_le_mul (Nat.le_of_lt hx) (Nat.le_of_lt hB)
 rw [Nat.add_mul]
 omega
theorem top_gen {l0 l1 l2 l3 l4 l5 s6 s7 z w:Nat} (h:l0 + w * (l1 + w * (l2 + w * (l3 + w * (l4 + w * (l5 + w * (s6 + w * s7)))))) = z) (hz:z < w ^ 7):s7 = 0:=by
 refine Classical.byContradiction fun hc=>?_
 have h1:1 <= s7:=by omega
 have e:w ^ 7 = w * (w * (w * (w * (w * (w * (w * 1)))))):=by simp [Nat.pow_succ,Nat.mul_assoc]
 have k6:w * 1 <= s6 + w * s7:=Nat.le_trans (Nat.mul_le_mul_left w h1) (by omega)
 have k5:w * (w * 1) <= l5 + w * (s6 + w * s7):=Nat.le_trans (Nat.mul_le_mul_left w k6) (by omega)
 have k4:=Nat.mul_le_mul_left w k5
 have k3:=Nat.mul_le_mul_left w (Nat.le_trans k4 (Nat.le_add_left _ l4))
 have k2:=Nat.mul_le_mul_left w (Nat.le_trans k3 (Nat.le_add_left _ l3))
 have k1:=Nat.mul_le_mul_left w (Nat.le_trans k2 (Nat.le_add_left _ l2))
 have k0:=Nat.mul_le_mul_left w (Nat.le_trans k1 (Nat.le_add_left _ l1))
 have:=Nat.le_trans k0 (Nat.le_add_left _ l0)
 rw [h,<-e] at this
 omega
theorem row_top {x:Nat} {b t C L:Nat->Nat} {S7:Nat} (hC:C = crow x b t) (hL:L = fun k=>mLo x (b k) (t k) (C k)) (hS7:S7 = (t 6 % W + C 6 % W + 0 % W) / W)
  (hb:sB W t 7 + x % W * nv b < W ^ 7):S7 = 0:=by
 have cs:∀ k,C (k + 1) = mHi x (b k) (t k) (C k):=fun k=>by rw [hC];rfl
 have ls:∀ k,L k = mLo x (b k) (t k) (C k):=fun k=>by rw [hL]
 have c0:C 0 = 0:=by rw [hC];rfl
 have b0:C 0 < W:=by rw [c0];decide
 have s0:=m_step (x:=x) (y:=b 0) (p:=t 0) b0
 rw [<-cs,<-ls] at s0
 have s1:=m_step (x:=x) (y:=b 1) (p:=t 1) s0.2
 rw [<-cs,<-ls] at s1
 have s2:=m_step (x:=x) (y:=b 2) (p:=t 2) s1.2
 rw [<-cs,<-ls] at s2
 have s3:=m_step (x:=x) (y:=b 3) (p:=t 3) s2.2
 rw [<-cs,<-ls] at s3
 have s4:=m_step (x:=x) (y:=b 4) (p:=t 4) s3.2
 rw [<-cs,<-ls] at s4
 have s5:=m_step (x:=x) (y:=b 5) (p:=t 5) s4.2
 rw [<-cs,<-ls] at s5
 have s6:=top_step (x:=t 6) s5.2
 rw [<-hS7] at s6
 rw [c0] at s0
 rw [sB7_eq t] at hb
 have hw:=mont_words (x:=x % W) s0.1 s1.1 s2.1 s3.1 s4.1 s5.1 s6.1
 refine top_gen hw ?_
 unfold nv at hb
 exact hb
end Go.Rq
