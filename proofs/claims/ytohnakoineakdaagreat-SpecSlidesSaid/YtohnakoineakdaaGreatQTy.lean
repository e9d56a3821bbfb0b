/- The types of this seat's program, for the evaluator. -/
import Derived.Test.YtohnakoineakdaaGreatProg
import Derived.Test.YtohnakoineakdaaGreatQEvQ
import Derived.KernelRfl
namespace Go.Proofs.YtohnakoineakdaaGreat
open Go.Ev
set_option maxRecDepth 100000
def ti2:TI:=⟨1,false,8,[.int .i64 0],(.int .i64),some (.int .i64),false⟩
theorem ti2_ok:TIOK Tryz.prog 2 ti2:=TIOK.of (by kernel_rfl) ⟨_,by kernel_rfl,rfl⟩ (by kernel_rfl) (by intro k h; cases h; exact ⟨rfl,rfl,by decide⟩) (fun h=>by cases h)
def ti3:TI:=⟨1,false,8,[.int .i64 0],(.int .i64),some (.int .i64),false⟩
theorem ti3_ok:TIOK Tryz.prog 3 ti3:=TIOK.of (by kernel_rfl) ⟨_,by kernel_rfl,rfl⟩ (by kernel_rfl) (by intro k h; cases h; exact ⟨rfl,rfl,by decide⟩) (fun h=>by cases h)
def ti4:TI:=⟨1,false,1,[.bool false],.bool,some .bool,false⟩
theorem ti4_ok:TIOK Tryz.prog 4 ti4:=TIOK.of (by kernel_rfl) ⟨_,by kernel_rfl,rfl⟩ (by kernel_rfl) (by intro k h; cases h; exact ⟨rfl,rfl,by decide⟩) (fun h=>by cases h)
def ti5:TI:=⟨1,false,1,[.int .u8 0],(.int .u8),some (.int .u8),false⟩
theorem ti5_ok:TIOK Tryz.prog 5 ti5:=TIOK.of (by kernel_rfl) ⟨_,by kernel_rfl,rfl⟩ (by kernel_rfl) (by intro k h; cases h; exact ⟨rfl,rfl,by decide⟩) (fun h=>by cases h)
def ti6:TI:=⟨1,false,1,[.int .u8 0],(.int .u8),some (.int .u8),false⟩
theorem ti6_ok:TIOK Tryz.prog 6 ti6:=TIOK.of (by kernel_rfl) ⟨_,by kernel_rfl,rfl⟩ (by kernel_rfl) (by intro k h; cases h; exact ⟨rfl,rfl,by decide⟩) (fun h=>by cases h)
def ti7:TI:=⟨4,true,24,[.int .i64 0,.int .i64 0,.bool false,.int .u8 0],(.struct [(0,1,false),(1,1,false),(2,1,false),(3,1,false)]),some (.pair (.int .i64) (.pair (.int .i64) (.pair .bool (.int .u8)))),false⟩
theorem ti7_ok:TIOK Tryz.prog 7 ti7:=TIOK.of (by kernel_rfl) (TK.struct_of (by kernel_rfl)) (by kernel_rfl) (by intro k h; cases h; exact ⟨rfl,rfl,by decide⟩) (fun h=>by cases h)
def ti8:TI:=⟨4,true,24,[.int .i64 0,.int .i64 0,.bool false,.int .u8 0],(.struct [(0,1,false),(1,1,false),(2,1,false),(3,1,false)]),some (.pair (.int .i64) (.pair (.int .i64) (.pair .bool (.int .u8)))),false⟩
theorem ti8_ok:TIOK Tryz.prog 8 ti8:=TIOK.of (by kernel_rfl) (TK.struct_of (by kernel_rfl)) (by kernel_rfl) (by intro k h; cases h; exact ⟨rfl,rfl,by decide⟩) (fun h=>by cases h)
def ti9:TI:=⟨1,false,16,[.string ByteArray.empty],.str,some .str,false⟩
theorem ti9_ok:TIOK Tryz.prog 9 ti9:=TIOK.of (by kernel_rfl) ⟨_,by kernel_rfl,rfl⟩ (by kernel_rfl) (by intro k h; cases h; exact ⟨rfl,rfl,by decide⟩) (fun h=>by cases h)
def ti10:TI:=⟨1,false,16,[.string ByteArray.empty],.str,some .str,false⟩
theorem ti10_ok:TIOK Tryz.prog 10 ti10:=TIOK.of (by kernel_rfl) ⟨_,by kernel_rfl,rfl⟩ (by kernel_rfl) (by intro k h; cases h; exact ⟨rfl,rfl,by decide⟩) (fun h=>by cases h)
def ti11:TI:=⟨1,false,16,[.string ByteArray.empty],.str,some .str,false⟩
theorem ti11_ok:TIOK Tryz.prog 11 ti11:=TIOK.of (by kernel_rfl) ⟨_,by kernel_rfl,rfl⟩ (by kernel_rfl) (by intro k h; cases h; exact ⟨rfl,rfl,by decide⟩) (fun h=>by cases h)
def ti12:TI:=⟨1,false,8,[.int .u64 0],(.int .u64),some (.int .u64),false⟩
theorem ti12_ok:TIOK Tryz.prog 12 ti12:=TIOK.of (by kernel_rfl) ⟨_,by kernel_rfl,rfl⟩ (by kernel_rfl) (by intro k h; cases h; exact ⟨rfl,rfl,by decide⟩) (fun h=>by cases h)
def ti13:TI:=⟨2,true,24,[.string ByteArray.empty,.int .u64 0],(.struct [(0,1,false),(1,1,false)]),some (.pair .str (.int .u64)),false⟩
theorem ti13_ok:TIOK Tryz.prog 13 ti13:=TIOK.of (by kernel_rfl) (TK.struct_of (by kernel_rfl)) (by kernel_rfl) (by intro k h; cases h; exact ⟨rfl,rfl,by decide⟩) (fun h=>by cases h)
def ti14:TI:=⟨2,true,24,[.string ByteArray.empty,.int .u64 0],(.struct [(0,1,false),(1,1,false)]),some (.pair .str (.int .u64)),false⟩
theorem ti14_ok:TIOK Tryz.prog 14 ti14:=TIOK.of (by kernel_rfl) (TK.struct_of (by kernel_rfl)) (by kernel_rfl) (by intro k h; cases h; exact ⟨rfl,rfl,by decide⟩) (fun h=>by cases h)
def ti15:TI:=⟨1,false,8,[.pointer none],(.ptr 180),none,false⟩
theorem ti15_ok:TIOK Tryz.prog 15 ti15:=TIOK.of (by kernel_rfl) ⟨_,by kernel_rfl,rfl⟩ (by kernel_rfl) (by intro k h; cases h) (fun h=>by cases h)
def ti16:TI:=⟨1,false,8,[.pointer none],(.ptr 183),none,false⟩
theorem ti16_ok:TIOK Tryz.prog 16 ti16:=TIOK.of (by kernel_rfl) ⟨_,by kernel_rfl,rfl⟩ (by kernel_rfl) (by intro k h; cases h) (fun h=>by cases h)
def ti17:TI:=⟨1,false,8,[.pointer none],(.ptr 192),none,false⟩
theorem ti17_ok:TIOK Tryz.prog 17 ti17:=TIOK.of (by kernel_rfl) ⟨_,by kernel_rfl,rfl⟩ (by kernel_rfl) (by intro k h; cases h) (fun h=>by cases h)
def ti18:TI:=⟨1,true,8,[.pointer none],(.struct [(0,1,false)]),none,false⟩
theorem ti18_ok:TIOK Tryz.prog 18 ti18:=TIOK.of (by kernel_rfl) (TK.struct_of (by kernel_rfl)) (by kernel_rfl) (by intro k h; cases h) (fun h=>by cases h)
def ti19:TI:=⟨1,true,8,[.pointer none],(.struct [(0,1,false)]),none,false⟩
theorem ti19_ok:TIOK Tryz.prog 19 ti19:=TIOK.of (by kernel_rfl) (TK.struct_of (by kernel_rfl)) (by kernel_rfl) (by intro k h; cases h) (fun h=>by cases h)
def ti21:TI:=⟨1,false,4,[.int .i32 0],(.int .i32),some (.int .i32),false⟩
theorem ti21_ok:TIOK Tryz.prog 21 ti21:=TIOK.of (by kernel_rfl) ⟨_,by kernel_rfl,rfl⟩ (by kernel_rfl) (by intro k h; cases h; exact ⟨rfl,rfl,by decide⟩) (fun h=>by cases h)
def ti22:TI:=⟨1,false,24,[.slice none 0 0],(.slice 58),some (.seq 58 (.pair (.int .i64) (.pair (.int .i64) (.pair (.int .i64) (.pair (.int .i64) (.pair (.seq 3 (.int .i64)) (.int .i64))))))),false⟩
theorem ti22_ok:TIOK Tryz.prog 22 ti22:=TIOK.of (by kernel_rfl) ⟨_,by kernel_rfl,rfl⟩ (by kernel_rfl) (by intro k h; cases h; exact ⟨rfl,rfl,by decide⟩) (fun h=>by cases h)
def ti23:TI:=⟨5,true,56,[.slice none 0 0,.int .i64 0,.int .i64 0,.int .i64 0,.int .i64 0],(.struct [(0,1,false),(1,1,false),(2,1,false),(3,1,false),(4,1,false)]),some (.pair (.seq 58 (.pair (.int .i64) (.pair (.int .i64) (.pair (.int .i64) (.pair (.int .i64) (.pair (.seq 3 (.int .i64)) (.int .i64))))))) (.pair (.int .i64) (.pair (.int .i64) (.pair (.int .i64) (.int .i64))))),false⟩
theorem ti23_ok:TIOK Tryz.prog 23 ti23:=TIOK.of (by kernel_rfl) (TK.struct_of (by kernel_rfl)) (by kernel_rfl) (by intro k h; cases h; exact ⟨rfl,rfl,by decide⟩) (fun h=>by cases h)
def ti24:TI:=⟨5,true,56,[.slice none 0 0,.int .i64 0,.int .i64 0,.int .i64 0,.int .i64 0],(.struct [(0,1,false),(1,1,false),(2,1,false),(3,1,false),(4,1,false)]),some (.pair (.seq 58 (.pair (.int .i64) (.pair (.int .i64) (.pair (.int .i64) (.pair (.int .i64) (.pair (.seq 3 (.int .i64)) (.int .i64))))))) (.pair (.int .i64) (.pair (.int .i64) (.pair (.int .i64) (.int .i64))))),false⟩
theorem ti24_ok:TIOK Tryz.prog 24 ti24:=TIOK.of (by kernel_rfl) (TK.struct_of (by kernel_rfl)) (by kernel_rfl) (by intro k h; cases h; exact ⟨rfl,rfl,by decide⟩) (fun h=>by cases h)
def ti25:TI:=⟨1,false,24,[.slice none 0 0],(.slice 60),some (.seq 60 (.pair (.int .i64) (.pair (.int .i64) (.pair (.int .i64) (.int .i64))))),false⟩
theorem ti25_ok:TIOK Tryz.prog 25 ti25:=TIOK.of (by kernel_rfl) ⟨_,by kernel_rfl,rfl⟩ (by kernel_rfl) (by intro k h; cases h; exact ⟨rfl,rfl,by decide⟩) (fun h=>by cases h)
def ti28:TI:=⟨1,false,24,[.slice none 0 0],(.slice 53),some (.seq 53 (.pair (.int .i64) (.pair (.int .i64) (.pair (.pair (.int .i64) (.int .i64)) (.pair (.int .i64) (.pair .bool (.seq 3 (.int .i64)))))))),false⟩
theorem ti28_ok:TIOK Tryz.prog 28 ti28:=TIOK.of (by kernel_rfl) ⟨_,by kernel_rfl,rfl⟩ (by kernel_rfl) (by intro k h; cases h; exact ⟨rfl,rfl,by decide⟩) (fun h=>by cases h)
def ti29:TI:=⟨1,false,8,[.int .i64 0],(.int .i64),some (.int .i64),false⟩
theorem ti29_ok:TIOK Tryz.prog 29 ti29:=TIOK.of (by kernel_rfl) ⟨_,by kernel_rfl,rfl⟩ (by kernel_rfl) (by intro k h; cases h; exact ⟨rfl,rfl,by decide⟩) (fun h=>by cases h)
def ti46:TI:=⟨1,false,8,[.int .u64 0],(.int .u64),some (.int .u64),false⟩
theorem ti46_ok:TIOK Tryz.prog 46 ti46:=TIOK.of (by kernel_rfl) ⟨_,by kernel_rfl,rfl⟩ (by kernel_rfl) (by intro k h; cases h; exact ⟨rfl,rfl,by decide⟩) (fun h=>by cases h)
def ti47:TI:=⟨2,true,16,[.int .i64 0,.int .i64 0],(.struct [(0,1,false),(1,1,false)]),some (.pair (.int .i64) (.int .i64)),true⟩
theorem ti47_ok:TIOK Tryz.prog 47 ti47:=TIOK.of (by kernel_rfl) (TK.struct_of (by kernel_rfl)) (by kernel_rfl) (by intro k h; cases h; exact ⟨rfl,rfl,by decide⟩) (fun _=>Flat.of (by kernel_rfl) (by kernel_rfl) (by kernel_rfl))
def ti48:TI:=⟨2,true,16,[.int .i64 0,.int .i64 0],(.struct [(0,1,false),(1,1,false)]),some (.pair (.int .i64) (.int .i64)),true⟩
theorem ti48_ok:TIOK Tryz.prog 48 ti48:=TIOK.of (by kernel_rfl) (TK.struct_of (by kernel_rfl)) (by kernel_rfl) (by intro k h; cases h; exact ⟨rfl,rfl,by decide⟩) (fun _=>Flat.of (by kernel_rfl) (by kernel_rfl) (by kernel_rfl))
def ti49:TI:=⟨1,false,24,[.slice none 0 0],(.slice 3),some (.seq 3 (.int .i64)),false⟩
theorem ti49_ok:TIOK Tryz.prog 49 ti49:=TIOK.of (by kernel_rfl) ⟨_,by kernel_rfl,rfl⟩ (by kernel_rfl) (by intro k h; cases h; exact ⟨rfl,rfl,by decide⟩) (fun h=>by cases h)
def ti50:TI:=⟨3,true,40,[.int .i64 0,.bool false,.slice none 0 0],(.struct [(0,1,false),(1,1,false),(2,1,false)]),some (.pair (.int .i64) (.pair .bool (.seq 3 (.int .i64)))),false⟩
theorem ti50_ok:TIOK Tryz.prog 50 ti50:=TIOK.of (by kernel_rfl) (TK.struct_of (by kernel_rfl)) (by kernel_rfl) (by intro k h; cases h; exact ⟨rfl,rfl,by decide⟩) (fun h=>by cases h)
def ti51:TI:=⟨3,true,40,[.int .i64 0,.bool false,.slice none 0 0],(.struct [(0,1,false),(1,1,false),(2,1,false)]),some (.pair (.int .i64) (.pair .bool (.seq 3 (.int .i64)))),false⟩
theorem ti51_ok:TIOK Tryz.prog 51 ti51:=TIOK.of (by kernel_rfl) (TK.struct_of (by kernel_rfl)) (by kernel_rfl) (by intro k h; cases h; exact ⟨rfl,rfl,by decide⟩) (fun h=>by cases h)
def ti52:TI:=⟨7,true,72,[.int .i64 0,.int .i64 0,.int .i64 0,.int .i64 0,.int .i64 0,.bool false,.slice none 0 0],(.struct [(0,1,false),(1,1,false),(2,2,true),(4,3,true)]),some (.pair (.int .i64) (.pair (.int .i64) (.pair (.pair (.int .i64) (.int .i64)) (.pair (.int .i64) (.pair .bool (.seq 3 (.int .i64))))))),false⟩
theorem ti52_ok:TIOK Tryz.prog 52 ti52:=TIOK.of (by kernel_rfl) (TK.struct_of (by kernel_rfl)) (by kernel_rfl) (by intro k h; cases h; exact ⟨rfl,rfl,by decide⟩) (fun h=>by cases h)
def ti53:TI:=⟨7,true,72,[.int .i64 0,.int .i64 0,.int .i64 0,.int .i64 0,.int .i64 0,.bool false,.slice none 0 0],(.struct [(0,1,false),(1,1,false),(2,2,true),(4,3,true)]),some (.pair (.int .i64) (.pair (.int .i64) (.pair (.pair (.int .i64) (.int .i64)) (.pair (.int .i64) (.pair .bool (.seq 3 (.int .i64))))))),false⟩
theorem ti53_ok:TIOK Tryz.prog 53 ti53:=TIOK.of (by kernel_rfl) (TK.struct_of (by kernel_rfl)) (by kernel_rfl) (by intro k h; cases h; exact ⟨rfl,rfl,by decide⟩) (fun h=>by cases h)
def ti57:TI:=⟨6,true,64,[.int .i64 0,.int .i64 0,.int .i64 0,.int .i64 0,.slice none 0 0,.int .i64 0],(.struct [(0,1,false),(1,1,false),(2,1,false),(3,1,false),(4,1,false),(5,1,false)]),some (.pair (.int .i64) (.pair (.int .i64) (.pair (.int .i64) (.pair (.int .i64) (.pair (.seq 3 (.int .i64)) (.int .i64)))))),false⟩
theorem ti57_ok:TIOK Tryz.prog 57 ti57:=TIOK.of (by kernel_rfl) (TK.struct_of (by kernel_rfl)) (by kernel_rfl) (by intro k h; cases h; exact ⟨rfl,rfl,by decide⟩) (fun h=>by cases h)
def ti58:TI:=⟨6,true,64,[.int .i64 0,.int .i64 0,.int .i64 0,.int .i64 0,.slice none 0 0,.int .i64 0],(.struct [(0,1,false),(1,1,false),(2,1,false),(3,1,false),(4,1,false),(5,1,false)]),some (.pair (.int .i64) (.pair (.int .i64) (.pair (.int .i64) (.pair (.int .i64) (.pair (.seq 3 (.int .i64)) (.int .i64)))))),false⟩
theorem ti58_ok:TIOK Tryz.prog 58 ti58:=TIOK.of (by kernel_rfl) (TK.struct_of (by kernel_rfl)) (by kernel_rfl) (by intro k h; cases h; exact ⟨rfl,rfl,by decide⟩) (fun h=>by cases h)
def ti59:TI:=⟨4,true,32,[.int .i64 0,.int .i64 0,.int .i64 0,.int .i64 0],(.struct [(0,1,false),(1,1,false),(2,1,false),(3,1,false)]),some (.pair (.int .i64) (.pair (.int .i64) (.pair (.int .i64) (.int .i64)))),true⟩
theorem ti59_ok:TIOK Tryz.prog 59 ti59:=TIOK.of (by kernel_rfl) (TK.struct_of (by kernel_rfl)) (by kernel_rfl) (by intro k h; cases h; exact ⟨rfl,rfl,by decide⟩) (fun _=>Flat.of (by kernel_rfl) (by kernel_rfl) (by kernel_rfl))
def ti60:TI:=⟨4,true,32,[.int .i64 0,.int .i64 0,.int .i64 0,.int .i64 0],(.struct [(0,1,false),(1,1,false),(2,1,false),(3,1,false)]),some (.pair (.int .i64) (.pair (.int .i64) (.pair (.int .i64) (.int .i64)))),true⟩
theorem ti60_ok:TIOK Tryz.prog 60 ti60:=TIOK.of (by kernel_rfl) (TK.struct_of (by kernel_rfl)) (by kernel_rfl) (by intro k h; cases h; exact ⟨rfl,rfl,by decide⟩) (fun _=>Flat.of (by kernel_rfl) (by kernel_rfl) (by kernel_rfl))
def ti66:TI:=⟨1,false,8,[.pointer none],(.ptr 24),none,false⟩
theorem ti66_ok:TIOK Tryz.prog 66 ti66:=TIOK.of (by kernel_rfl) ⟨_,by kernel_rfl,rfl⟩ (by kernel_rfl) (by intro k h; cases h) (fun h=>by cases h)
def ti67:TI:=⟨1,false,24,[.slice none 0 0],(.slice 25),some (.seq 25 (.seq 60 (.pair (.int .i64) (.pair (.int .i64) (.pair (.int .i64) (.int .i64)))))),false⟩
theorem ti67_ok:TIOK Tryz.prog 67 ti67:=TIOK.of (by kernel_rfl) ⟨_,by kernel_rfl,rfl⟩ (by kernel_rfl) (by intro k h; cases h; exact ⟨rfl,rfl,by decide⟩) (fun h=>by cases h)
def ti69:TI:=⟨1,false,8,[.pointer none],(.ptr 58),none,false⟩
theorem ti69_ok:TIOK Tryz.prog 69 ti69:=TIOK.of (by kernel_rfl) ⟨_,by kernel_rfl,rfl⟩ (by kernel_rfl) (by intro k h; cases h) (fun h=>by cases h)
def ti70:TI:=⟨1,false,24,[.slice none 0 0],(.slice 73),some (.seq 73 (.pair (.pair (.int .i64) (.int .i64)) (.seq 60 (.pair (.int .i64) (.pair (.int .i64) (.pair (.int .i64) (.int .i64))))))),false⟩
theorem ti70_ok:TIOK Tryz.prog 70 ti70:=TIOK.of (by kernel_rfl) ⟨_,by kernel_rfl,rfl⟩ (by kernel_rfl) (by intro k h; cases h; exact ⟨rfl,rfl,by decide⟩) (fun h=>by cases h)
def ti72:TI:=⟨3,true,40,[.int .i64 0,.int .i64 0,.slice none 0 0],(.struct [(0,2,true),(2,1,false)]),some (.pair (.pair (.int .i64) (.int .i64)) (.seq 60 (.pair (.int .i64) (.pair (.int .i64) (.pair (.int .i64) (.int .i64)))))),false⟩
theorem ti72_ok:TIOK Tryz.prog 72 ti72:=TIOK.of (by kernel_rfl) (TK.struct_of (by kernel_rfl)) (by kernel_rfl) (by intro k h; cases h; exact ⟨rfl,rfl,by decide⟩) (fun h=>by cases h)
def ti73:TI:=⟨3,true,40,[.int .i64 0,.int .i64 0,.slice none 0 0],(.struct [(0,2,true),(2,1,false)]),some (.pair (.pair (.int .i64) (.int .i64)) (.seq 60 (.pair (.int .i64) (.pair (.int .i64) (.pair (.int .i64) (.int .i64)))))),false⟩
theorem ti73_ok:TIOK Tryz.prog 73 ti73:=TIOK.of (by kernel_rfl) (TK.struct_of (by kernel_rfl)) (by kernel_rfl) (by intro k h; cases h; exact ⟨rfl,rfl,by decide⟩) (fun h=>by cases h)
def ti79:TI:=⟨1,false,24,[.slice none 0 0],(.slice 83),some (.seq 83 (.pair (.int .i64) (.pair (.pair (.int .i64) (.int .i64)) (.seq 60 (.pair (.int .i64) (.pair (.int .i64) (.pair (.int .i64) (.int .i64)))))))),false⟩
theorem ti79_ok:TIOK Tryz.prog 79 ti79:=TIOK.of (by kernel_rfl) ⟨_,by kernel_rfl,rfl⟩ (by kernel_rfl) (by intro k h; cases h; exact ⟨rfl,rfl,by decide⟩) (fun h=>by cases h)
def ti82:TI:=⟨4,true,48,[.int .i64 0,.int .i64 0,.int .i64 0,.slice none 0 0],(.struct [(0,1,false),(1,2,true),(3,1,false)]),some (.pair (.int .i64) (.pair (.pair (.int .i64) (.int .i64)) (.seq 60 (.pair (.int .i64) (.pair (.int .i64) (.pair (.int .i64) (.int .i64))))))),false⟩
theorem ti82_ok:TIOK Tryz.prog 82 ti82:=TIOK.of (by kernel_rfl) (TK.struct_of (by kernel_rfl)) (by kernel_rfl) (by intro k h; cases h; exact ⟨rfl,rfl,by decide⟩) (fun h=>by cases h)
def ti83:TI:=⟨4,true,48,[.int .i64 0,.int .i64 0,.int .i64 0,.slice none 0 0],(.struct [(0,1,false),(1,2,true),(3,1,false)]),some (.pair (.int .i64) (.pair (.pair (.int .i64) (.int .i64)) (.seq 60 (.pair (.int .i64) (.pair (.int .i64) (.pair (.int .i64) (.int .i64))))))),false⟩
theorem ti83_ok:TIOK Tryz.prog 83 ti83:=TIOK.of (by kernel_rfl) (TK.struct_of (by kernel_rfl)) (by kernel_rfl) (by intro k h; cases h; exact ⟨rfl,rfl,by decide⟩) (fun h=>by cases h)
def ti87:TI:=⟨13,true,120,[.int .i64 0,.int .i64 0,.int .i64 0,.int .i64 0,.int .i64 0,.int .i64 0,.int .i64 0,.int .i64 0,.int .i64 0,.int .i64 0,.int .i64 0,.int .i64 0,.slice none 0 0],(.struct [(0,1,false),(1,1,false),(2,1,false),(3,1,false),(4,4,true),(8,4,true),(12,1,false)]),some (.pair (.int .i64) (.pair (.int .i64) (.pair (.int .i64) (.pair (.int .i64) (.pair (.pair (.int .i64) (.pair (.int .i64) (.pair (.int .i64) (.int .i64)))) (.pair (.pair (.int .i64) (.pair (.int .i64) (.pair (.int .i64) (.int .i64)))) (.seq 3 (.int .i64)))))))),false⟩
theorem ti87_ok:TIOK Tryz.prog 87 ti87:=TIOK.of (by kernel_rfl) (TK.struct_of (by kernel_rfl)) (by kernel_rfl) (by intro k h; cases h; exact ⟨rfl,rfl,by decide⟩) (fun h=>by cases h)
def ti88:TI:=⟨13,true,120,[.int .i64 0,.int .i64 0,.int .i64 0,.int .i64 0,.int .i64 0,.int .i64 0,.int .i64 0,.int .i64 0,.int .i64 0,.int .i64 0,.int .i64 0,.int .i64 0,.slice none 0 0],(.struct [(0,1,false),(1,1,false),(2,1,false),(3,1,false),(4,4,true),(8,4,true),(12,1,false)]),some (.pair (.int .i64) (.pair (.int .i64) (.pair (.int .i64) (.pair (.int .i64) (.pair (.pair (.int .i64) (.pair (.int .i64) (.pair (.int .i64) (.int .i64)))) (.pair (.pair (.int .i64) (.pair (.int .i64) (.pair (.int .i64) (.int .i64)))) (.seq 3 (.int .i64)))))))),false⟩
theorem ti88_ok:TIOK Tryz.prog 88 ti88:=TIOK.of (by kernel_rfl) (TK.struct_of (by kernel_rfl)) (by kernel_rfl) (by intro k h; cases h; exact ⟨rfl,rfl,by decide⟩) (fun h=>by cases h)
def ti90:TI:=⟨1,false,8,[.map none],(.map 3 4),some .mset,false⟩
theorem ti90_ok:TIOK Tryz.prog 90 ti90:=TIOK.of (by kernel_rfl) ⟨_,by kernel_rfl,rfl⟩ (by kernel_rfl) (by intro k h; cases h; exact ⟨rfl,rfl,by decide⟩) (fun h=>by cases h)
def ti102:TI:=⟨1,false,24,[.slice none 0 0],(.slice 48),some (.seq 48 (.pair (.int .i64) (.int .i64))),false⟩
theorem ti102_ok:TIOK Tryz.prog 102 ti102:=TIOK.of (by kernel_rfl) ⟨_,by kernel_rfl,rfl⟩ (by kernel_rfl) (by intro k h; cases h; exact ⟨rfl,rfl,by decide⟩) (fun h=>by cases h)
def ti105:TI:=⟨1,false,24,[.slice none 0 0],(.slice 88),some (.seq 88 (.pair (.int .i64) (.pair (.int .i64) (.pair (.int .i64) (.pair (.int .i64) (.pair (.pair (.int .i64) (.pair (.int .i64) (.pair (.int .i64) (.int .i64)))) (.pair (.pair (.int .i64) (.pair (.int .i64) (.pair (.int .i64) (.int .i64)))) (.seq 3 (.int .i64))))))))),false⟩
theorem ti105_ok:TIOK Tryz.prog 105 ti105:=TIOK.of (by kernel_rfl) ⟨_,by kernel_rfl,rfl⟩ (by kernel_rfl) (by intro k h; cases h; exact ⟨rfl,rfl,by decide⟩) (fun h=>by cases h)
def ti127:TI:=⟨1,false,8,[.pointer none],(.ptr 73),none,false⟩
theorem ti127_ok:TIOK Tryz.prog 127 ti127:=TIOK.of (by kernel_rfl) ⟨_,by kernel_rfl,rfl⟩ (by kernel_rfl) (by intro k h; cases h) (fun h=>by cases h)
def ti133:TI:=⟨1,false,8,[.pointer none],(.ptr 88),none,false⟩
theorem ti133_ok:TIOK Tryz.prog 133 ti133:=TIOK.of (by kernel_rfl) ⟨_,by kernel_rfl,rfl⟩ (by kernel_rfl) (by intro k h; cases h) (fun h=>by cases h)
def ti134:TI:=⟨1,false,24,[.slice none 0 0],(.slice 136),some (.seq 136 .fn),false⟩
theorem ti134_ok:TIOK Tryz.prog 134 ti134:=TIOK.of (by kernel_rfl) ⟨_,by kernel_rfl,rfl⟩ (by kernel_rfl) (by intro k h; cases h; exact ⟨rfl,rfl,by decide⟩) (fun h=>by cases h)
def ti136:TI:=⟨1,false,8,[.nilFunc],.other,some .fn,false⟩
theorem ti136_ok:TIOK Tryz.prog 136 ti136:=TIOK.of (by kernel_rfl) ((Option.isSome_iff_exists.1 (by kernel_rfl:(Tryz.prog.underlying 136).isSome=true)).imp fun _ h=>⟨h,trivial⟩) (by kernel_rfl) (by intro k h; cases h; exact ⟨rfl,rfl,by decide⟩) (fun h=>by cases h)
def ti144:TI:=⟨1,false,8,[.int .i64 0],(.int .i64),some (.int .i64),false⟩
theorem ti144_ok:TIOK Tryz.prog 144 ti144:=TIOK.of (by kernel_rfl) ⟨_,by kernel_rfl,rfl⟩ (by kernel_rfl) (by intro k h; cases h; exact ⟨rfl,rfl,by decide⟩) (fun h=>by cases h)
def ti152:TI:=⟨1,false,4,[.int .u32 0],(.int .u32),some (.int .u32),false⟩
theorem ti152_ok:TIOK Tryz.prog 152 ti152:=TIOK.of (by kernel_rfl) ⟨_,by kernel_rfl,rfl⟩ (by kernel_rfl) (by intro k h; cases h; exact ⟨rfl,rfl,by decide⟩) (fun h=>by cases h)
def ti154:TI:=⟨1,false,8,[.int .u64 0],(.int .u64),some (.int .u64),false⟩
theorem ti154_ok:TIOK Tryz.prog 154 ti154:=TIOK.of (by kernel_rfl) ⟨_,by kernel_rfl,rfl⟩ (by kernel_rfl) (by intro k h; cases h; exact ⟨rfl,rfl,by decide⟩) (fun h=>by cases h)
def ti164:TI:=⟨1,false,8,[.int .u64 0],(.int .u64),some (.int .u64),false⟩
theorem ti164_ok:TIOK Tryz.prog 164 ti164:=TIOK.of (by kernel_rfl) ⟨_,by kernel_rfl,rfl⟩ (by kernel_rfl) (by intro k h; cases h; exact ⟨rfl,rfl,by decide⟩) (fun h=>by cases h)
def ti168:TI:=⟨1,false,8,[.pointer none],(.ptr 3),none,false⟩
theorem ti168_ok:TIOK Tryz.prog 168 ti168:=TIOK.of (by kernel_rfl) ⟨_,by kernel_rfl,rfl⟩ (by kernel_rfl) (by intro k h; cases h) (fun h=>by cases h)
def ti175:TI:=⟨1,false,8,[.pointer none],(.ptr 164),none,false⟩
theorem ti175_ok:TIOK Tryz.prog 175 ti175:=TIOK.of (by kernel_rfl) ⟨_,by kernel_rfl,rfl⟩ (by kernel_rfl) (by intro k h; cases h) (fun h=>by cases h)
def ti179:TI:=⟨4,true,40,[.pointer none,.pointer none,.pointer none,.string ByteArray.empty],(.struct [(0,1,false),(1,1,false),(2,1,false),(3,1,false)]),none,false⟩
theorem ti179_ok:TIOK Tryz.prog 179 ti179:=TIOK.of (by kernel_rfl) (TK.struct_of (by kernel_rfl)) (by kernel_rfl) (by intro k h; cases h) (fun h=>by cases h)
def ti180:TI:=⟨4,true,40,[.pointer none,.pointer none,.pointer none,.string ByteArray.empty],(.struct [(0,1,false),(1,1,false),(2,1,false),(3,1,false)]),none,false⟩
theorem ti180_ok:TIOK Tryz.prog 180 ti180:=TIOK.of (by kernel_rfl) (TK.struct_of (by kernel_rfl)) (by kernel_rfl) (by intro k h; cases h) (fun h=>by cases h)
def ti185:TI:=⟨1,false,1,[.int .u8 0],(.int .u8),some (.int .u8),false⟩
theorem ti185_ok:TIOK Tryz.prog 185 ti185:=TIOK.of (by kernel_rfl) ⟨_,by kernel_rfl,rfl⟩ (by kernel_rfl) (by intro k h; cases h; exact ⟨rfl,rfl,by decide⟩) (fun h=>by cases h)
def ti186:TI:=⟨1,false,1,[.int .u8 0],(.int .u8),some (.int .u8),false⟩
theorem ti186_ok:TIOK Tryz.prog 186 ti186:=TIOK.of (by kernel_rfl) ⟨_,by kernel_rfl,rfl⟩ (by kernel_rfl) (by intro k h; cases h; exact ⟨rfl,rfl,by decide⟩) (fun h=>by cases h)
def ti188:TI:=⟨1,false,8,[.pointer none],(.ptr 5),none,false⟩
theorem ti188_ok:TIOK Tryz.prog 188 ti188:=TIOK.of (by kernel_rfl) ⟨_,by kernel_rfl,rfl⟩ (by kernel_rfl) (by intro k h; cases h) (fun h=>by cases h)
def ti189:TI:=⟨1,false,4,[.int .i32 0],(.int .i32),some (.int .i32),false⟩
theorem ti189_ok:TIOK Tryz.prog 189 ti189:=TIOK.of (by kernel_rfl) ⟨_,by kernel_rfl,rfl⟩ (by kernel_rfl) (by intro k h; cases h; exact ⟨rfl,rfl,by decide⟩) (fun h=>by cases h)
def ti190:TI:=⟨1,false,4,[.int .i32 0],(.int .i32),some (.int .i32),false⟩
theorem ti190_ok:TIOK Tryz.prog 190 ti190:=TIOK.of (by kernel_rfl) ⟨_,by kernel_rfl,rfl⟩ (by kernel_rfl) (by intro k h; cases h; exact ⟨rfl,rfl,by decide⟩) (fun h=>by cases h)
def ti191:TI:=⟨11,true,48,[.int .u64 0,.int .u64 0,.int .u32 0,.int .u8 0,.int .u8 0,.int .u8 0,.int .u8 0,.nilFunc,.pointer none,.int .i32 0,.int .i32 0],(.struct [(0,1,false),(1,1,false),(2,1,false),(3,1,false),(4,1,false),(5,1,false),(6,1,false),(7,1,false),(8,1,false),(9,1,false),(10,1,false)]),none,false⟩
theorem ti191_ok:TIOK Tryz.prog 191 ti191:=TIOK.of (by kernel_rfl) (TK.struct_of (by kernel_rfl)) (by kernel_rfl) (by intro k h; cases h) (fun h=>by cases h)
def ti192:TI:=⟨11,true,48,[.int .u64 0,.int .u64 0,.int .u32 0,.int .u8 0,.int .u8 0,.int .u8 0,.int .u8 0,.nilFunc,.pointer none,.int .i32 0,.int .i32 0],(.struct [(0,1,false),(1,1,false),(2,1,false),(3,1,false),(4,1,false),(5,1,false),(6,1,false),(7,1,false),(8,1,false),(9,1,false),(10,1,false)]),none,false⟩
theorem ti192_ok:TIOK Tryz.prog 192 ti192:=TIOK.of (by kernel_rfl) (TK.struct_of (by kernel_rfl)) (by kernel_rfl) (by intro k h; cases h) (fun h=>by cases h)
def TT:List (TypeId×TI):=[(2,ti2),(3,ti3),(4,ti4),(5,ti5),(6,ti6),(7,ti7),(8,ti8),(9,ti9),(10,ti10),(11,ti11),(12,ti12),(13,ti13),(14,ti14),(15,ti15),(16,ti16),(17,ti17),(18,ti18),(19,ti19),(21,ti21),(22,ti22),(23,ti23),(24,ti24),(25,ti25),(28,ti28),(29,ti29),(46,ti46),(47,ti47),(48,ti48),(49,ti49),(50,ti50),(51,ti51),(52,ti52),(53,ti53),(57,ti57),(58,ti58),(59,ti59),(60,ti60),(66,ti66),(67,ti67),(69,ti69),(70,ti70),(72,ti72),(73,ti73),(79,ti79),(82,ti82),(83,ti83),(87,ti87),(88,ti88),(90,ti90),(102,ti102),(105,ti105),(127,ti127),(133,ti133),(134,ti134),(136,ti136),(144,ti144),(152,ti152),(154,ti154),(164,ti164),(168,ti168),(175,ti175),(179,ti179),(180,ti180),(185,ti185),(186,ti186),(188,ti188),(189,ti189),(190,ti190),(191,ti191),(192,ti192)]
theorem TT_ok:TOK Tryz.prog TT:=TOK.cons ti2_ok (TOK.cons ti3_ok (TOK.cons ti4_ok (TOK.cons ti5_ok (TOK.cons ti6_ok (TOK.cons ti7_ok (TOK.cons ti8_ok (TOK.cons ti9_ok (TOK.cons ti10_ok (TOK.cons ti11_ok (TOK.cons ti12_ok (TOK.cons ti13_ok (TOK.cons ti14_ok (TOK.cons ti15_ok (TOK.cons ti16_ok (TOK.cons ti17_ok (TOK.cons ti18_ok (TOK.cons ti19_ok (TOK.cons ti21_ok (TOK.cons ti22_ok (TOK.cons ti23_ok (TOK.cons ti24_ok (TOK.cons ti25_ok (TOK.cons ti28_ok (TOK.cons ti29_ok (TOK.cons ti46_ok (TOK.cons ti47_ok (TOK.cons ti48_ok (TOK.cons ti49_ok (TOK.cons ti50_ok (TOK.cons ti51_ok (TOK.cons ti52_ok (TOK.cons ti53_ok (TOK.cons ti57_ok (TOK.cons ti58_ok (TOK.cons ti59_ok (TOK.cons ti60_ok (TOK.cons ti66_ok (TOK.cons ti67_ok (TOK.cons ti69_ok (TOK.cons ti70_ok (TOK.cons ti72_ok (TOK.cons ti73_ok (TOK.cons ti79_ok (TOK.cons ti82_ok (TOK.cons ti83_ok (TOK.cons ti87_ok (TOK.cons ti88_ok (TOK.cons ti90_ok (TOK.cons ti102_ok (TOK.cons ti105_ok (TOK.cons ti127_ok (TOK.cons ti133_ok (TOK.cons ti134_ok (TOK.cons ti136_ok (TOK.cons ti144_ok (TOK.cons ti152_ok (TOK.cons ti154_ok (TOK.cons ti164_ok (TOK.cons ti168_ok (TOK.cons ti175_ok (TOK.cons ti179_ok (TOK.cons ti180_ok (TOK.cons ti185_ok (TOK.cons ti186_ok (TOK.cons ti188_ok (TOK.cons ti189_ok (TOK.cons ti190_ok (TOK.cons ti191_ok (TOK.cons ti192_ok (TOK.nil))))))))))))))))))))))))))))))))))))))))))))))))))))))))))))))))))))))
def OVS:List FuncId:=[]
def NTS:List TypeId:=[67,70]
theorem OVS_ok:∀ f ∈ OVS,OvOK Tryz.prog f:=OVOK.nil
theorem mt90_ok:MapTy Tryz.prog 90:=⟨3,4,by kernel_rfl,by kernel_rfl,fun _=>by kernel_rfl⟩
def MTS:List TypeId:=[90]
theorem MTS_ok:∀ t ∈ MTS,MapTy Tryz.prog t:=MTOK.cons mt90_ok (MTOK.nil)
def DFS:List FuncId:=[120,121,122,123,124,125,126,127]
theorem mixed:Tryz.prog.follows .mixedOrders=true:=by kernel_rfl
end Go.Proofs.YtohnakoineakdaaGreat
