/- The types of this seat's program, for the evaluator. -/
import Derived.Test.YtjdlancjbdmkhaaProg
import Derived.Test.YtjdlancjbdmkhaaQEvQ
import Derived.KernelRfl
namespace Go.Proofs.Ytjdlancjbdmkhaa
open Go.Ev
set_option maxRecDepth 100000
def ti2:TI:=⟨1,false,8,[.int .i64 0],(.int .i64),some (.int .i64),false⟩
theorem ti2_ok:TIOK Try.prog 2 ti2:=TIOK.of (by kernel_rfl) ⟨_,by kernel_rfl,rfl⟩ (by kernel_rfl) (by intro k h; cases h; exact ⟨rfl,rfl,by decide⟩) (fun h=>by cases h)
def ti3:TI:=⟨1,false,8,[.int .i64 0],(.int .i64),some (.int .i64),false⟩
theorem ti3_ok:TIOK Try.prog 3 ti3:=TIOK.of (by kernel_rfl) ⟨_,by kernel_rfl,rfl⟩ (by kernel_rfl) (by intro k h; cases h; exact ⟨rfl,rfl,by decide⟩) (fun h=>by cases h)
def ti4:TI:=⟨1,false,1,[.bool false],.bool,some .bool,false⟩
theorem ti4_ok:TIOK Try.prog 4 ti4:=TIOK.of (by kernel_rfl) ⟨_,by kernel_rfl,rfl⟩ (by kernel_rfl) (by intro k h; cases h; exact ⟨rfl,rfl,by decide⟩) (fun h=>by cases h)
def ti5:TI:=⟨1,false,1,[.int .u8 0],(.int .u8),some (.int .u8),false⟩
theorem ti5_ok:TIOK Try.prog 5 ti5:=TIOK.of (by kernel_rfl) ⟨_,by kernel_rfl,rfl⟩ (by kernel_rfl) (by intro k h; cases h; exact ⟨rfl,rfl,by decide⟩) (fun h=>by cases h)
def ti6:TI:=⟨1,false,1,[.int .u8 0],(.int .u8),some (.int .u8),false⟩
theorem ti6_ok:TIOK Try.prog 6 ti6:=TIOK.of (by kernel_rfl) ⟨_,by kernel_rfl,rfl⟩ (by kernel_rfl) (by intro k h; cases h; exact ⟨rfl,rfl,by decide⟩) (fun h=>by cases h)
def ti7:TI:=⟨4,true,24,[.int .i64 0,.int .i64 0,.bool false,.int .u8 0],(.struct [(0,1,false),(1,1,false),(2,1,false),(3,1,false)]),some (.pair (.int .i64) (.pair (.int .i64) (.pair .bool (.int .u8)))),false⟩
theorem ti7_ok:TIOK Try.prog 7 ti7:=TIOK.of (by kernel_rfl) (TK.struct_of (by kernel_rfl)) (by kernel_rfl) (by intro k h; cases h; exact ⟨rfl,rfl,by decide⟩) (fun h=>by cases h)
def ti8:TI:=⟨4,true,24,[.int .i64 0,.int .i64 0,.bool false,.int .u8 0],(.struct [(0,1,false),(1,1,false),(2,1,false),(3,1,false)]),some (.pair (.int .i64) (.pair (.int .i64) (.pair .bool (.int .u8)))),false⟩
theorem ti8_ok:TIOK Try.prog 8 ti8:=TIOK.of (by kernel_rfl) (TK.struct_of (by kernel_rfl)) (by kernel_rfl) (by intro k h; cases h; exact ⟨rfl,rfl,by decide⟩) (fun h=>by cases h)
def ti9:TI:=⟨1,false,16,[.string ByteArray.empty],.str,some .str,false⟩
theorem ti9_ok:TIOK Try.prog 9 ti9:=TIOK.of (by kernel_rfl) ⟨_,by kernel_rfl,rfl⟩ (by kernel_rfl) (by intro k h; cases h; exact ⟨rfl,rfl,by decide⟩) (fun h=>by cases h)
def ti10:TI:=⟨1,false,16,[.string ByteArray.empty],.str,some .str,false⟩
theorem ti10_ok:TIOK Try.prog 10 ti10:=TIOK.of (by kernel_rfl) ⟨_,by kernel_rfl,rfl⟩ (by kernel_rfl) (by intro k h; cases h; exact ⟨rfl,rfl,by decide⟩) (fun h=>by cases h)
def ti11:TI:=⟨1,false,16,[.string ByteArray.empty],.str,some .str,false⟩
theorem ti11_ok:TIOK Try.prog 11 ti11:=TIOK.of (by kernel_rfl) ⟨_,by kernel_rfl,rfl⟩ (by kernel_rfl) (by intro k h; cases h; exact ⟨rfl,rfl,by decide⟩) (fun h=>by cases h)
def ti12:TI:=⟨1,false,8,[.int .u64 0],(.int .u64),some (.int .u64),false⟩
theorem ti12_ok:TIOK Try.prog 12 ti12:=TIOK.of (by kernel_rfl) ⟨_,by kernel_rfl,rfl⟩ (by kernel_rfl) (by intro k h; cases h; exact ⟨rfl,rfl,by decide⟩) (fun h=>by cases h)
def ti13:TI:=⟨2,true,24,[.string ByteArray.empty,.int .u64 0],(.struct [(0,1,false),(1,1,false)]),some (.pair .str (.int .u64)),false⟩
theorem ti13_ok:TIOK Try.prog 13 ti13:=TIOK.of (by kernel_rfl) (TK.struct_of (by kernel_rfl)) (by kernel_rfl) (by intro k h; cases h; exact ⟨rfl,rfl,by decide⟩) (fun h=>by cases h)
def ti14:TI:=⟨2,true,24,[.string ByteArray.empty,.int .u64 0],(.struct [(0,1,false),(1,1,false)]),some (.pair .str (.int .u64)),false⟩
theorem ti14_ok:TIOK Try.prog 14 ti14:=TIOK.of (by kernel_rfl) (TK.struct_of (by kernel_rfl)) (by kernel_rfl) (by intro k h; cases h; exact ⟨rfl,rfl,by decide⟩) (fun h=>by cases h)
def ti15:TI:=⟨1,false,8,[.pointer none],(.ptr 149),none,false⟩
theorem ti15_ok:TIOK Try.prog 15 ti15:=TIOK.of (by kernel_rfl) ⟨_,by kernel_rfl,rfl⟩ (by kernel_rfl) (by intro k h; cases h) (fun h=>by cases h)
def ti16:TI:=⟨1,false,8,[.pointer none],(.ptr 152),none,false⟩
theorem ti16_ok:TIOK Try.prog 16 ti16:=TIOK.of (by kernel_rfl) ⟨_,by kernel_rfl,rfl⟩ (by kernel_rfl) (by intro k h; cases h) (fun h=>by cases h)
def ti17:TI:=⟨1,false,8,[.pointer none],(.ptr 160),none,false⟩
theorem ti17_ok:TIOK Try.prog 17 ti17:=TIOK.of (by kernel_rfl) ⟨_,by kernel_rfl,rfl⟩ (by kernel_rfl) (by intro k h; cases h) (fun h=>by cases h)
def ti18:TI:=⟨1,true,8,[.pointer none],(.struct [(0,1,false)]),none,false⟩
theorem ti18_ok:TIOK Try.prog 18 ti18:=TIOK.of (by kernel_rfl) (TK.struct_of (by kernel_rfl)) (by kernel_rfl) (by intro k h; cases h) (fun h=>by cases h)
def ti19:TI:=⟨1,true,8,[.pointer none],(.struct [(0,1,false)]),none,false⟩
theorem ti19_ok:TIOK Try.prog 19 ti19:=TIOK.of (by kernel_rfl) (TK.struct_of (by kernel_rfl)) (by kernel_rfl) (by intro k h; cases h) (fun h=>by cases h)
def ti21:TI:=⟨1,false,4,[.int .i32 0],(.int .i32),some (.int .i32),false⟩
theorem ti21_ok:TIOK Try.prog 21 ti21:=TIOK.of (by kernel_rfl) ⟨_,by kernel_rfl,rfl⟩ (by kernel_rfl) (by intro k h; cases h; exact ⟨rfl,rfl,by decide⟩) (fun h=>by cases h)
def ti22:TI:=⟨1,false,24,[.slice none 0 0],(.slice 50),some (.seq 50 (.pair (.int .i64) (.pair (.int .i64) (.pair (.int .i64) (.pair (.int .i64) (.pair (.seq 3 (.int .i64)) (.int .i64))))))),false⟩
theorem ti22_ok:TIOK Try.prog 22 ti22:=TIOK.of (by kernel_rfl) ⟨_,by kernel_rfl,rfl⟩ (by kernel_rfl) (by intro k h; cases h; exact ⟨rfl,rfl,by decide⟩) (fun h=>by cases h)
def ti23:TI:=⟨5,true,56,[.slice none 0 0,.int .i64 0,.int .i64 0,.int .i64 0,.int .i64 0],(.struct [(0,1,false),(1,1,false),(2,1,false),(3,1,false),(4,1,false)]),some (.pair (.seq 50 (.pair (.int .i64) (.pair (.int .i64) (.pair (.int .i64) (.pair (.int .i64) (.pair (.seq 3 (.int .i64)) (.int .i64))))))) (.pair (.int .i64) (.pair (.int .i64) (.pair (.int .i64) (.int .i64))))),false⟩
theorem ti23_ok:TIOK Try.prog 23 ti23:=TIOK.of (by kernel_rfl) (TK.struct_of (by kernel_rfl)) (by kernel_rfl) (by intro k h; cases h; exact ⟨rfl,rfl,by decide⟩) (fun h=>by cases h)
def ti24:TI:=⟨5,true,56,[.slice none 0 0,.int .i64 0,.int .i64 0,.int .i64 0,.int .i64 0],(.struct [(0,1,false),(1,1,false),(2,1,false),(3,1,false),(4,1,false)]),some (.pair (.seq 50 (.pair (.int .i64) (.pair (.int .i64) (.pair (.int .i64) (.pair (.int .i64) (.pair (.seq 3 (.int .i64)) (.int .i64))))))) (.pair (.int .i64) (.pair (.int .i64) (.pair (.int .i64) (.int .i64))))),false⟩
theorem ti24_ok:TIOK Try.prog 24 ti24:=TIOK.of (by kernel_rfl) (TK.struct_of (by kernel_rfl)) (by kernel_rfl) (by intro k h; cases h; exact ⟨rfl,rfl,by decide⟩) (fun h=>by cases h)
def ti25:TI:=⟨1,false,24,[.slice none 0 0],(.slice 3),some (.seq 3 (.int .i64)),false⟩
theorem ti25_ok:TIOK Try.prog 25 ti25:=TIOK.of (by kernel_rfl) ⟨_,by kernel_rfl,rfl⟩ (by kernel_rfl) (by intro k h; cases h; exact ⟨rfl,rfl,by decide⟩) (fun h=>by cases h)
def ti26:TI:=⟨1,false,24,[.slice none 0 0],(.slice 44),some (.seq 44 (.pair (.int .i64) (.pair (.int .i64) (.pair (.int .i64) (.int .i64))))),false⟩
theorem ti26_ok:TIOK Try.prog 26 ti26:=TIOK.of (by kernel_rfl) ⟨_,by kernel_rfl,rfl⟩ (by kernel_rfl) (by intro k h; cases h; exact ⟨rfl,rfl,by decide⟩) (fun h=>by cases h)
def ti27:TI:=⟨12,true,168,[.slice none 0 0,.int .i64 0,.int .i64 0,.int .i64 0,.int .i64 0,.int .i64 0,.slice none 0 0,.slice none 0 0,.int .i64 0,.slice none 0 0,.string ByteArray.empty,.int .i64 0],(.struct [(0,5,true),(5,1,false),(6,1,false),(7,1,false),(8,1,false),(9,1,false),(10,1,false),(11,1,false)]),some (.pair (.pair (.seq 50 (.pair (.int .i64) (.pair (.int .i64) (.pair (.int .i64) (.pair (.int .i64) (.pair (.seq 3 (.int .i64)) (.int .i64))))))) (.pair (.int .i64) (.pair (.int .i64) (.pair (.int .i64) (.int .i64))))) (.pair (.int .i64) (.pair (.seq 3 (.int .i64)) (.pair (.seq 3 (.int .i64)) (.pair (.int .i64) (.pair (.seq 44 (.pair (.int .i64) (.pair (.int .i64) (.pair (.int .i64) (.int .i64))))) (.pair .str (.int .i64)))))))),false⟩
theorem ti27_ok:TIOK Try.prog 27 ti27:=TIOK.of (by kernel_rfl) (TK.struct_of (by kernel_rfl)) (by kernel_rfl) (by intro k h; cases h; exact ⟨rfl,rfl,by decide⟩) (fun h=>by cases h)
def ti28:TI:=⟨12,true,168,[.slice none 0 0,.int .i64 0,.int .i64 0,.int .i64 0,.int .i64 0,.int .i64 0,.slice none 0 0,.slice none 0 0,.int .i64 0,.slice none 0 0,.string ByteArray.empty,.int .i64 0],(.struct [(0,5,true),(5,1,false),(6,1,false),(7,1,false),(8,1,false),(9,1,false),(10,1,false),(11,1,false)]),some (.pair (.pair (.seq 50 (.pair (.int .i64) (.pair (.int .i64) (.pair (.int .i64) (.pair (.int .i64) (.pair (.seq 3 (.int .i64)) (.int .i64))))))) (.pair (.int .i64) (.pair (.int .i64) (.pair (.int .i64) (.int .i64))))) (.pair (.int .i64) (.pair (.seq 3 (.int .i64)) (.pair (.seq 3 (.int .i64)) (.pair (.int .i64) (.pair (.seq 44 (.pair (.int .i64) (.pair (.int .i64) (.pair (.int .i64) (.int .i64))))) (.pair .str (.int .i64)))))))),false⟩
theorem ti28_ok:TIOK Try.prog 28 ti28:=TIOK.of (by kernel_rfl) (TK.struct_of (by kernel_rfl)) (by kernel_rfl) (by intro k h; cases h; exact ⟨rfl,rfl,by decide⟩) (fun h=>by cases h)
def ti30:TI:=⟨1,false,8,[.int .i64 0],(.int .i64),some (.int .i64),false⟩
theorem ti30_ok:TIOK Try.prog 30 ti30:=TIOK.of (by kernel_rfl) ⟨_,by kernel_rfl,rfl⟩ (by kernel_rfl) (by intro k h; cases h; exact ⟨rfl,rfl,by decide⟩) (fun h=>by cases h)
def ti39:TI:=⟨1,false,8,[.int .u64 0],(.int .u64),some (.int .u64),false⟩
theorem ti39_ok:TIOK Try.prog 39 ti39:=TIOK.of (by kernel_rfl) ⟨_,by kernel_rfl,rfl⟩ (by kernel_rfl) (by intro k h; cases h; exact ⟨rfl,rfl,by decide⟩) (fun h=>by cases h)
def ti40:TI:=⟨1,false,24,[.slice none 0 0],(.slice 5),some (.seq 5 (.int .u8)),false⟩
theorem ti40_ok:TIOK Try.prog 40 ti40:=TIOK.of (by kernel_rfl) ⟨_,by kernel_rfl,rfl⟩ (by kernel_rfl) (by intro k h; cases h; exact ⟨rfl,rfl,by decide⟩) (fun h=>by cases h)
def ti43:TI:=⟨4,true,32,[.int .i64 0,.int .i64 0,.int .i64 0,.int .i64 0],(.struct [(0,1,false),(1,1,false),(2,1,false),(3,1,false)]),some (.pair (.int .i64) (.pair (.int .i64) (.pair (.int .i64) (.int .i64)))),true⟩
theorem ti43_ok:TIOK Try.prog 43 ti43:=TIOK.of (by kernel_rfl) (TK.struct_of (by kernel_rfl)) (by kernel_rfl) (by intro k h; cases h; exact ⟨rfl,rfl,by decide⟩) (fun _=>Flat.of (by kernel_rfl) (by kernel_rfl) (by kernel_rfl))
def ti44:TI:=⟨4,true,32,[.int .i64 0,.int .i64 0,.int .i64 0,.int .i64 0],(.struct [(0,1,false),(1,1,false),(2,1,false),(3,1,false)]),some (.pair (.int .i64) (.pair (.int .i64) (.pair (.int .i64) (.int .i64)))),true⟩
theorem ti44_ok:TIOK Try.prog 44 ti44:=TIOK.of (by kernel_rfl) (TK.struct_of (by kernel_rfl)) (by kernel_rfl) (by intro k h; cases h; exact ⟨rfl,rfl,by decide⟩) (fun _=>Flat.of (by kernel_rfl) (by kernel_rfl) (by kernel_rfl))
def ti47:TI:=⟨1,false,8,[.pointer none],(.ptr 24),none,false⟩
theorem ti47_ok:TIOK Try.prog 47 ti47:=TIOK.of (by kernel_rfl) ⟨_,by kernel_rfl,rfl⟩ (by kernel_rfl) (by intro k h; cases h) (fun h=>by cases h)
def ti49:TI:=⟨6,true,64,[.int .i64 0,.int .i64 0,.int .i64 0,.int .i64 0,.slice none 0 0,.int .i64 0],(.struct [(0,1,false),(1,1,false),(2,1,false),(3,1,false),(4,1,false),(5,1,false)]),some (.pair (.int .i64) (.pair (.int .i64) (.pair (.int .i64) (.pair (.int .i64) (.pair (.seq 3 (.int .i64)) (.int .i64)))))),false⟩
theorem ti49_ok:TIOK Try.prog 49 ti49:=TIOK.of (by kernel_rfl) (TK.struct_of (by kernel_rfl)) (by kernel_rfl) (by intro k h; cases h; exact ⟨rfl,rfl,by decide⟩) (fun h=>by cases h)
def ti50:TI:=⟨6,true,64,[.int .i64 0,.int .i64 0,.int .i64 0,.int .i64 0,.slice none 0 0,.int .i64 0],(.struct [(0,1,false),(1,1,false),(2,1,false),(3,1,false),(4,1,false),(5,1,false)]),some (.pair (.int .i64) (.pair (.int .i64) (.pair (.int .i64) (.pair (.int .i64) (.pair (.seq 3 (.int .i64)) (.int .i64)))))),false⟩
theorem ti50_ok:TIOK Try.prog 50 ti50:=TIOK.of (by kernel_rfl) (TK.struct_of (by kernel_rfl)) (by kernel_rfl) (by intro k h; cases h; exact ⟨rfl,rfl,by decide⟩) (fun h=>by cases h)
def ti55:TI:=⟨1,false,8,[.pointer none],(.ptr 77),none,false⟩
theorem ti55_ok:TIOK Try.prog 55 ti55:=TIOK.of (by kernel_rfl) ⟨_,by kernel_rfl,rfl⟩ (by kernel_rfl) (by intro k h; cases h) (fun h=>by cases h)
def ti59:TI:=⟨1,false,8,[.pointer none],(.ptr 28),none,false⟩
theorem ti59_ok:TIOK Try.prog 59 ti59:=TIOK.of (by kernel_rfl) ⟨_,by kernel_rfl,rfl⟩ (by kernel_rfl) (by intro k h; cases h) (fun h=>by cases h)
def ti61:TI:=⟨3,true,32,[.string ByteArray.empty,.int .i64 0,.bool false],(.struct [(0,1,false),(1,1,false),(2,1,false)]),some (.pair .str (.pair (.int .i64) .bool)),false⟩
theorem ti61_ok:TIOK Try.prog 61 ti61:=TIOK.of (by kernel_rfl) (TK.struct_of (by kernel_rfl)) (by kernel_rfl) (by intro k h; cases h; exact ⟨rfl,rfl,by decide⟩) (fun h=>by cases h)
def ti62:TI:=⟨3,true,32,[.string ByteArray.empty,.int .i64 0,.bool false],(.struct [(0,1,false),(1,1,false),(2,1,false)]),some (.pair .str (.pair (.int .i64) .bool)),false⟩
theorem ti62_ok:TIOK Try.prog 62 ti62:=TIOK.of (by kernel_rfl) (TK.struct_of (by kernel_rfl)) (by kernel_rfl) (by intro k h; cases h; exact ⟨rfl,rfl,by decide⟩) (fun h=>by cases h)
def ti63:TI:=⟨3,true,32,[.string ByteArray.empty,.int .i64 0,.bool false],(.struct [(0,3,true)]),some (.pair .str (.pair (.int .i64) .bool)),false⟩
theorem ti63_ok:TIOK Try.prog 63 ti63:=TIOK.of (by kernel_rfl) (TK.struct_of (by kernel_rfl)) (by kernel_rfl) (by intro k h; cases h; exact ⟨rfl,rfl,by decide⟩) (fun h=>by cases h)
def ti64:TI:=⟨3,true,32,[.string ByteArray.empty,.int .i64 0,.bool false],(.struct [(0,3,true)]),some (.pair .str (.pair (.int .i64) .bool)),false⟩
theorem ti64_ok:TIOK Try.prog 64 ti64:=TIOK.of (by kernel_rfl) (TK.struct_of (by kernel_rfl)) (by kernel_rfl) (by intro k h; cases h; exact ⟨rfl,rfl,by decide⟩) (fun h=>by cases h)
def ti71:TI:=⟨1,false,8,[.int .u64 0],(.int .u64),some (.int .u64),false⟩
theorem ti71_ok:TIOK Try.prog 71 ti71:=TIOK.of (by kernel_rfl) ⟨_,by kernel_rfl,rfl⟩ (by kernel_rfl) (by intro k h; cases h; exact ⟨rfl,rfl,by decide⟩) (fun h=>by cases h)
def ti76:TI:=⟨2,true,24,[.string ByteArray.empty,.int .i64 0],(.struct [(0,1,false),(1,1,false)]),some (.pair .str (.int .i64)),false⟩
theorem ti76_ok:TIOK Try.prog 76 ti76:=TIOK.of (by kernel_rfl) (TK.struct_of (by kernel_rfl)) (by kernel_rfl) (by intro k h; cases h; exact ⟨rfl,rfl,by decide⟩) (fun h=>by cases h)
def ti77:TI:=⟨2,true,24,[.string ByteArray.empty,.int .i64 0],(.struct [(0,1,false),(1,1,false)]),some (.pair .str (.int .i64)),false⟩
theorem ti77_ok:TIOK Try.prog 77 ti77:=TIOK.of (by kernel_rfl) (TK.struct_of (by kernel_rfl)) (by kernel_rfl) (by intro k h; cases h; exact ⟨rfl,rfl,by decide⟩) (fun h=>by cases h)
def ti89:TI:=⟨1,false,8,[.pointer none],(.ptr 62),none,false⟩
theorem ti89_ok:TIOK Try.prog 89 ti89:=TIOK.of (by kernel_rfl) ⟨_,by kernel_rfl,rfl⟩ (by kernel_rfl) (by intro k h; cases h) (fun h=>by cases h)
def ti93:TI:=⟨1,false,8,[.pointer none],(.ptr 50),none,false⟩
theorem ti93_ok:TIOK Try.prog 93 ti93:=TIOK.of (by kernel_rfl) ⟨_,by kernel_rfl,rfl⟩ (by kernel_rfl) (by intro k h; cases h) (fun h=>by cases h)
def ti97:TI:=⟨1,false,8,[.map none],(.map 3 4),some .mset,false⟩
theorem ti97_ok:TIOK Try.prog 97 ti97:=TIOK.of (by kernel_rfl) ⟨_,by kernel_rfl,rfl⟩ (by kernel_rfl) (by intro k h; cases h; exact ⟨rfl,rfl,by decide⟩) (fun h=>by cases h)
def ti98:TI:=⟨1,false,24,[.slice none 0 0],(.slice 26),some (.seq 26 (.seq 44 (.pair (.int .i64) (.pair (.int .i64) (.pair (.int .i64) (.int .i64)))))),false⟩
theorem ti98_ok:TIOK Try.prog 98 ti98:=TIOK.of (by kernel_rfl) ⟨_,by kernel_rfl,rfl⟩ (by kernel_rfl) (by intro k h; cases h; exact ⟨rfl,rfl,by decide⟩) (fun h=>by cases h)
def ti100:TI:=⟨1,false,24,[.slice none 0 0],(.slice 105),some (.seq 105 (.pair (.pair (.int .i64) (.int .i64)) (.seq 44 (.pair (.int .i64) (.pair (.int .i64) (.pair (.int .i64) (.int .i64))))))),false⟩
theorem ti100_ok:TIOK Try.prog 100 ti100:=TIOK.of (by kernel_rfl) ⟨_,by kernel_rfl,rfl⟩ (by kernel_rfl) (by intro k h; cases h; exact ⟨rfl,rfl,by decide⟩) (fun h=>by cases h)
def ti102:TI:=⟨2,true,16,[.int .i64 0,.int .i64 0],(.struct [(0,1,false),(1,1,false)]),some (.pair (.int .i64) (.int .i64)),true⟩
theorem ti102_ok:TIOK Try.prog 102 ti102:=TIOK.of (by kernel_rfl) (TK.struct_of (by kernel_rfl)) (by kernel_rfl) (by intro k h; cases h; exact ⟨rfl,rfl,by decide⟩) (fun _=>Flat.of (by kernel_rfl) (by kernel_rfl) (by kernel_rfl))
def ti103:TI:=⟨2,true,16,[.int .i64 0,.int .i64 0],(.struct [(0,1,false),(1,1,false)]),some (.pair (.int .i64) (.int .i64)),true⟩
theorem ti103_ok:TIOK Try.prog 103 ti103:=TIOK.of (by kernel_rfl) (TK.struct_of (by kernel_rfl)) (by kernel_rfl) (by intro k h; cases h; exact ⟨rfl,rfl,by decide⟩) (fun _=>Flat.of (by kernel_rfl) (by kernel_rfl) (by kernel_rfl))
def ti104:TI:=⟨3,true,40,[.int .i64 0,.int .i64 0,.slice none 0 0],(.struct [(0,2,true),(2,1,false)]),some (.pair (.pair (.int .i64) (.int .i64)) (.seq 44 (.pair (.int .i64) (.pair (.int .i64) (.pair (.int .i64) (.int .i64)))))),false⟩
theorem ti104_ok:TIOK Try.prog 104 ti104:=TIOK.of (by kernel_rfl) (TK.struct_of (by kernel_rfl)) (by kernel_rfl) (by intro k h; cases h; exact ⟨rfl,rfl,by decide⟩) (fun h=>by cases h)
def ti105:TI:=⟨3,true,40,[.int .i64 0,.int .i64 0,.slice none 0 0],(.struct [(0,2,true),(2,1,false)]),some (.pair (.pair (.int .i64) (.int .i64)) (.seq 44 (.pair (.int .i64) (.pair (.int .i64) (.pair (.int .i64) (.int .i64)))))),false⟩
theorem ti105_ok:TIOK Try.prog 105 ti105:=TIOK.of (by kernel_rfl) (TK.struct_of (by kernel_rfl)) (by kernel_rfl) (by intro k h; cases h; exact ⟨rfl,rfl,by decide⟩) (fun h=>by cases h)
def ti118:TI:=⟨1,false,24,[.slice none 0 0],(.slice 103),some (.seq 103 (.pair (.int .i64) (.int .i64))),false⟩
theorem ti118_ok:TIOK Try.prog 118 ti118:=TIOK.of (by kernel_rfl) ⟨_,by kernel_rfl,rfl⟩ (by kernel_rfl) (by intro k h; cases h; exact ⟨rfl,rfl,by decide⟩) (fun h=>by cases h)
def ti124:TI:=⟨1,false,8,[.pointer none],(.ptr 105),none,false⟩
theorem ti124_ok:TIOK Try.prog 124 ti124:=TIOK.of (by kernel_rfl) ⟨_,by kernel_rfl,rfl⟩ (by kernel_rfl) (by intro k h; cases h) (fun h=>by cases h)
def ti128:TI:=⟨1,false,8,[.int .i64 0],(.int .i64),some (.int .i64),false⟩
theorem ti128_ok:TIOK Try.prog 128 ti128:=TIOK.of (by kernel_rfl) ⟨_,by kernel_rfl,rfl⟩ (by kernel_rfl) (by intro k h; cases h; exact ⟨rfl,rfl,by decide⟩) (fun h=>by cases h)
def ti136:TI:=⟨1,false,4,[.int .u32 0],(.int .u32),some (.int .u32),false⟩
theorem ti136_ok:TIOK Try.prog 136 ti136:=TIOK.of (by kernel_rfl) ⟨_,by kernel_rfl,rfl⟩ (by kernel_rfl) (by intro k h; cases h; exact ⟨rfl,rfl,by decide⟩) (fun h=>by cases h)
def ti138:TI:=⟨1,false,8,[.int .u64 0],(.int .u64),some (.int .u64),false⟩
theorem ti138_ok:TIOK Try.prog 138 ti138:=TIOK.of (by kernel_rfl) ⟨_,by kernel_rfl,rfl⟩ (by kernel_rfl) (by intro k h; cases h; exact ⟨rfl,rfl,by decide⟩) (fun h=>by cases h)
def ti142:TI:=⟨1,false,8,[.pointer none],(.ptr 3),none,false⟩
theorem ti142_ok:TIOK Try.prog 142 ti142:=TIOK.of (by kernel_rfl) ⟨_,by kernel_rfl,rfl⟩ (by kernel_rfl) (by intro k h; cases h) (fun h=>by cases h)
def ti144:TI:=⟨1,false,8,[.pointer none],(.ptr 138),none,false⟩
theorem ti144_ok:TIOK Try.prog 144 ti144:=TIOK.of (by kernel_rfl) ⟨_,by kernel_rfl,rfl⟩ (by kernel_rfl) (by intro k h; cases h) (fun h=>by cases h)
def ti148:TI:=⟨4,true,40,[.pointer none,.pointer none,.pointer none,.string ByteArray.empty],(.struct [(0,1,false),(1,1,false),(2,1,false),(3,1,false)]),none,false⟩
theorem ti148_ok:TIOK Try.prog 148 ti148:=TIOK.of (by kernel_rfl) (TK.struct_of (by kernel_rfl)) (by kernel_rfl) (by intro k h; cases h) (fun h=>by cases h)
def ti149:TI:=⟨4,true,40,[.pointer none,.pointer none,.pointer none,.string ByteArray.empty],(.struct [(0,1,false),(1,1,false),(2,1,false),(3,1,false)]),none,false⟩
theorem ti149_ok:TIOK Try.prog 149 ti149:=TIOK.of (by kernel_rfl) (TK.struct_of (by kernel_rfl)) (by kernel_rfl) (by intro k h; cases h) (fun h=>by cases h)
def ti153:TI:=⟨1,false,1,[.int .u8 0],(.int .u8),some (.int .u8),false⟩
theorem ti153_ok:TIOK Try.prog 153 ti153:=TIOK.of (by kernel_rfl) ⟨_,by kernel_rfl,rfl⟩ (by kernel_rfl) (by intro k h; cases h; exact ⟨rfl,rfl,by decide⟩) (fun h=>by cases h)
def ti154:TI:=⟨1,false,1,[.int .u8 0],(.int .u8),some (.int .u8),false⟩
theorem ti154_ok:TIOK Try.prog 154 ti154:=TIOK.of (by kernel_rfl) ⟨_,by kernel_rfl,rfl⟩ (by kernel_rfl) (by intro k h; cases h; exact ⟨rfl,rfl,by decide⟩) (fun h=>by cases h)
def ti156:TI:=⟨1,false,8,[.pointer none],(.ptr 5),none,false⟩
theorem ti156_ok:TIOK Try.prog 156 ti156:=TIOK.of (by kernel_rfl) ⟨_,by kernel_rfl,rfl⟩ (by kernel_rfl) (by intro k h; cases h) (fun h=>by cases h)
def ti157:TI:=⟨1,false,4,[.int .i32 0],(.int .i32),some (.int .i32),false⟩
theorem ti157_ok:TIOK Try.prog 157 ti157:=TIOK.of (by kernel_rfl) ⟨_,by kernel_rfl,rfl⟩ (by kernel_rfl) (by intro k h; cases h; exact ⟨rfl,rfl,by decide⟩) (fun h=>by cases h)
def ti158:TI:=⟨1,false,4,[.int .i32 0],(.int .i32),some (.int .i32),false⟩
theorem ti158_ok:TIOK Try.prog 158 ti158:=TIOK.of (by kernel_rfl) ⟨_,by kernel_rfl,rfl⟩ (by kernel_rfl) (by intro k h; cases h; exact ⟨rfl,rfl,by decide⟩) (fun h=>by cases h)
def ti159:TI:=⟨11,true,48,[.int .u64 0,.int .u64 0,.int .u32 0,.int .u8 0,.int .u8 0,.int .u8 0,.int .u8 0,.nilFunc,.pointer none,.int .i32 0,.int .i32 0],(.struct [(0,1,false),(1,1,false),(2,1,false),(3,1,false),(4,1,false),(5,1,false),(6,1,false),(7,1,false),(8,1,false),(9,1,false),(10,1,false)]),none,false⟩
theorem ti159_ok:TIOK Try.prog 159 ti159:=TIOK.of (by kernel_rfl) (TK.struct_of (by kernel_rfl)) (by kernel_rfl) (by intro k h; cases h) (fun h=>by cases h)
def ti160:TI:=⟨11,true,48,[.int .u64 0,.int .u64 0,.int .u32 0,.int .u8 0,.int .u8 0,.int .u8 0,.int .u8 0,.nilFunc,.pointer none,.int .i32 0,.int .i32 0],(.struct [(0,1,false),(1,1,false),(2,1,false),(3,1,false),(4,1,false),(5,1,false),(6,1,false),(7,1,false),(8,1,false),(9,1,false),(10,1,false)]),none,false⟩
theorem ti160_ok:TIOK Try.prog 160 ti160:=TIOK.of (by kernel_rfl) (TK.struct_of (by kernel_rfl)) (by kernel_rfl) (by intro k h; cases h) (fun h=>by cases h)
def TT:List (TypeId×TI):=[(2,ti2),(3,ti3),(4,ti4),(5,ti5),(6,ti6),(7,ti7),(8,ti8),(9,ti9),(10,ti10),(11,ti11),(12,ti12),(13,ti13),(14,ti14),(15,ti15),(16,ti16),(17,ti17),(18,ti18),(19,ti19),(21,ti21),(22,ti22),(23,ti23),(24,ti24),(25,ti25),(26,ti26),(27,ti27),(28,ti28),(30,ti30),(39,ti39),(40,ti40),(43,ti43),(44,ti44),(47,ti47),(49,ti49),(50,ti50),(55,ti55),(59,ti59),(61,ti61),(62,ti62),(63,ti63),(64,ti64),(71,ti71),(76,ti76),(77,ti77),(89,ti89),(93,ti93),(97,ti97),(98,ti98),(100,ti100),(102,ti102),(103,ti103),(104,ti104),(105,ti105),(118,ti118),(124,ti124),(128,ti128),(136,ti136),(138,ti138),(142,ti142),(144,ti144),(148,ti148),(149,ti149),(153,ti153),(154,ti154),(156,ti156),(157,ti157),(158,ti158),(159,ti159),(160,ti160)]
theorem TT_ok:TOK Try.prog TT:=TOK.cons ti2_ok (TOK.cons ti3_ok (TOK.cons ti4_ok (TOK.cons ti5_ok (TOK.cons ti6_ok (TOK.cons ti7_ok (TOK.cons ti8_ok (TOK.cons ti9_ok (TOK.cons ti10_ok (TOK.cons ti11_ok (TOK.cons ti12_ok (TOK.cons ti13_ok (TOK.cons ti14_ok (TOK.cons ti15_ok (TOK.cons ti16_ok (TOK.cons ti17_ok (TOK.cons ti18_ok (TOK.cons ti19_ok (TOK.cons ti21_ok (TOK.cons ti22_ok (TOK.cons ti23_ok (TOK.cons ti24_ok (TOK.cons ti25_ok (TOK.cons ti26_ok (TOK.cons ti27_ok (TOK.cons ti28_ok (TOK.cons ti30_ok (TOK.cons ti39_ok (TOK.cons ti40_ok (TOK.cons ti43_ok (TOK.cons ti44_ok (TOK.cons ti47_ok (TOK.cons ti49_ok (TOK.cons ti50_ok (TOK.cons ti55_ok (TOK.cons ti59_ok (TOK.cons ti61_ok (TOK.cons ti62_ok (TOK.cons ti63_ok (TOK.cons ti64_ok (TOK.cons ti71_ok (TOK.cons ti76_ok (TOK.cons ti77_ok (TOK.cons ti89_ok (TOK.cons ti93_ok (TOK.cons ti97_ok (TOK.cons ti98_ok (TOK.cons ti100_ok (TOK.cons ti102_ok (TOK.cons ti103_ok (TOK.cons ti104_ok (TOK.cons ti105_ok (TOK.cons ti118_ok (TOK.cons ti124_ok (TOK.cons ti128_ok (TOK.cons ti136_ok (TOK.cons ti138_ok (TOK.cons ti142_ok (TOK.cons ti144_ok (TOK.cons ti148_ok (TOK.cons ti149_ok (TOK.cons ti153_ok (TOK.cons ti154_ok (TOK.cons ti156_ok (TOK.cons ti157_ok (TOK.cons ti158_ok (TOK.cons ti159_ok (TOK.cons ti160_ok (TOK.nil))))))))))))))))))))))))))))))))))))))))))))))))))))))))))))))))))))
def OVS:List FuncId:=[]
def NTS:List TypeId:=[98,100]
theorem OVS_ok:∀ f ∈ OVS,OvOK Try.prog f:=OVOK.nil
theorem mt97_ok:MapTy Try.prog 97:=⟨3,4,by kernel_rfl,by kernel_rfl,fun _=>by kernel_rfl⟩
def MTS:List TypeId:=[97]
theorem MTS_ok:∀ t ∈ MTS,MapTy Try.prog t:=MTOK.cons mt97_ok (MTOK.nil)
def DFS:List FuncId:=[]
theorem mixed:Try.prog.follows .mixedOrders=true:=by kernel_rfl
end Go.Proofs.Ytjdlancjbdmkhaa
