/- The types of this seat's program, for the evaluator. -/
import Derived.Test.YtoffmcfaeolcjaaProg
import Derived.Test.YtoffmcfaeolcjaaQEvQ
import Derived.KernelRfl
namespace Go.Proofs.Ytoffmcfaeolcjaa
open Go.Ev
set_option maxRecDepth 100000

def ti2 : TI := ⟨1, false, 8, [.int .i64 0], (.int .i64), some (.int .i64), false⟩
theorem ti2_ok : TIOK Try.prog 2 ti2 := TIOK.of (by kernel_rfl) ⟨_, by kernel_rfl, rfl⟩ (by kernel_rfl) (by intro k h; cases h; exact ⟨rfl, rfl, by decide⟩) (fun h => by cases h)
def ti3 : TI := ⟨1, false, 8, [.int .i64 0], (.int .i64), some (.int .i64), false⟩
theorem ti3_ok : TIOK Try.prog 3 ti3 := TIOK.of (by kernel_rfl) ⟨_, by kernel_rfl, rfl⟩ (by kernel_rfl) (by intro k h; cases h; exact ⟨rfl, rfl, by decide⟩) (fun h => by cases h)
def ti4 : TI := ⟨1, false, 1, [.bool false], .bool, some .bool, false⟩
theorem ti4_ok : TIOK Try.prog 4 ti4 := TIOK.of (by kernel_rfl) ⟨_, by kernel_rfl, rfl⟩ (by kernel_rfl) (by intro k h; cases h; exact ⟨rfl, rfl, by decide⟩) (fun h => by cases h)
def ti5 : TI := ⟨1, false, 1, [.int .u8 0], (.int .u8), some (.int .u8), false⟩
theorem ti5_ok : TIOK Try.prog 5 ti5 := TIOK.of (by kernel_rfl) ⟨_, by kernel_rfl, rfl⟩ (by kernel_rfl) (by intro k h; cases h; exact ⟨rfl, rfl, by decide⟩) (fun h => by cases h)
def ti6 : TI := ⟨1, false, 1, [.int .u8 0], (.int .u8), some (.int .u8), false⟩
theorem ti6_ok : TIOK Try.prog 6 ti6 := TIOK.of (by kernel_rfl) ⟨_, by kernel_rfl, rfl⟩ (by kernel_rfl) (by intro k h; cases h; exact ⟨rfl, rfl, by decide⟩) (fun h => by cases h)
def ti7 : TI := ⟨4, true, 24, [.int .i64 0, .int .i64 0, .bool false, .int .u8 0], (.struct [(0, 1, false), (1, 1, false), (2, 1, false), (3, 1, false)]), some (.pair (.int .i64) (.pair (.int .i64) (.pair .bool (.int .u8)))), false⟩
theorem ti7_ok : TIOK Try.prog 7 ti7 := TIOK.of (by kernel_rfl) (TK.struct_of (by kernel_rfl)) (by kernel_rfl) (by intro k h; cases h; exact ⟨rfl, rfl, by decide⟩) (fun h => by cases h)
def ti8 : TI := ⟨4, true, 24, [.int .i64 0, .int .i64 0, .bool false, .int .u8 0], (.struct [(0, 1, false), (1, 1, false), (2, 1, false), (3, 1, false)]), some (.pair (.int .i64) (.pair (.int .i64) (.pair .bool (.int .u8)))), false⟩
theorem ti8_ok : TIOK Try.prog 8 ti8 := TIOK.of (by kernel_rfl) (TK.struct_of (by kernel_rfl)) (by kernel_rfl) (by intro k h; cases h; exact ⟨rfl, rfl, by decide⟩) (fun h => by cases h)
def ti9 : TI := ⟨1, false, 16, [.string ByteArray.empty], .str, some .str, false⟩
theorem ti9_ok : TIOK Try.prog 9 ti9 := TIOK.of (by kernel_rfl) ⟨_, by kernel_rfl, rfl⟩ (by kernel_rfl) (by intro k h; cases h; exact ⟨rfl, rfl, by decide⟩) (fun h => by cases h)
def ti10 : TI := ⟨1, false, 16, [.string ByteArray.empty], .str, some .str, false⟩
theorem ti10_ok : TIOK Try.prog 10 ti10 := TIOK.of (by kernel_rfl) ⟨_, by kernel_rfl, rfl⟩ (by kernel_rfl) (by intro k h; cases h; exact ⟨rfl, rfl, by decide⟩) (fun h => by cases h)
def ti11 : TI := ⟨1, false, 16, [.string ByteArray.empty], .str, some .str, false⟩
theorem ti11_ok : TIOK Try.prog 11 ti11 := TIOK.of (by kernel_rfl) ⟨_, by kernel_rfl, rfl⟩ (by kernel_rfl) (by intro k h; cases h; exact ⟨rfl, rfl, by decide⟩) (fun h => by cases h)
def ti12 : TI := ⟨1, false, 8, [.int .u64 0], (.int .u64), some (.int .u64), false⟩
theorem ti12_ok : TIOK Try.prog 12 ti12 := TIOK.of (by kernel_rfl) ⟨_, by kernel_rfl, rfl⟩ (by kernel_rfl) (by intro k h; cases h; exact ⟨rfl, rfl, by decide⟩) (fun h => by cases h)
def ti13 : TI := ⟨2, true, 24, [.string ByteArray.empty, .int .u64 0], (.struct [(0, 1, false), (1, 1, false)]), some (.pair .str (.int .u64)), false⟩
theorem ti13_ok : TIOK Try.prog 13 ti13 := TIOK.of (by kernel_rfl) (TK.struct_of (by kernel_rfl)) (by kernel_rfl) (by intro k h; cases h; exact ⟨rfl, rfl, by decide⟩) (fun h => by cases h)
def ti14 : TI := ⟨2, true, 24, [.string ByteArray.empty, .int .u64 0], (.struct [(0, 1, false), (1, 1, false)]), some (.pair .str (.int .u64)), false⟩
theorem ti14_ok : TIOK Try.prog 14 ti14 := TIOK.of (by kernel_rfl) (TK.struct_of (by kernel_rfl)) (by kernel_rfl) (by intro k h; cases h; exact ⟨rfl, rfl, by decide⟩) (fun h => by cases h)
def ti15 : TI := ⟨1, false, 8, [.pointer none], (.ptr 134), none, false⟩
theorem ti15_ok : TIOK Try.prog 15 ti15 := TIOK.of (by kernel_rfl) ⟨_, by kernel_rfl, rfl⟩ (by kernel_rfl) (by intro k h; cases h) (fun h => by cases h)
def ti16 : TI := ⟨1, false, 8, [.pointer none], (.ptr 137), none, false⟩
theorem ti16_ok : TIOK Try.prog 16 ti16 := TIOK.of (by kernel_rfl) ⟨_, by kernel_rfl, rfl⟩ (by kernel_rfl) (by intro k h; cases h) (fun h => by cases h)
def ti17 : TI := ⟨1, false, 8, [.pointer none], (.ptr 145), none, false⟩
theorem ti17_ok : TIOK Try.prog 17 ti17 := TIOK.of (by kernel_rfl) ⟨_, by kernel_rfl, rfl⟩ (by kernel_rfl) (by intro k h; cases h) (fun h => by cases h)
def ti18 : TI := ⟨1, true, 8, [.pointer none], (.struct [(0, 1, false)]), none, false⟩
theorem ti18_ok : TIOK Try.prog 18 ti18 := TIOK.of (by kernel_rfl) (TK.struct_of (by kernel_rfl)) (by kernel_rfl) (by intro k h; cases h) (fun h => by cases h)
def ti19 : TI := ⟨1, true, 8, [.pointer none], (.struct [(0, 1, false)]), none, false⟩
theorem ti19_ok : TIOK Try.prog 19 ti19 := TIOK.of (by kernel_rfl) (TK.struct_of (by kernel_rfl)) (by kernel_rfl) (by intro k h; cases h) (fun h => by cases h)
def ti21 : TI := ⟨1, false, 4, [.int .i32 0], (.int .i32), some (.int .i32), false⟩
theorem ti21_ok : TIOK Try.prog 21 ti21 := TIOK.of (by kernel_rfl) ⟨_, by kernel_rfl, rfl⟩ (by kernel_rfl) (by intro k h; cases h; exact ⟨rfl, rfl, by decide⟩) (fun h => by cases h)
def ti22 : TI := ⟨1, false, 24, [.slice none 0 0], (.slice 3), some (.seq 3 (.int .i64)), false⟩
theorem ti22_ok : TIOK Try.prog 22 ti22 := TIOK.of (by kernel_rfl) ⟨_, by kernel_rfl, rfl⟩ (by kernel_rfl) (by intro k h; cases h; exact ⟨rfl, rfl, by decide⟩) (fun h => by cases h)
def ti23 : TI := ⟨1, false, 8, [.pointer none], (.ptr 85), none, false⟩
theorem ti23_ok : TIOK Try.prog 23 ti23 := TIOK.of (by kernel_rfl) ⟨_, by kernel_rfl, rfl⟩ (by kernel_rfl) (by intro k h; cases h) (fun h => by cases h)
def ti24 : TI := ⟨1, false, 8, [.int .i64 0], (.int .i64), some (.int .i64), false⟩
theorem ti24_ok : TIOK Try.prog 24 ti24 := TIOK.of (by kernel_rfl) ⟨_, by kernel_rfl, rfl⟩ (by kernel_rfl) (by intro k h; cases h; exact ⟨rfl, rfl, by decide⟩) (fun h => by cases h)
def ti27 : TI := ⟨1, false, 8, [.pointer none], (.ptr 38), none, false⟩
theorem ti27_ok : TIOK Try.prog 27 ti27 := TIOK.of (by kernel_rfl) ⟨_, by kernel_rfl, rfl⟩ (by kernel_rfl) (by intro k h; cases h) (fun h => by cases h)
def ti37 : TI := ⟨2, true, 32, [.int .i64 0, .slice none 0 0], (.struct [(0, 1, false), (1, 1, false)]), some (.pair (.int .i64) (.seq 3 (.int .i64))), false⟩
theorem ti37_ok : TIOK Try.prog 37 ti37 := TIOK.of (by kernel_rfl) (TK.struct_of (by kernel_rfl)) (by kernel_rfl) (by intro k h; cases h; exact ⟨rfl, rfl, by decide⟩) (fun h => by cases h)
def ti38 : TI := ⟨2, true, 32, [.int .i64 0, .slice none 0 0], (.struct [(0, 1, false), (1, 1, false)]), some (.pair (.int .i64) (.seq 3 (.int .i64))), false⟩
theorem ti38_ok : TIOK Try.prog 38 ti38 := TIOK.of (by kernel_rfl) (TK.struct_of (by kernel_rfl)) (by kernel_rfl) (by intro k h; cases h; exact ⟨rfl, rfl, by decide⟩) (fun h => by cases h)
def ti41 : TI := ⟨1, false, 8, [.int .u64 0], (.int .u64), some (.int .u64), false⟩
theorem ti41_ok : TIOK Try.prog 41 ti41 := TIOK.of (by kernel_rfl) ⟨_, by kernel_rfl, rfl⟩ (by kernel_rfl) (by intro k h; cases h; exact ⟨rfl, rfl, by decide⟩) (fun h => by cases h)
def ti42 : TI := ⟨1, false, 24, [.slice none 0 0], (.slice 53), some (.seq 53 (.pair (.int .i64) (.int .i64))), false⟩
theorem ti42_ok : TIOK Try.prog 42 ti42 := TIOK.of (by kernel_rfl) ⟨_, by kernel_rfl, rfl⟩ (by kernel_rfl) (by intro k h; cases h; exact ⟨rfl, rfl, by decide⟩) (fun h => by cases h)
def ti43 : TI := ⟨1, false, 8, [.pointer none], (.ptr 88), none, false⟩
theorem ti43_ok : TIOK Try.prog 43 ti43 := TIOK.of (by kernel_rfl) ⟨_, by kernel_rfl, rfl⟩ (by kernel_rfl) (by intro k h; cases h) (fun h => by cases h)
def ti46 : TI := ⟨1, false, 8, [.pointer none], (.ptr 57), none, false⟩
theorem ti46_ok : TIOK Try.prog 46 ti46 := TIOK.of (by kernel_rfl) ⟨_, by kernel_rfl, rfl⟩ (by kernel_rfl) (by intro k h; cases h) (fun h => by cases h)
def ti52 : TI := ⟨2, true, 16, [.int .i64 0, .int .i64 0], (.struct [(0, 1, false), (1, 1, false)]), some (.pair (.int .i64) (.int .i64)), true⟩
theorem ti52_ok : TIOK Try.prog 52 ti52 := TIOK.of (by kernel_rfl) (TK.struct_of (by kernel_rfl)) (by kernel_rfl) (by intro k h; cases h; exact ⟨rfl, rfl, by decide⟩) (fun _ => Flat.of (by kernel_rfl) (by kernel_rfl) (by kernel_rfl))
def ti53 : TI := ⟨2, true, 16, [.int .i64 0, .int .i64 0], (.struct [(0, 1, false), (1, 1, false)]), some (.pair (.int .i64) (.int .i64)), true⟩
theorem ti53_ok : TIOK Try.prog 53 ti53 := TIOK.of (by kernel_rfl) (TK.struct_of (by kernel_rfl)) (by kernel_rfl) (by intro k h; cases h; exact ⟨rfl, rfl, by decide⟩) (fun _ => Flat.of (by kernel_rfl) (by kernel_rfl) (by kernel_rfl))
def ti56 : TI := ⟨1, true, 24, [.slice none 0 0], (.struct [(0, 1, false)]), some (.seq 3 (.int .i64)), false⟩
theorem ti56_ok : TIOK Try.prog 56 ti56 := TIOK.of (by kernel_rfl) (TK.struct_of (by kernel_rfl)) (by kernel_rfl) (by intro k h; cases h; exact ⟨rfl, rfl, by decide⟩) (fun h => by cases h)
def ti57 : TI := ⟨1, true, 24, [.slice none 0 0], (.struct [(0, 1, false)]), some (.seq 3 (.int .i64)), false⟩
theorem ti57_ok : TIOK Try.prog 57 ti57 := TIOK.of (by kernel_rfl) (TK.struct_of (by kernel_rfl)) (by kernel_rfl) (by intro k h; cases h; exact ⟨rfl, rfl, by decide⟩) (fun h => by cases h)
def ti60 : TI := ⟨1, false, 24, [.slice none 0 0], (.slice 80), some (.seq 80 (.pair (.int .i64) (.pair (.int .i64) (.pair (.int .i64) (.pair (.int .i64) (.pair (.int .i64) (.pair (.int .i64) (.pair (.pair (.int .i64) (.pair (.int .i64) (.pair (.int .i64) (.int .i64)))) (.pair (.pair (.int .i64) (.pair (.int .i64) (.pair (.int .i64) (.int .i64)))) (.seq 3 (.int .i64))))))))))), false⟩
theorem ti60_ok : TIOK Try.prog 60 ti60 := TIOK.of (by kernel_rfl) ⟨_, by kernel_rfl, rfl⟩ (by kernel_rfl) (by intro k h; cases h; exact ⟨rfl, rfl, by decide⟩) (fun h => by cases h)
def ti61 : TI := ⟨1, false, 24, [.slice none 0 0], (.slice 75), some (.seq 75 (.pair (.int .i64) (.pair (.int .i64) (.pair (.int .i64) (.int .i64))))), false⟩
theorem ti61_ok : TIOK Try.prog 61 ti61 := TIOK.of (by kernel_rfl) ⟨_, by kernel_rfl, rfl⟩ (by kernel_rfl) (by intro k h; cases h; exact ⟨rfl, rfl, by decide⟩) (fun h => by cases h)
def ti74 : TI := ⟨4, true, 32, [.int .i64 0, .int .i64 0, .int .i64 0, .int .i64 0], (.struct [(0, 1, false), (1, 1, false), (2, 1, false), (3, 1, false)]), some (.pair (.int .i64) (.pair (.int .i64) (.pair (.int .i64) (.int .i64)))), true⟩
theorem ti74_ok : TIOK Try.prog 74 ti74 := TIOK.of (by kernel_rfl) (TK.struct_of (by kernel_rfl)) (by kernel_rfl) (by intro k h; cases h; exact ⟨rfl, rfl, by decide⟩) (fun _ => Flat.of (by kernel_rfl) (by kernel_rfl) (by kernel_rfl))
def ti75 : TI := ⟨4, true, 32, [.int .i64 0, .int .i64 0, .int .i64 0, .int .i64 0], (.struct [(0, 1, false), (1, 1, false), (2, 1, false), (3, 1, false)]), some (.pair (.int .i64) (.pair (.int .i64) (.pair (.int .i64) (.int .i64)))), true⟩
theorem ti75_ok : TIOK Try.prog 75 ti75 := TIOK.of (by kernel_rfl) (TK.struct_of (by kernel_rfl)) (by kernel_rfl) (by intro k h; cases h; exact ⟨rfl, rfl, by decide⟩) (fun _ => Flat.of (by kernel_rfl) (by kernel_rfl) (by kernel_rfl))
def ti77 : TI := ⟨13, true, 120, [.int .i64 0, .int .i64 0, .int .i64 0, .int .i64 0, .int .i64 0, .int .i64 0, .int .i64 0, .int .i64 0, .int .i64 0, .int .i64 0, .int .i64 0, .int .i64 0, .slice none 0 0], (.struct [(0, 1, false), (1, 1, false), (2, 1, false), (3, 1, false), (4, 4, true), (8, 4, true), (12, 1, false)]), some (.pair (.int .i64) (.pair (.int .i64) (.pair (.int .i64) (.pair (.int .i64) (.pair (.pair (.int .i64) (.pair (.int .i64) (.pair (.int .i64) (.int .i64)))) (.pair (.pair (.int .i64) (.pair (.int .i64) (.pair (.int .i64) (.int .i64)))) (.seq 3 (.int .i64)))))))), false⟩
theorem ti77_ok : TIOK Try.prog 77 ti77 := TIOK.of (by kernel_rfl) (TK.struct_of (by kernel_rfl)) (by kernel_rfl) (by intro k h; cases h; exact ⟨rfl, rfl, by decide⟩) (fun h => by cases h)
def ti78 : TI := ⟨13, true, 120, [.int .i64 0, .int .i64 0, .int .i64 0, .int .i64 0, .int .i64 0, .int .i64 0, .int .i64 0, .int .i64 0, .int .i64 0, .int .i64 0, .int .i64 0, .int .i64 0, .slice none 0 0], (.struct [(0, 1, false), (1, 1, false), (2, 1, false), (3, 1, false), (4, 4, true), (8, 4, true), (12, 1, false)]), some (.pair (.int .i64) (.pair (.int .i64) (.pair (.int .i64) (.pair (.int .i64) (.pair (.pair (.int .i64) (.pair (.int .i64) (.pair (.int .i64) (.int .i64)))) (.pair (.pair (.int .i64) (.pair (.int .i64) (.pair (.int .i64) (.int .i64)))) (.seq 3 (.int .i64)))))))), false⟩
theorem ti78_ok : TIOK Try.prog 78 ti78 := TIOK.of (by kernel_rfl) (TK.struct_of (by kernel_rfl)) (by kernel_rfl) (by intro k h; cases h; exact ⟨rfl, rfl, by decide⟩) (fun h => by cases h)
def ti79 : TI := ⟨15, true, 136, [.int .i64 0, .int .i64 0, .int .i64 0, .int .i64 0, .int .i64 0, .int .i64 0, .int .i64 0, .int .i64 0, .int .i64 0, .int .i64 0, .int .i64 0, .int .i64 0, .int .i64 0, .int .i64 0, .slice none 0 0], (.struct [(0, 1, false), (1, 1, false), (2, 13, true)]), some (.pair (.int .i64) (.pair (.int .i64) (.pair (.int .i64) (.pair (.int .i64) (.pair (.int .i64) (.pair (.int .i64) (.pair (.pair (.int .i64) (.pair (.int .i64) (.pair (.int .i64) (.int .i64)))) (.pair (.pair (.int .i64) (.pair (.int .i64) (.pair (.int .i64) (.int .i64)))) (.seq 3 (.int .i64)))))))))), false⟩
theorem ti79_ok : TIOK Try.prog 79 ti79 := TIOK.of (by kernel_rfl) (TK.struct_of (by kernel_rfl)) (by kernel_rfl) (by intro k h; cases h; exact ⟨rfl, rfl, by decide⟩) (fun h => by cases h)
def ti80 : TI := ⟨15, true, 136, [.int .i64 0, .int .i64 0, .int .i64 0, .int .i64 0, .int .i64 0, .int .i64 0, .int .i64 0, .int .i64 0, .int .i64 0, .int .i64 0, .int .i64 0, .int .i64 0, .int .i64 0, .int .i64 0, .slice none 0 0], (.struct [(0, 1, false), (1, 1, false), (2, 13, true)]), some (.pair (.int .i64) (.pair (.int .i64) (.pair (.int .i64) (.pair (.int .i64) (.pair (.int .i64) (.pair (.int .i64) (.pair (.pair (.int .i64) (.pair (.int .i64) (.pair (.int .i64) (.int .i64)))) (.pair (.pair (.int .i64) (.pair (.int .i64) (.pair (.int .i64) (.int .i64)))) (.seq 3 (.int .i64)))))))))), false⟩
theorem ti80_ok : TIOK Try.prog 80 ti80 := TIOK.of (by kernel_rfl) (TK.struct_of (by kernel_rfl)) (by kernel_rfl) (by intro k h; cases h; exact ⟨rfl, rfl, by decide⟩) (fun h => by cases h)
def ti83 : TI := ⟨1, false, 8, [.map none], (.map 3 4), none, false⟩
theorem ti83_ok : TIOK Try.prog 83 ti83 := TIOK.of (by kernel_rfl) ⟨_, by kernel_rfl, rfl⟩ (by kernel_rfl) (by intro k h; cases h) (fun h => by cases h)
def ti84 : TI := ⟨3, true, 40, [.int .i64 0, .slice none 0 0, .map none], (.struct [(0, 1, false), (1, 1, false), (2, 1, false)]), none, false⟩
theorem ti84_ok : TIOK Try.prog 84 ti84 := TIOK.of (by kernel_rfl) (TK.struct_of (by kernel_rfl)) (by kernel_rfl) (by intro k h; cases h) (fun h => by cases h)
def ti85 : TI := ⟨3, true, 40, [.int .i64 0, .slice none 0 0, .map none], (.struct [(0, 1, false), (1, 1, false), (2, 1, false)]), none, false⟩
theorem ti85_ok : TIOK Try.prog 85 ti85 := TIOK.of (by kernel_rfl) (TK.struct_of (by kernel_rfl)) (by kernel_rfl) (by intro k h; cases h) (fun h => by cases h)
def ti87 : TI := ⟨1, true, 24, [.slice none 0 0], (.struct [(0, 1, false)]), some (.seq 3 (.int .i64)), false⟩
theorem ti87_ok : TIOK Try.prog 87 ti87 := TIOK.of (by kernel_rfl) (TK.struct_of (by kernel_rfl)) (by kernel_rfl) (by intro k h; cases h; exact ⟨rfl, rfl, by decide⟩) (fun h => by cases h)
def ti88 : TI := ⟨1, true, 24, [.slice none 0 0], (.struct [(0, 1, false)]), some (.seq 3 (.int .i64)), false⟩
theorem ti88_ok : TIOK Try.prog 88 ti88 := TIOK.of (by kernel_rfl) (TK.struct_of (by kernel_rfl)) (by kernel_rfl) (by intro k h; cases h; exact ⟨rfl, rfl, by decide⟩) (fun h => by cases h)
def ti102 : TI := ⟨1, false, 24, [.slice none 0 0], (.slice 78), some (.seq 78 (.pair (.int .i64) (.pair (.int .i64) (.pair (.int .i64) (.pair (.int .i64) (.pair (.pair (.int .i64) (.pair (.int .i64) (.pair (.int .i64) (.int .i64)))) (.pair (.pair (.int .i64) (.pair (.int .i64) (.pair (.int .i64) (.int .i64)))) (.seq 3 (.int .i64))))))))), false⟩
theorem ti102_ok : TIOK Try.prog 102 ti102 := TIOK.of (by kernel_rfl) ⟨_, by kernel_rfl, rfl⟩ (by kernel_rfl) (by intro k h; cases h; exact ⟨rfl, rfl, by decide⟩) (fun h => by cases h)
def ti111 : TI := ⟨1, false, 8, [.pointer none], (.ptr 78), none, false⟩
theorem ti111_ok : TIOK Try.prog 111 ti111 := TIOK.of (by kernel_rfl) ⟨_, by kernel_rfl, rfl⟩ (by kernel_rfl) (by intro k h; cases h) (fun h => by cases h)
def ti114 : TI := ⟨1, false, 4, [.int .u32 0], (.int .u32), some (.int .u32), false⟩
theorem ti114_ok : TIOK Try.prog 114 ti114 := TIOK.of (by kernel_rfl) ⟨_, by kernel_rfl, rfl⟩ (by kernel_rfl) (by intro k h; cases h; exact ⟨rfl, rfl, by decide⟩) (fun h => by cases h)
def ti117 : TI := ⟨1, false, 8, [.int .u64 0], (.int .u64), some (.int .u64), false⟩
theorem ti117_ok : TIOK Try.prog 117 ti117 := TIOK.of (by kernel_rfl) ⟨_, by kernel_rfl, rfl⟩ (by kernel_rfl) (by intro k h; cases h; exact ⟨rfl, rfl, by decide⟩) (fun h => by cases h)
def ti129 : TI := ⟨1, false, 8, [.pointer none], (.ptr 80), none, false⟩
theorem ti129_ok : TIOK Try.prog 129 ti129 := TIOK.of (by kernel_rfl) ⟨_, by kernel_rfl, rfl⟩ (by kernel_rfl) (by intro k h; cases h) (fun h => by cases h)
def ti133 : TI := ⟨4, true, 40, [.pointer none, .pointer none, .pointer none, .string ByteArray.empty], (.struct [(0, 1, false), (1, 1, false), (2, 1, false), (3, 1, false)]), none, false⟩
theorem ti133_ok : TIOK Try.prog 133 ti133 := TIOK.of (by kernel_rfl) (TK.struct_of (by kernel_rfl)) (by kernel_rfl) (by intro k h; cases h) (fun h => by cases h)
def ti134 : TI := ⟨4, true, 40, [.pointer none, .pointer none, .pointer none, .string ByteArray.empty], (.struct [(0, 1, false), (1, 1, false), (2, 1, false), (3, 1, false)]), none, false⟩
theorem ti134_ok : TIOK Try.prog 134 ti134 := TIOK.of (by kernel_rfl) (TK.struct_of (by kernel_rfl)) (by kernel_rfl) (by intro k h; cases h) (fun h => by cases h)
def ti138 : TI := ⟨1, false, 1, [.int .u8 0], (.int .u8), some (.int .u8), false⟩
theorem ti138_ok : TIOK Try.prog 138 ti138 := TIOK.of (by kernel_rfl) ⟨_, by kernel_rfl, rfl⟩ (by kernel_rfl) (by intro k h; cases h; exact ⟨rfl, rfl, by decide⟩) (fun h => by cases h)
def ti139 : TI := ⟨1, false, 1, [.int .u8 0], (.int .u8), some (.int .u8), false⟩
theorem ti139_ok : TIOK Try.prog 139 ti139 := TIOK.of (by kernel_rfl) ⟨_, by kernel_rfl, rfl⟩ (by kernel_rfl) (by intro k h; cases h; exact ⟨rfl, rfl, by decide⟩) (fun h => by cases h)
def ti141 : TI := ⟨1, false, 8, [.pointer none], (.ptr 5), none, false⟩
theorem ti141_ok : TIOK Try.prog 141 ti141 := TIOK.of (by kernel_rfl) ⟨_, by kernel_rfl, rfl⟩ (by kernel_rfl) (by intro k h; cases h) (fun h => by cases h)
def ti142 : TI := ⟨1, false, 4, [.int .i32 0], (.int .i32), some (.int .i32), false⟩
theorem ti142_ok : TIOK Try.prog 142 ti142 := TIOK.of (by kernel_rfl) ⟨_, by kernel_rfl, rfl⟩ (by kernel_rfl) (by intro k h; cases h; exact ⟨rfl, rfl, by decide⟩) (fun h => by cases h)
def ti143 : TI := ⟨1, false, 4, [.int .i32 0], (.int .i32), some (.int .i32), false⟩
theorem ti143_ok : TIOK Try.prog 143 ti143 := TIOK.of (by kernel_rfl) ⟨_, by kernel_rfl, rfl⟩ (by kernel_rfl) (by intro k h; cases h; exact ⟨rfl, rfl, by decide⟩) (fun h => by cases h)
def ti144 : TI := ⟨11, true, 48, [.int .u64 0, .int .u64 0, .int .u32 0, .int .u8 0, .int .u8 0, .int .u8 0, .int .u8 0, .nilFunc, .pointer none, .int .i32 0, .int .i32 0], (.struct [(0, 1, false), (1, 1, false), (2, 1, false), (3, 1, false), (4, 1, false), (5, 1, false), (6, 1, false), (7, 1, false), (8, 1, false), (9, 1, false), (10, 1, false)]), none, false⟩
theorem ti144_ok : TIOK Try.prog 144 ti144 := TIOK.of (by kernel_rfl) (TK.struct_of (by kernel_rfl)) (by kernel_rfl) (by intro k h; cases h) (fun h => by cases h)
def ti145 : TI := ⟨11, true, 48, [.int .u64 0, .int .u64 0, .int .u32 0, .int .u8 0, .int .u8 0, .int .u8 0, .int .u8 0, .nilFunc, .pointer none, .int .i32 0, .int .i32 0], (.struct [(0, 1, false), (1, 1, false), (2, 1, false), (3, 1, false), (4, 1, false), (5, 1, false), (6, 1, false), (7, 1, false), (8, 1, false), (9, 1, false), (10, 1, false)]), none, false⟩
theorem ti145_ok : TIOK Try.prog 145 ti145 := TIOK.of (by kernel_rfl) (TK.struct_of (by kernel_rfl)) (by kernel_rfl) (by intro k h; cases h) (fun h => by cases h)
def TT : List (TypeId × TI) := [(2, ti2), (3, ti3), (4, ti4), (5, ti5), (6, ti6), (7, ti7), (8, ti8), (9, ti9), (10, ti10), (11, ti11), (12, ti12), (13, ti13), (14, ti14), (15, ti15), (16, ti16), (17, ti17), (18, ti18), (19, ti19), (21, ti21), (22, ti22), (23, ti23), (24, ti24), (27, ti27), (37, ti37), (38, ti38), (41, ti41), (42, ti42), (43, ti43), (46, ti46), (52, ti52), (53, ti53), (56, ti56), (57, ti57), (60, ti60), (61, ti61), (74, ti74), (75, ti75), (77, ti77), (78, ti78), (79, ti79), (80, ti80), (83, ti83), (84, ti84), (85, ti85), (87, ti87), (88, ti88), (102, ti102), (111, ti111), (114, ti114), (117, ti117), (129, ti129), (133, ti133), (134, ti134), (138, ti138), (139, ti139), (141, ti141), (142, ti142), (143, ti143), (144, ti144), (145, ti145)]
theorem TT_ok : TOK Try.prog TT := TOK.cons ti2_ok (TOK.cons ti3_ok (TOK.cons ti4_ok (TOK.cons ti5_ok (TOK.cons ti6_ok (TOK.cons ti7_ok (TOK.cons ti8_ok (TOK.cons ti9_ok (TOK.cons ti10_ok (TOK.cons ti11_ok (TOK.cons ti12_ok (TOK.cons ti13_ok (TOK.cons ti14_ok (TOK.cons ti15_ok (TOK.cons ti16_ok (TOK.cons ti17_ok (TOK.cons ti18_ok (TOK.cons ti19_ok (TOK.cons ti21_ok (TOK.cons ti22_ok (TOK.cons ti23_ok (TOK.cons ti24_ok (TOK.cons ti27_ok (TOK.cons ti37_ok (TOK.cons ti38_ok (TOK.cons ti41_ok (TOK.cons ti42_ok (TOK.cons ti43_ok (TOK.cons ti46_ok (TOK.cons ti52_ok (TOK.cons ti53_ok (TOK.cons ti56_ok (TOK.cons ti57_ok (TOK.cons ti60_ok (TOK.cons ti61_ok (TOK.cons ti74_ok (TOK.cons ti75_ok (TOK.cons ti77_ok (TOK.cons ti78_ok (TOK.cons ti79_ok (TOK.cons ti80_ok (TOK.cons ti83_ok (TOK.cons ti84_ok (TOK.cons ti85_ok (TOK.cons ti87_ok (TOK.cons ti88_ok (TOK.cons ti102_ok (TOK.cons ti111_ok (TOK.cons ti114_ok (TOK.cons ti117_ok (TOK.cons ti129_ok (TOK.cons ti133_ok (TOK.cons ti134_ok (TOK.cons ti138_ok (TOK.cons ti139_ok (TOK.cons ti141_ok (TOK.cons ti142_ok (TOK.cons ti143_ok (TOK.cons ti144_ok (TOK.cons ti145_ok (TOK.nil))))))))))))))))))))))))))))))))))))))))))))))))))))))))))))
theorem ov91_ok : OvOK Try.prog 91 := OvOK.of (fn := Try.f91) (tS := 60) (tR := 4) (e := 80) (sz := 15) Try.func91 rfl rfl rfl rfl (by kernel_rfl) (by kernel_rfl)
def OVS : List FuncId := [91]
theorem OVS_ok : ∀ f ∈ OVS, OvOK Try.prog f := OVOK.cons ov91_ok (OVOK.nil)
theorem mixed : Try.prog.follows .mixedOrders = true := by kernel_rfl
end Go.Proofs.Ytoffmcfaeolcjaa
