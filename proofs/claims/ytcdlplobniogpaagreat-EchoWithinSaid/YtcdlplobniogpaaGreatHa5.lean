/- The types of the translation, for the framework. Printed by gen_types.py. -/
import Derived.Test.YtcdlplobniogpaaGreatHa4
import Derived.Test.YtcdlplobniogpaaGreatProg
import Derived.WalkKit
set_option linter.unusedVariables false
set_option linter.unusedSimpArgs false
namespace Go.Proofs.YtcdlplobniogpaaGreat
open Go Go.V
theorem ty1 : TyOK Tryz.prog 1 ⟨.sc, [.nilFunc], 8⟩ := .mk' (z := .nilFunc) (by kernel_rfl) rfl Tryz.underlying1 trivial
theorem ty2 : TyOK Tryz.prog 2 ⟨.int .i64, [.int .i64 0], 8⟩ := .mk' (z := .int .i64 0) (by kernel_rfl) rfl Tryz.underlying2 rfl
theorem ty3 : TyOK Tryz.prog 3 ⟨.int .i64, [.int .i64 0], 8⟩ := .mk' (z := .int .i64 0) (by kernel_rfl) rfl Tryz.underlying3 rfl
theorem ty4 : TyOK Tryz.prog 4 ⟨.bool, [.bool false], 1⟩ := .mk' (z := .bool false) (by kernel_rfl) rfl Tryz.underlying4 rfl
theorem ty5 : TyOK Tryz.prog 5 ⟨.int .u8, [.int .u8 0], 1⟩ := .mk' (z := .int .u8 0) (by kernel_rfl) rfl Tryz.underlying5 rfl
theorem ty6 : TyOK Tryz.prog 6 ⟨.int .u8, [.int .u8 0], 1⟩ := .mk' (z := .int .u8 0) (by kernel_rfl) rfl Tryz.underlying6 rfl
theorem ty7 : TyOK Tryz.prog 7 ⟨.st [(0, 2), (1, 3), (2, 4), (3, 6)], [.int .i64 0, .int .i64 0, .bool false, .int .u8 0], 24⟩ := .mk' (z := .agg #[.int .i64 0, .int .i64 0, .bool false, .int .u8 0]) (by kernel_rfl) rfl Tryz.underlying7 ⟨_, rfl, rfl⟩
theorem ty8 : TyOK Tryz.prog 8 ⟨.st [(0, 2), (1, 3), (2, 4), (3, 6)], [.int .i64 0, .int .i64 0, .bool false, .int .u8 0], 24⟩ := .mk' (z := .agg #[.int .i64 0, .int .i64 0, .bool false, .int .u8 0]) (by kernel_rfl) rfl Tryz.underlying8 ⟨_, rfl, rfl⟩
theorem ty9 : TyOK Tryz.prog 9 ⟨.sc, [.string ByteArray.empty], 16⟩ := .mk' (z := .string ByteArray.empty) (by kernel_rfl) rfl Tryz.underlying9 trivial
theorem ty10 : TyOK Tryz.prog 10 ⟨.sc, [.string ByteArray.empty], 16⟩ := .mk' (z := .string ByteArray.empty) (by kernel_rfl) rfl Tryz.underlying10 trivial
theorem ty11 : TyOK Tryz.prog 11 ⟨.sc, [.string ByteArray.empty], 16⟩ := .mk' (z := .string ByteArray.empty) (by kernel_rfl) rfl Tryz.underlying11 trivial
theorem ty12 : TyOK Tryz.prog 12 ⟨.int .u64, [.int .u64 0], 8⟩ := .mk' (z := .int .u64 0) (by kernel_rfl) rfl Tryz.underlying12 rfl
theorem ty13 : TyOK Tryz.prog 13 ⟨.st [(0, 9), (1, 12)], [.string ByteArray.empty, .int .u64 0], 24⟩ := .mk' (z := .agg #[.string ByteArray.empty, .int .u64 0]) (by kernel_rfl) rfl Tryz.underlying13 ⟨_, rfl, rfl⟩
theorem ty14 : TyOK Tryz.prog 14 ⟨.st [(0, 9), (1, 12)], [.string ByteArray.empty, .int .u64 0], 24⟩ := .mk' (z := .agg #[.string ByteArray.empty, .int .u64 0]) (by kernel_rfl) rfl Tryz.underlying14 ⟨_, rfl, rfl⟩
theorem ty15 : TyOK Tryz.prog 15 ⟨.sc, [.pointer none], 8⟩ := .mk' (z := .pointer none) (by kernel_rfl) rfl Tryz.underlying15 trivial
theorem ty16 : TyOK Tryz.prog 16 ⟨.sc, [.pointer none], 8⟩ := .mk' (z := .pointer none) (by kernel_rfl) rfl Tryz.underlying16 trivial
theorem ty17 : TyOK Tryz.prog 17 ⟨.sc, [.pointer none], 8⟩ := .mk' (z := .pointer none) (by kernel_rfl) rfl Tryz.underlying17 trivial
theorem ty18 : TyOK Tryz.prog 18 ⟨.st [(0, 17)], [.pointer none], 8⟩ := .mk' (z := .agg #[.pointer none]) (by kernel_rfl) rfl Tryz.underlying18 ⟨_, rfl, rfl⟩
theorem ty19 : TyOK Tryz.prog 19 ⟨.st [(0, 17)], [.pointer none], 8⟩ := .mk' (z := .agg #[.pointer none]) (by kernel_rfl) rfl Tryz.underlying19 ⟨_, rfl, rfl⟩
theorem ty21 : TyOK Tryz.prog 21 ⟨.int .i32, [.int .i32 0], 4⟩ := .mk' (z := .int .i32 0) (by kernel_rfl) rfl Tryz.underlying21 rfl
theorem ty22 : TyOK Tryz.prog 22 ⟨.sl 75, [.slice none 0 0], 24⟩ := .mk' (z := .slice none 0 0) (by kernel_rfl) rfl Tryz.underlying22 rfl
theorem ty23 : TyOK Tryz.prog 23 ⟨.sl 128, [.slice none 0 0], 24⟩ := .mk' (z := .slice none 0 0) (by kernel_rfl) rfl Tryz.underlying23 rfl
theorem ty24 : TyOK Tryz.prog 24 ⟨.sl 95, [.slice none 0 0], 24⟩ := .mk' (z := .slice none 0 0) (by kernel_rfl) rfl Tryz.underlying24 rfl
theorem ty25 : TyOK Tryz.prog 25 ⟨.st [(0, 3), (1, 3), (2, 3), (3, 3), (4, 3), (5, 3), (6, 22), (7, 23), (8, 24)], [.int .i64 0, .int .i64 0, .int .i64 0, .int .i64 0, .int .i64 0, .int .i64 0, .slice none 0 0, .slice none 0 0, .slice none 0 0], 120⟩ := .mk' (z := .agg #[.int .i64 0, .int .i64 0, .int .i64 0, .int .i64 0, .int .i64 0, .int .i64 0, .slice none 0 0, .slice none 0 0, .slice none 0 0]) (by kernel_rfl) rfl Tryz.underlying25 ⟨_, rfl, rfl⟩
theorem ty26 : TyOK Tryz.prog 26 ⟨.st [(0, 3), (1, 3), (2, 3), (3, 3), (4, 3), (5, 3), (6, 22), (7, 23), (8, 24)], [.int .i64 0, .int .i64 0, .int .i64 0, .int .i64 0, .int .i64 0, .int .i64 0, .slice none 0 0, .slice none 0 0, .slice none 0 0], 120⟩ := .mk' (z := .agg #[.int .i64 0, .int .i64 0, .int .i64 0, .int .i64 0, .int .i64 0, .int .i64 0, .slice none 0 0, .slice none 0 0, .slice none 0 0]) (by kernel_rfl) rfl Tryz.underlying26 ⟨_, rfl, rfl⟩
theorem ty27 : TyOK Tryz.prog 27 ⟨.sl 64, [.slice none 0 0], 24⟩ := .mk' (z := .slice none 0 0) (by kernel_rfl) rfl Tryz.underlying27 rfl
theorem ty28 : TyOK Tryz.prog 28 ⟨.st [(0, 3), (1, 3)], [.int .i64 0, .int .i64 0], 16⟩ := .mk' (z := .agg #[.int .i64 0, .int .i64 0]) (by kernel_rfl) rfl Tryz.underlying28 ⟨_, rfl, rfl⟩
theorem ty29 : TyOK Tryz.prog 29 ⟨.st [(0, 3), (1, 3)], [.int .i64 0, .int .i64 0], 16⟩ := .mk' (z := .agg #[.int .i64 0, .int .i64 0]) (by kernel_rfl) rfl Tryz.underlying29 ⟨_, rfl, rfl⟩
theorem ty30 : TyOK Tryz.prog 30 ⟨.sl 3, [.slice none 0 0], 24⟩ := .mk' (z := .slice none 0 0) (by kernel_rfl) rfl Tryz.underlying30 rfl
theorem ty31 : TyOK Tryz.prog 31 ⟨.sc, [.nilFunc], 8⟩ := .mk' (z := .nilFunc) (by kernel_rfl) rfl Tryz.underlying31 trivial
theorem ty32 : TyOK Tryz.prog 32 ⟨.sc, [.nilFunc], 8⟩ := .mk' (z := .nilFunc) (by kernel_rfl) rfl Tryz.underlying32 trivial
theorem ty33 : TyOK Tryz.prog 33 ⟨.int .i64, [.int .i64 0], 8⟩ := .mk' (z := .int .i64 0) (by kernel_rfl) rfl Tryz.underlying33 rfl
theorem ty35 : TyOK Tryz.prog 35 ⟨.sc, [.nilFunc], 8⟩ := .mk' (z := .nilFunc) (by kernel_rfl) rfl Tryz.underlying35 trivial
theorem ty37 : TyOK Tryz.prog 37 ⟨.sc, [.nilFunc], 8⟩ := .mk' (z := .nilFunc) (by kernel_rfl) rfl Tryz.underlying37 trivial
theorem ty38 : TyOK Tryz.prog 38 ⟨.sc, [.nilFunc], 8⟩ := .mk' (z := .nilFunc) (by kernel_rfl) rfl Tryz.underlying38 trivial
theorem ty40 : TyOK Tryz.prog 40 ⟨.sc, [.nilFunc], 8⟩ := .mk' (z := .nilFunc) (by kernel_rfl) rfl Tryz.underlying40 trivial
theorem ty41 : TyOK Tryz.prog 41 ⟨.sc, [.nilFunc], 8⟩ := .mk' (z := .nilFunc) (by kernel_rfl) rfl Tryz.underlying41 trivial
theorem ty42 : TyOK Tryz.prog 42 ⟨.sc, [.nilFunc], 8⟩ := .mk' (z := .nilFunc) (by kernel_rfl) rfl Tryz.underlying42 trivial
theorem ty43 : TyOK Tryz.prog 43 ⟨.st [(0, 3), (1, 3)], [.int .i64 0, .int .i64 0], 16⟩ := .mk' (z := .agg #[.int .i64 0, .int .i64 0]) (by kernel_rfl) rfl Tryz.underlying43 ⟨_, rfl, rfl⟩
theorem ty44 : TyOK Tryz.prog 44 ⟨.st [(0, 3), (1, 3)], [.int .i64 0, .int .i64 0], 16⟩ := .mk' (z := .agg #[.int .i64 0, .int .i64 0]) (by kernel_rfl) rfl Tryz.underlying44 ⟨_, rfl, rfl⟩
theorem ty45 : TyOK Tryz.prog 45 ⟨.sc, [.nilFunc], 8⟩ := .mk' (z := .nilFunc) (by kernel_rfl) rfl Tryz.underlying45 trivial
theorem ty46 : TyOK Tryz.prog 46 ⟨.sc, [.nilFunc], 8⟩ := .mk' (z := .nilFunc) (by kernel_rfl) rfl Tryz.underlying46 trivial
theorem ty47 : TyOK Tryz.prog 47 ⟨.sc, [.nilFunc], 8⟩ := .mk' (z := .nilFunc) (by kernel_rfl) rfl Tryz.underlying47 trivial
theorem ty48 : TyOK Tryz.prog 48 ⟨.sc, [.nilFunc], 8⟩ := .mk' (z := .nilFunc) (by kernel_rfl) rfl Tryz.underlying48 trivial
theorem ty49 : TyOK Tryz.prog 49 ⟨.sc, [.nilFunc], 8⟩ := .mk' (z := .nilFunc) (by kernel_rfl) rfl Tryz.underlying49 trivial
theorem ty50 : TyOK Tryz.prog 50 ⟨.sc, [.nilFunc], 8⟩ := .mk' (z := .nilFunc) (by kernel_rfl) rfl Tryz.underlying50 trivial
theorem ty51 : TyOK Tryz.prog 51 ⟨.sc, [.nilFunc], 8⟩ := .mk' (z := .nilFunc) (by kernel_rfl) rfl Tryz.underlying51 trivial
theorem ty52 : TyOK Tryz.prog 52 ⟨.sl 5, [.slice none 0 0], 24⟩ := .mk' (z := .slice none 0 0) (by kernel_rfl) rfl Tryz.underlying52 rfl
theorem ty54 : TyOK Tryz.prog 54 ⟨.sc, [.nilFunc], 8⟩ := .mk' (z := .nilFunc) (by kernel_rfl) rfl Tryz.underlying54 trivial
theorem ty55 : TyOK Tryz.prog 55 ⟨.sc, [.nilFunc], 8⟩ := .mk' (z := .nilFunc) (by kernel_rfl) rfl Tryz.underlying55 trivial
theorem ty56 : TyOK Tryz.prog 56 ⟨.int .u16, [.int .u16 0], 2⟩ := .mk' (z := .int .u16 0) (by kernel_rfl) rfl Tryz.underlying56 rfl
theorem ty57 : TyOK Tryz.prog 57 ⟨.sc, [.nilFunc], 8⟩ := .mk' (z := .nilFunc) (by kernel_rfl) rfl Tryz.underlying57 trivial
theorem ty58 : TyOK Tryz.prog 58 ⟨.int .i16, [.int .i16 0], 2⟩ := .mk' (z := .int .i16 0) (by kernel_rfl) rfl Tryz.underlying58 rfl
theorem ty59 : TyOK Tryz.prog 59 ⟨.sc, [.nilFunc], 8⟩ := .mk' (z := .nilFunc) (by kernel_rfl) rfl Tryz.underlying59 trivial
theorem ty60 : TyOK Tryz.prog 60 ⟨.sc, [.nilFunc], 8⟩ := .mk' (z := .nilFunc) (by kernel_rfl) rfl Tryz.underlying60 trivial
theorem ty62 : TyOK Tryz.prog 62 ⟨.sc, [.nilFunc], 8⟩ := .mk' (z := .nilFunc) (by kernel_rfl) rfl Tryz.underlying62 trivial
theorem ty63 : TyOK Tryz.prog 63 ⟨.sc, [.nilFunc], 8⟩ := .mk' (z := .nilFunc) (by kernel_rfl) rfl Tryz.underlying63 trivial
theorem ty64 : TyOK Tryz.prog 64 ⟨.sl 44, [.slice none 0 0], 24⟩ := .mk' (z := .slice none 0 0) (by kernel_rfl) rfl Tryz.underlying64 rfl
theorem ty65 : TyOK Tryz.prog 65 ⟨.sc, [.nilFunc], 8⟩ := .mk' (z := .nilFunc) (by kernel_rfl) rfl Tryz.underlying65 trivial
theorem ty66 : TyOK Tryz.prog 66 ⟨.sc, [.pointer none], 8⟩ := .mk' (z := .pointer none) (by kernel_rfl) rfl Tryz.underlying66 trivial
theorem ty68 : TyOK Tryz.prog 68 ⟨.sc, [.nilFunc], 8⟩ := .mk' (z := .nilFunc) (by kernel_rfl) rfl Tryz.underlying68 trivial
theorem ty69 : TyOK Tryz.prog 69 ⟨.sc, [.nilFunc], 8⟩ := .mk' (z := .nilFunc) (by kernel_rfl) rfl Tryz.underlying69 trivial
theorem ty70 : TyOK Tryz.prog 70 ⟨.st [(0, 26), (9, 69), (10, 27)], [.int .i64 0, .int .i64 0, .int .i64 0, .int .i64 0, .int .i64 0, .int .i64 0, .slice none 0 0, .slice none 0 0, .slice none 0 0, .nilFunc, .slice none 0 0], 152⟩ := .mk' (z := .agg #[.int .i64 0, .int .i64 0, .int .i64 0, .int .i64 0, .int .i64 0, .int .i64 0, .slice none 0 0, .slice none 0 0, .slice none 0 0, .nilFunc, .slice none 0 0]) (by kernel_rfl) rfl Tryz.underlying70 ⟨_, rfl, rfl⟩
theorem ty71 : TyOK Tryz.prog 71 ⟨.st [(0, 26), (9, 69), (10, 27)], [.int .i64 0, .int .i64 0, .int .i64 0, .int .i64 0, .int .i64 0, .int .i64 0, .slice none 0 0, .slice none 0 0, .slice none 0 0, .nilFunc, .slice none 0 0], 152⟩ := .mk' (z := .agg #[.int .i64 0, .int .i64 0, .int .i64 0, .int .i64 0, .int .i64 0, .int .i64 0, .slice none 0 0, .slice none 0 0, .slice none 0 0, .nilFunc, .slice none 0 0]) (by kernel_rfl) rfl Tryz.underlying71 ⟨_, rfl, rfl⟩
theorem ty72 : TyOK Tryz.prog 72 ⟨.sc, [.nilFunc], 8⟩ := .mk' (z := .nilFunc) (by kernel_rfl) rfl Tryz.underlying72 trivial
theorem ty73 : TyOK Tryz.prog 73 ⟨.sc, [.nilFunc], 8⟩ := .mk' (z := .nilFunc) (by kernel_rfl) rfl Tryz.underlying73 trivial
theorem ty74 : TyOK Tryz.prog 74 ⟨.st [(0, 29), (2, 3), (3, 4)], [.int .i64 0, .int .i64 0, .int .i64 0, .bool false], 32⟩ := .mk' (z := .agg #[.int .i64 0, .int .i64 0, .int .i64 0, .bool false]) (by kernel_rfl) rfl Tryz.underlying74 ⟨_, rfl, rfl⟩
theorem ty75 : TyOK Tryz.prog 75 ⟨.st [(0, 29), (2, 3), (3, 4)], [.int .i64 0, .int .i64 0, .int .i64 0, .bool false], 32⟩ := .mk' (z := .agg #[.int .i64 0, .int .i64 0, .int .i64 0, .bool false]) (by kernel_rfl) rfl Tryz.underlying75 ⟨_, rfl, rfl⟩
theorem ty76 : TyOK Tryz.prog 76 ⟨.sc, [.nilFunc], 8⟩ := .mk' (z := .nilFunc) (by kernel_rfl) rfl Tryz.underlying76 trivial
theorem ty77 : TyOK Tryz.prog 77 ⟨.sc, [.nilFunc], 8⟩ := .mk' (z := .nilFunc) (by kernel_rfl) rfl Tryz.underlying77 trivial
theorem ty78 : TyOK Tryz.prog 78 ⟨.sc, [.nilFunc], 8⟩ := .mk' (z := .nilFunc) (by kernel_rfl) rfl Tryz.underlying78 trivial
theorem ty79 : TyOK Tryz.prog 79 ⟨.sc, [.nilFunc], 8⟩ := .mk' (z := .nilFunc) (by kernel_rfl) rfl Tryz.underlying79 trivial
theorem ty80 : TyOK Tryz.prog 80 ⟨.sc, [.nilFunc], 8⟩ := .mk' (z := .nilFunc) (by kernel_rfl) rfl Tryz.underlying80 trivial
theorem ty81 : TyOK Tryz.prog 81 ⟨.sc, [.nilFunc], 8⟩ := .mk' (z := .nilFunc) (by kernel_rfl) rfl Tryz.underlying81 trivial
theorem ty82 : TyOK Tryz.prog 82 ⟨.sc, [.nilFunc], 8⟩ := .mk' (z := .nilFunc) (by kernel_rfl) rfl Tryz.underlying82 trivial
theorem ty83 : TyOK Tryz.prog 83 ⟨.sc, [.nilFunc], 8⟩ := .mk' (z := .nilFunc) (by kernel_rfl) rfl Tryz.underlying83 trivial
theorem ty84 : TyOK Tryz.prog 84 ⟨.sc, [.nilFunc], 8⟩ := .mk' (z := .nilFunc) (by kernel_rfl) rfl Tryz.underlying84 trivial
theorem ty85 : TyOK Tryz.prog 85 ⟨.sc, [.nilFunc], 8⟩ := .mk' (z := .nilFunc) (by kernel_rfl) rfl Tryz.underlying85 trivial
theorem ty86 : TyOK Tryz.prog 86 ⟨.sc, [.nilFunc], 8⟩ := .mk' (z := .nilFunc) (by kernel_rfl) rfl Tryz.underlying86 trivial
theorem ty87 : TyOK Tryz.prog 87 ⟨.sc, [.nilFunc], 8⟩ := .mk' (z := .nilFunc) (by kernel_rfl) rfl Tryz.underlying87 trivial
theorem ty89 : TyOK Tryz.prog 89 ⟨.sc, [.nilFunc], 8⟩ := .mk' (z := .nilFunc) (by kernel_rfl) rfl Tryz.underlying89 trivial
theorem ty90 : TyOK Tryz.prog 90 ⟨.sc, [.nilFunc], 8⟩ := .mk' (z := .nilFunc) (by kernel_rfl) rfl Tryz.underlying90 trivial
theorem ty91 : TyOK Tryz.prog 91 ⟨.sc, [.nilFunc], 8⟩ := .mk' (z := .nilFunc) (by kernel_rfl) rfl Tryz.underlying91 trivial
theorem ty93 : TyOK Tryz.prog 93 ⟨.sc, [.nilFunc], 8⟩ := .mk' (z := .nilFunc) (by kernel_rfl) rfl Tryz.underlying93 trivial
theorem ty94 : TyOK Tryz.prog 94 ⟨.st [(0, 3), (1, 64)], [.int .i64 0, .slice none 0 0], 32⟩ := .mk' (z := .agg #[.int .i64 0, .slice none 0 0]) (by kernel_rfl) rfl Tryz.underlying94 ⟨_, rfl, rfl⟩
theorem ty95 : TyOK Tryz.prog 95 ⟨.st [(0, 3), (1, 64)], [.int .i64 0, .slice none 0 0], 32⟩ := .mk' (z := .agg #[.int .i64 0, .slice none 0 0]) (by kernel_rfl) rfl Tryz.underlying95 ⟨_, rfl, rfl⟩
theorem ty96 : TyOK Tryz.prog 96 ⟨.sc, [.nilFunc], 8⟩ := .mk' (z := .nilFunc) (by kernel_rfl) rfl Tryz.underlying96 trivial
theorem ty97 : TyOK Tryz.prog 97 ⟨.sc, [.nilFunc], 8⟩ := .mk' (z := .nilFunc) (by kernel_rfl) rfl Tryz.underlying97 trivial
theorem ty99 : TyOK Tryz.prog 99 ⟨.sc, [.nilFunc], 8⟩ := .mk' (z := .nilFunc) (by kernel_rfl) rfl Tryz.underlying99 trivial
theorem ty100 : TyOK Tryz.prog 100 ⟨.sc, [.nilFunc], 8⟩ := .mk' (z := .nilFunc) (by kernel_rfl) rfl Tryz.underlying100 trivial
theorem ty101 : TyOK Tryz.prog 101 ⟨.sc, [.nilFunc], 8⟩ := .mk' (z := .nilFunc) (by kernel_rfl) rfl Tryz.underlying101 trivial
theorem ty102 : TyOK Tryz.prog 102 ⟨.sc, [.nilFunc], 8⟩ := .mk' (z := .nilFunc) (by kernel_rfl) rfl Tryz.underlying102 trivial
theorem ty103 : TyOK Tryz.prog 103 ⟨.int .u64, [.int .u64 0], 8⟩ := .mk' (z := .int .u64 0) (by kernel_rfl) rfl Tryz.underlying103 rfl
theorem ty104 : TyOK Tryz.prog 104 ⟨.sc, [.nilFunc], 8⟩ := .mk' (z := .nilFunc) (by kernel_rfl) rfl Tryz.underlying104 trivial
theorem ty105 : TyOK Tryz.prog 105 ⟨.sc, [.nilFunc], 8⟩ := .mk' (z := .nilFunc) (by kernel_rfl) rfl Tryz.underlying105 trivial
theorem ty106 : TyOK Tryz.prog 106 ⟨.sc, [.nilFunc], 8⟩ := .mk' (z := .nilFunc) (by kernel_rfl) rfl Tryz.underlying106 trivial
theorem ty107 : TyOK Tryz.prog 107 ⟨.sc, [.nilFunc], 8⟩ := .mk' (z := .nilFunc) (by kernel_rfl) rfl Tryz.underlying107 trivial
theorem ty108 : TyOK Tryz.prog 108 ⟨.sc, [.nilFunc], 8⟩ := .mk' (z := .nilFunc) (by kernel_rfl) rfl Tryz.underlying108 trivial
theorem ty109 : TyOK Tryz.prog 109 ⟨.sc, [.nilFunc], 8⟩ := .mk' (z := .nilFunc) (by kernel_rfl) rfl Tryz.underlying109 trivial
theorem ty110 : TyOK Tryz.prog 110 ⟨.sc, [.nilFunc], 8⟩ := .mk' (z := .nilFunc) (by kernel_rfl) rfl Tryz.underlying110 trivial
theorem ty111 : TyOK Tryz.prog 111 ⟨.sc, [.nilFunc], 8⟩ := .mk' (z := .nilFunc) (by kernel_rfl) rfl Tryz.underlying111 trivial
theorem ty112 : TyOK Tryz.prog 112 ⟨.sc, [.nilFunc], 8⟩ := .mk' (z := .nilFunc) (by kernel_rfl) rfl Tryz.underlying112 trivial
theorem ty113 : TyOK Tryz.prog 113 ⟨.sc, [.nilFunc], 8⟩ := .mk' (z := .nilFunc) (by kernel_rfl) rfl Tryz.underlying113 trivial
theorem ty114 : TyOK Tryz.prog 114 ⟨.sc, [.nilFunc], 8⟩ := .mk' (z := .nilFunc) (by kernel_rfl) rfl Tryz.underlying114 trivial
theorem ty115 : TyOK Tryz.prog 115 ⟨.sc, [.nilFunc], 8⟩ := .mk' (z := .nilFunc) (by kernel_rfl) rfl Tryz.underlying115 trivial
theorem ty116 : TyOK Tryz.prog 116 ⟨.sc, [.nilFunc], 8⟩ := .mk' (z := .nilFunc) (by kernel_rfl) rfl Tryz.underlying116 trivial
theorem ty117 : TyOK Tryz.prog 117 ⟨.sc, [.nilFunc], 8⟩ := .mk' (z := .nilFunc) (by kernel_rfl) rfl Tryz.underlying117 trivial
theorem ty118 : TyOK Tryz.prog 118 ⟨.st [(0, 27)], [.slice none 0 0], 24⟩ := .mk' (z := .agg #[.slice none 0 0]) (by kernel_rfl) rfl Tryz.underlying118 ⟨_, rfl, rfl⟩
theorem ty119 : TyOK Tryz.prog 119 ⟨.st [(0, 27)], [.slice none 0 0], 24⟩ := .mk' (z := .agg #[.slice none 0 0]) (by kernel_rfl) rfl Tryz.underlying119 ⟨_, rfl, rfl⟩
theorem ty120 : TyOK Tryz.prog 120 ⟨.st [(0, 119)], [.slice none 0 0], 24⟩ := .mk' (z := .agg #[.slice none 0 0]) (by kernel_rfl) rfl Tryz.underlying120 ⟨_, rfl, rfl⟩
theorem ty121 : TyOK Tryz.prog 121 ⟨.st [(0, 119)], [.slice none 0 0], 24⟩ := .mk' (z := .agg #[.slice none 0 0]) (by kernel_rfl) rfl Tryz.underlying121 ⟨_, rfl, rfl⟩
theorem ty122 : TyOK Tryz.prog 122 ⟨.sc, [.nilFunc], 8⟩ := .mk' (z := .nilFunc) (by kernel_rfl) rfl Tryz.underlying122 trivial
theorem ty124 : TyOK Tryz.prog 124 ⟨.sc, [.nilFunc], 8⟩ := .mk' (z := .nilFunc) (by kernel_rfl) rfl Tryz.underlying124 trivial
theorem ty125 : TyOK Tryz.prog 125 ⟨.sc, [.nilFunc], 8⟩ := .mk' (z := .nilFunc) (by kernel_rfl) rfl Tryz.underlying125 trivial
theorem ty126 : TyOK Tryz.prog 126 ⟨.sc, [.nilFunc], 8⟩ := .mk' (z := .nilFunc) (by kernel_rfl) rfl Tryz.underlying126 trivial
theorem ty127 : TyOK Tryz.prog 127 ⟨.st [(0, 3), (1, 44)], [.int .i64 0, .int .i64 0, .int .i64 0], 24⟩ := .mk' (z := .agg #[.int .i64 0, .int .i64 0, .int .i64 0]) (by kernel_rfl) rfl Tryz.underlying127 ⟨_, rfl, rfl⟩
theorem ty128 : TyOK Tryz.prog 128 ⟨.st [(0, 3), (1, 44)], [.int .i64 0, .int .i64 0, .int .i64 0], 24⟩ := .mk' (z := .agg #[.int .i64 0, .int .i64 0, .int .i64 0]) (by kernel_rfl) rfl Tryz.underlying128 ⟨_, rfl, rfl⟩
theorem ty129 : TyOK Tryz.prog 129 ⟨.sc, [.nilFunc], 8⟩ := .mk' (z := .nilFunc) (by kernel_rfl) rfl Tryz.underlying129 trivial
theorem ty130 : TyOK Tryz.prog 130 ⟨.sc, [.nilFunc], 8⟩ := .mk' (z := .nilFunc) (by kernel_rfl) rfl Tryz.underlying130 trivial
theorem ty131 : TyOK Tryz.prog 131 ⟨.sc, [.nilFunc], 8⟩ := .mk' (z := .nilFunc) (by kernel_rfl) rfl Tryz.underlying131 trivial
theorem ty132 : TyOK Tryz.prog 132 ⟨.sc, [.nilFunc], 8⟩ := .mk' (z := .nilFunc) (by kernel_rfl) rfl Tryz.underlying132 trivial
theorem ty133 : TyOK Tryz.prog 133 ⟨.sc, [.nilFunc], 8⟩ := .mk' (z := .nilFunc) (by kernel_rfl) rfl Tryz.underlying133 trivial
theorem ty134 : TyOK Tryz.prog 134 ⟨.sc, [.nilFunc], 8⟩ := .mk' (z := .nilFunc) (by kernel_rfl) rfl Tryz.underlying134 trivial
theorem ty135 : TyOK Tryz.prog 135 ⟨.sc, [.nilFunc], 8⟩ := .mk' (z := .nilFunc) (by kernel_rfl) rfl Tryz.underlying135 trivial
theorem ty136 : TyOK Tryz.prog 136 ⟨.sc, [.nilFunc], 8⟩ := .mk' (z := .nilFunc) (by kernel_rfl) rfl Tryz.underlying136 trivial
theorem ty137 : TyOK Tryz.prog 137 ⟨.sc, [.nilFunc], 8⟩ := .mk' (z := .nilFunc) (by kernel_rfl) rfl Tryz.underlying137 trivial
theorem ty139 : TyOK Tryz.prog 139 ⟨.sc, [.nilFunc], 8⟩ := .mk' (z := .nilFunc) (by kernel_rfl) rfl Tryz.underlying139 trivial
theorem ty140 : TyOK Tryz.prog 140 ⟨.sc, [.nilFunc], 8⟩ := .mk' (z := .nilFunc) (by kernel_rfl) rfl Tryz.underlying140 trivial
theorem ty142 : TyOK Tryz.prog 142 ⟨.sc, [.nilFunc], 8⟩ := .mk' (z := .nilFunc) (by kernel_rfl) rfl Tryz.underlying142 trivial
theorem ty143 : TyOK Tryz.prog 143 ⟨.sc, [.nilFunc], 8⟩ := .mk' (z := .nilFunc) (by kernel_rfl) rfl Tryz.underlying143 trivial
theorem ty144 : TyOK Tryz.prog 144 ⟨.int .i64, [.int .i64 0], 8⟩ := .mk' (z := .int .i64 0) (by kernel_rfl) rfl Tryz.underlying144 rfl
theorem ty146 : TyOK Tryz.prog 146 ⟨.sc, [.nilFunc], 8⟩ := .mk' (z := .nilFunc) (by kernel_rfl) rfl Tryz.underlying146 trivial
theorem ty147 : TyOK Tryz.prog 147 ⟨.sc, [.nilFunc], 8⟩ := .mk' (z := .nilFunc) (by kernel_rfl) rfl Tryz.underlying147 trivial
theorem ty148 : TyOK Tryz.prog 148 ⟨.sc, [.nilFunc], 8⟩ := .mk' (z := .nilFunc) (by kernel_rfl) rfl Tryz.underlying148 trivial
theorem ty149 : TyOK Tryz.prog 149 ⟨.sc, [.nilFunc], 8⟩ := .mk' (z := .nilFunc) (by kernel_rfl) rfl Tryz.underlying149 trivial
theorem ty151 : TyOK Tryz.prog 151 ⟨.sc, [.nilFunc], 8⟩ := .mk' (z := .nilFunc) (by kernel_rfl) rfl Tryz.underlying151 trivial
theorem ty152 : TyOK Tryz.prog 152 ⟨.sc, [.nilFunc], 8⟩ := .mk' (z := .nilFunc) (by kernel_rfl) rfl Tryz.underlying152 trivial
theorem ty153 : TyOK Tryz.prog 153 ⟨.int .u32, [.int .u32 0], 4⟩ := .mk' (z := .int .u32 0) (by kernel_rfl) rfl Tryz.underlying153 rfl
theorem ty154 : TyOK Tryz.prog 154 ⟨.sc, [.nilFunc], 8⟩ := .mk' (z := .nilFunc) (by kernel_rfl) rfl Tryz.underlying154 trivial
theorem ty155 : TyOK Tryz.prog 155 ⟨.int .u64, [.int .u64 0], 8⟩ := .mk' (z := .int .u64 0) (by kernel_rfl) rfl Tryz.underlying155 rfl
theorem ty156 : TyOK Tryz.prog 156 ⟨.sc, [.nilFunc], 8⟩ := .mk' (z := .nilFunc) (by kernel_rfl) rfl Tryz.underlying156 trivial
theorem ty157 : TyOK Tryz.prog 157 ⟨.sc, [.nilFunc], 8⟩ := .mk' (z := .nilFunc) (by kernel_rfl) rfl Tryz.underlying157 trivial
theorem ty158 : TyOK Tryz.prog 158 ⟨.sc, [.nilFunc], 8⟩ := .mk' (z := .nilFunc) (by kernel_rfl) rfl Tryz.underlying158 trivial
theorem ty159 : TyOK Tryz.prog 159 ⟨.sc, [.nilFunc], 8⟩ := .mk' (z := .nilFunc) (by kernel_rfl) rfl Tryz.underlying159 trivial
theorem ty160 : TyOK Tryz.prog 160 ⟨.sc, [.nilFunc], 8⟩ := .mk' (z := .nilFunc) (by kernel_rfl) rfl Tryz.underlying160 trivial
theorem ty161 : TyOK Tryz.prog 161 ⟨.sc, [.nilFunc], 8⟩ := .mk' (z := .nilFunc) (by kernel_rfl) rfl Tryz.underlying161 trivial
theorem ty162 : TyOK Tryz.prog 162 ⟨.sc, [.nilFunc], 8⟩ := .mk' (z := .nilFunc) (by kernel_rfl) rfl Tryz.underlying162 trivial
theorem ty163 : TyOK Tryz.prog 163 ⟨.st [(0, 3), (1, 3), (2, 3)], [.int .i64 0, .int .i64 0, .int .i64 0], 24⟩ := .mk' (z := .agg #[.int .i64 0, .int .i64 0, .int .i64 0]) (by kernel_rfl) rfl Tryz.underlying163 ⟨_, rfl, rfl⟩
theorem ty164 : TyOK Tryz.prog 164 ⟨.st [(0, 3), (1, 3), (2, 3)], [.int .i64 0, .int .i64 0, .int .i64 0], 24⟩ := .mk' (z := .agg #[.int .i64 0, .int .i64 0, .int .i64 0]) (by kernel_rfl) rfl Tryz.underlying164 ⟨_, rfl, rfl⟩
theorem ty165 : TyOK Tryz.prog 165 ⟨.sc, [.nilFunc], 8⟩ := .mk' (z := .nilFunc) (by kernel_rfl) rfl Tryz.underlying165 trivial
theorem ty166 : TyOK Tryz.prog 166 ⟨.sc, [.nilFunc], 8⟩ := .mk' (z := .nilFunc) (by kernel_rfl) rfl Tryz.underlying166 trivial
theorem ty167 : TyOK Tryz.prog 167 ⟨.sc, [.nilFunc], 8⟩ := .mk' (z := .nilFunc) (by kernel_rfl) rfl Tryz.underlying167 trivial
theorem ty168 : TyOK Tryz.prog 168 ⟨.sc, [.nilFunc], 8⟩ := .mk' (z := .nilFunc) (by kernel_rfl) rfl Tryz.underlying168 trivial
theorem ty169 : TyOK Tryz.prog 169 ⟨.sc, [.nilFunc], 8⟩ := .mk' (z := .nilFunc) (by kernel_rfl) rfl Tryz.underlying169 trivial
theorem ty170 : TyOK Tryz.prog 170 ⟨.sc, [.nilFunc], 8⟩ := .mk' (z := .nilFunc) (by kernel_rfl) rfl Tryz.underlying170 trivial
theorem ty171 : TyOK Tryz.prog 171 ⟨.sc, [.nilFunc], 8⟩ := .mk' (z := .nilFunc) (by kernel_rfl) rfl Tryz.underlying171 trivial
theorem ty172 : TyOK Tryz.prog 172 ⟨.sc, [.nilFunc], 8⟩ := .mk' (z := .nilFunc) (by kernel_rfl) rfl Tryz.underlying172 trivial
theorem ty173 : TyOK Tryz.prog 173 ⟨.sc, [.nilFunc], 8⟩ := .mk' (z := .nilFunc) (by kernel_rfl) rfl Tryz.underlying173 trivial
theorem ty174 : TyOK Tryz.prog 174 ⟨.sc, [.pointer none], 8⟩ := .mk' (z := .pointer none) (by kernel_rfl) rfl Tryz.underlying174 trivial
theorem ty175 : TyOK Tryz.prog 175 ⟨.sc, [.nilFunc], 8⟩ := .mk' (z := .nilFunc) (by kernel_rfl) rfl Tryz.underlying175 trivial
theorem ty176 : TyOK Tryz.prog 176 ⟨.sc, [.nilFunc], 8⟩ := .mk' (z := .nilFunc) (by kernel_rfl) rfl Tryz.underlying176 trivial
theorem ty177 : TyOK Tryz.prog 177 ⟨.sc, [.nilFunc], 8⟩ := .mk' (z := .nilFunc) (by kernel_rfl) rfl Tryz.underlying177 trivial
theorem ty178 : TyOK Tryz.prog 178 ⟨.sc, [.nilFunc], 8⟩ := .mk' (z := .nilFunc) (by kernel_rfl) rfl Tryz.underlying178 trivial
theorem ty179 : TyOK Tryz.prog 179 ⟨.int .u64, [.int .u64 0], 8⟩ := .mk' (z := .int .u64 0) (by kernel_rfl) rfl Tryz.underlying179 rfl
theorem ty180 : TyOK Tryz.prog 180 ⟨.sc, [.nilFunc], 8⟩ := .mk' (z := .nilFunc) (by kernel_rfl) rfl Tryz.underlying180 trivial
theorem ty181 : TyOK Tryz.prog 181 ⟨.sc, [.nilFunc], 8⟩ := .mk' (z := .nilFunc) (by kernel_rfl) rfl Tryz.underlying181 trivial
theorem ty182 : TyOK Tryz.prog 182 ⟨.sc, [.nilFunc], 8⟩ := .mk' (z := .nilFunc) (by kernel_rfl) rfl Tryz.underlying182 trivial
theorem ty183 : TyOK Tryz.prog 183 ⟨.sc, [.pointer none], 8⟩ := .mk' (z := .pointer none) (by kernel_rfl) rfl Tryz.underlying183 trivial
theorem ty184 : TyOK Tryz.prog 184 ⟨.sc, [.nilFunc], 8⟩ := .mk' (z := .nilFunc) (by kernel_rfl) rfl Tryz.underlying184 trivial
theorem ty185 : TyOK Tryz.prog 185 ⟨.sc, [.nilFunc], 8⟩ := .mk' (z := .nilFunc) (by kernel_rfl) rfl Tryz.underlying185 trivial
theorem ty186 : TyOK Tryz.prog 186 ⟨.sc, [.pointer none], 8⟩ := .mk' (z := .pointer none) (by kernel_rfl) rfl Tryz.underlying186 trivial
theorem ty187 : TyOK Tryz.prog 187 ⟨.st [(0, 164)], [.int .i64 0, .int .i64 0, .int .i64 0], 24⟩ := .mk' (z := .agg #[.int .i64 0, .int .i64 0, .int .i64 0]) (by kernel_rfl) rfl Tryz.underlying187 ⟨_, rfl, rfl⟩
theorem ty188 : TyOK Tryz.prog 188 ⟨.st [(0, 164)], [.int .i64 0, .int .i64 0, .int .i64 0], 24⟩ := .mk' (z := .agg #[.int .i64 0, .int .i64 0, .int .i64 0]) (by kernel_rfl) rfl Tryz.underlying188 ⟨_, rfl, rfl⟩
theorem ty189 : TyOK Tryz.prog 189 ⟨.sc, [.nilFunc], 8⟩ := .mk' (z := .nilFunc) (by kernel_rfl) rfl Tryz.underlying189 trivial
theorem ty190 : TyOK Tryz.prog 190 ⟨.sc, [.nilFunc], 8⟩ := .mk' (z := .nilFunc) (by kernel_rfl) rfl Tryz.underlying190 trivial
theorem ty191 : TyOK Tryz.prog 191 ⟨.sc, [.nilFunc], 8⟩ := .mk' (z := .nilFunc) (by kernel_rfl) rfl Tryz.underlying191 trivial
theorem ty192 : TyOK Tryz.prog 192 ⟨.sc, [.nilFunc], 8⟩ := .mk' (z := .nilFunc) (by kernel_rfl) rfl Tryz.underlying192 trivial
theorem ty193 : TyOK Tryz.prog 193 ⟨.sc, [.nilFunc], 8⟩ := .mk' (z := .nilFunc) (by kernel_rfl) rfl Tryz.underlying193 trivial
theorem ty194 : TyOK Tryz.prog 194 ⟨.sc, [.nilFunc], 8⟩ := .mk' (z := .nilFunc) (by kernel_rfl) rfl Tryz.underlying194 trivial
theorem ty195 : TyOK Tryz.prog 195 ⟨.sc, [.nilFunc], 8⟩ := .mk' (z := .nilFunc) (by kernel_rfl) rfl Tryz.underlying195 trivial
theorem ty196 : TyOK Tryz.prog 196 ⟨.sc, [.nilFunc], 8⟩ := .mk' (z := .nilFunc) (by kernel_rfl) rfl Tryz.underlying196 trivial
theorem ty197 : TyOK Tryz.prog 197 ⟨.sc, [.nilFunc], 8⟩ := .mk' (z := .nilFunc) (by kernel_rfl) rfl Tryz.underlying197 trivial
theorem ty198 : TyOK Tryz.prog 198 ⟨.sc, [.nilFunc], 8⟩ := .mk' (z := .nilFunc) (by kernel_rfl) rfl Tryz.underlying198 trivial
theorem ty199 : TyOK Tryz.prog 199 ⟨.sc, [.nilFunc], 8⟩ := .mk' (z := .nilFunc) (by kernel_rfl) rfl Tryz.underlying199 trivial
theorem ty200 : TyOK Tryz.prog 200 ⟨.sc, [.nilFunc], 8⟩ := .mk' (z := .nilFunc) (by kernel_rfl) rfl Tryz.underlying200 trivial
theorem ty201 : TyOK Tryz.prog 201 ⟨.sl 44, [.slice none 0 0], 24⟩ := .mk' (z := .slice none 0 0) (by kernel_rfl) rfl Tryz.underlying201 rfl
theorem ty202 : TyOK Tryz.prog 202 ⟨.sc, [.nilFunc], 8⟩ := .mk' (z := .nilFunc) (by kernel_rfl) rfl Tryz.underlying202 trivial
theorem ty203 : TyOK Tryz.prog 203 ⟨.sc, [.nilFunc], 8⟩ := .mk' (z := .nilFunc) (by kernel_rfl) rfl Tryz.underlying203 trivial
theorem ty204 : TyOK Tryz.prog 204 ⟨.sc, [.nilFunc], 8⟩ := .mk' (z := .nilFunc) (by kernel_rfl) rfl Tryz.underlying204 trivial
theorem ty205 : TyOK Tryz.prog 205 ⟨.sc, [.nilFunc], 8⟩ := .mk' (z := .nilFunc) (by kernel_rfl) rfl Tryz.underlying205 trivial
theorem ty206 : TyOK Tryz.prog 206 ⟨.sc, [.pointer none], 8⟩ := .mk' (z := .pointer none) (by kernel_rfl) rfl Tryz.underlying206 trivial
theorem ty207 : TyOK Tryz.prog 207 ⟨.sc, [.nilFunc], 8⟩ := .mk' (z := .nilFunc) (by kernel_rfl) rfl Tryz.underlying207 trivial
theorem ty208 : TyOK Tryz.prog 208 ⟨.ar 2 3, [.int .i64 0, .int .i64 0], 16⟩ := .mk' (z := .agg #[.int .i64 0, .int .i64 0]) (by kernel_rfl) rfl Tryz.underlying208 rfl
theorem ty209 : TyOK Tryz.prog 209 ⟨.sc, [.nilFunc], 8⟩ := .mk' (z := .nilFunc) (by kernel_rfl) rfl Tryz.underlying209 trivial
theorem ty210 : TyOK Tryz.prog 210 ⟨.sc, [.nilFunc], 8⟩ := .mk' (z := .nilFunc) (by kernel_rfl) rfl Tryz.underlying210 trivial
theorem ty211 : TyOK Tryz.prog 211 ⟨.sc, [.nilFunc], 8⟩ := .mk' (z := .nilFunc) (by kernel_rfl) rfl Tryz.underlying211 trivial
theorem ty212 : TyOK Tryz.prog 212 ⟨.sc, [.pointer none], 8⟩ := .mk' (z := .pointer none) (by kernel_rfl) rfl Tryz.underlying212 trivial
theorem ty213 : TyOK Tryz.prog 213 ⟨.sc, [.nilFunc], 8⟩ := .mk' (z := .nilFunc) (by kernel_rfl) rfl Tryz.underlying213 trivial
theorem ty214 : TyOK Tryz.prog 214 ⟨.sc, [.nilFunc], 8⟩ := .mk' (z := .nilFunc) (by kernel_rfl) rfl Tryz.underlying214 trivial
theorem ty215 : TyOK Tryz.prog 215 ⟨.sc, [.nilFunc], 8⟩ := .mk' (z := .nilFunc) (by kernel_rfl) rfl Tryz.underlying215 trivial
theorem ty216 : TyOK Tryz.prog 216 ⟨.sc, [.nilFunc], 8⟩ := .mk' (z := .nilFunc) (by kernel_rfl) rfl Tryz.underlying216 trivial
theorem ty217 : TyOK Tryz.prog 217 ⟨.sc, [.nilFunc], 8⟩ := .mk' (z := .nilFunc) (by kernel_rfl) rfl Tryz.underlying217 trivial
theorem ty218 : TyOK Tryz.prog 218 ⟨.sc, [.nilFunc], 8⟩ := .mk' (z := .nilFunc) (by kernel_rfl) rfl Tryz.underlying218 trivial
theorem ty219 : TyOK Tryz.prog 219 ⟨.sc, [.nilFunc], 8⟩ := .mk' (z := .nilFunc) (by kernel_rfl) rfl Tryz.underlying219 trivial
theorem ty220 : TyOK Tryz.prog 220 ⟨.sc, [.nilFunc], 8⟩ := .mk' (z := .nilFunc) (by kernel_rfl) rfl Tryz.underlying220 trivial
theorem ty221 : TyOK Tryz.prog 221 ⟨.sc, [.nilFunc], 8⟩ := .mk' (z := .nilFunc) (by kernel_rfl) rfl Tryz.underlying221 trivial
theorem ty222 : TyOK Tryz.prog 222 ⟨.sc, [.nilFunc], 8⟩ := .mk' (z := .nilFunc) (by kernel_rfl) rfl Tryz.underlying222 trivial
theorem ty223 : TyOK Tryz.prog 223 ⟨.sc, [.nilFunc], 8⟩ := .mk' (z := .nilFunc) (by kernel_rfl) rfl Tryz.underlying223 trivial
theorem ty224 : TyOK Tryz.prog 224 ⟨.sc, [.nilFunc], 8⟩ := .mk' (z := .nilFunc) (by kernel_rfl) rfl Tryz.underlying224 trivial
theorem ty225 : TyOK Tryz.prog 225 ⟨.sc, [.nilFunc], 8⟩ := .mk' (z := .nilFunc) (by kernel_rfl) rfl Tryz.underlying225 trivial
theorem ty226 : TyOK Tryz.prog 226 ⟨.st [(0, 17), (1, 17), (2, 17), (3, 9)], [.pointer none, .pointer none, .pointer none, .string ByteArray.empty], 40⟩ := .mk' (z := .agg #[.pointer none, .pointer none, .pointer none, .string ByteArray.empty]) (by kernel_rfl) rfl Tryz.underlying226 ⟨_, rfl, rfl⟩
theorem ty227 : TyOK Tryz.prog 227 ⟨.st [(0, 17), (1, 17), (2, 17), (3, 9)], [.pointer none, .pointer none, .pointer none, .string ByteArray.empty], 40⟩ := .mk' (z := .agg #[.pointer none, .pointer none, .pointer none, .string ByteArray.empty]) (by kernel_rfl) rfl Tryz.underlying227 ⟨_, rfl, rfl⟩
theorem ty228 : TyOK Tryz.prog 228 ⟨.ar 0 16, [], 0⟩ := .mk' (z := .agg #[]) (by kernel_rfl) rfl Tryz.underlying228 rfl
theorem ty229 : TyOK Tryz.prog 229 ⟨.st [(0, 228)], [], 0⟩ := .mk' (z := .agg #[]) (by kernel_rfl) rfl Tryz.underlying229 ⟨_, rfl, rfl⟩
theorem ty230 : TyOK Tryz.prog 230 ⟨.st [(0, 228)], [], 0⟩ := .mk' (z := .agg #[]) (by kernel_rfl) rfl Tryz.underlying230 ⟨_, rfl, rfl⟩
theorem ty231 : TyOK Tryz.prog 231 ⟨.sc, [.nilFunc], 8⟩ := .mk' (z := .nilFunc) (by kernel_rfl) rfl Tryz.underlying231 trivial
theorem ty232 : TyOK Tryz.prog 232 ⟨.int .u8, [.int .u8 0], 1⟩ := .mk' (z := .int .u8 0) (by kernel_rfl) rfl Tryz.underlying232 rfl
theorem ty233 : TyOK Tryz.prog 233 ⟨.int .u8, [.int .u8 0], 1⟩ := .mk' (z := .int .u8 0) (by kernel_rfl) rfl Tryz.underlying233 rfl
theorem ty234 : TyOK Tryz.prog 234 ⟨.sc, [.nilFunc], 8⟩ := .mk' (z := .nilFunc) (by kernel_rfl) rfl Tryz.underlying234 trivial
theorem ty235 : TyOK Tryz.prog 235 ⟨.sc, [.pointer none], 8⟩ := .mk' (z := .pointer none) (by kernel_rfl) rfl Tryz.underlying235 trivial
theorem ty236 : TyOK Tryz.prog 236 ⟨.int .i32, [.int .i32 0], 4⟩ := .mk' (z := .int .i32 0) (by kernel_rfl) rfl Tryz.underlying236 rfl
theorem ty237 : TyOK Tryz.prog 237 ⟨.int .i32, [.int .i32 0], 4⟩ := .mk' (z := .int .i32 0) (by kernel_rfl) rfl Tryz.underlying237 rfl
theorem ty238 : TyOK Tryz.prog 238 ⟨.st [(0, 12), (1, 12), (2, 153), (3, 232), (4, 5), (5, 5), (6, 233), (7, 234), (8, 235), (9, 236), (10, 237)], [.int .u64 0, .int .u64 0, .int .u32 0, .int .u8 0, .int .u8 0, .int .u8 0, .int .u8 0, .nilFunc, .pointer none, .int .i32 0, .int .i32 0], 48⟩ := .mk' (z := .agg #[.int .u64 0, .int .u64 0, .int .u32 0, .int .u8 0, .int .u8 0, .int .u8 0, .int .u8 0, .nilFunc, .pointer none, .int .i32 0, .int .i32 0]) (by kernel_rfl) rfl Tryz.underlying238 ⟨_, rfl, rfl⟩
theorem ty239 : TyOK Tryz.prog 239 ⟨.st [(0, 12), (1, 12), (2, 153), (3, 232), (4, 5), (5, 5), (6, 233), (7, 234), (8, 235), (9, 236), (10, 237)], [.int .u64 0, .int .u64 0, .int .u32 0, .int .u8 0, .int .u8 0, .int .u8 0, .int .u8 0, .nilFunc, .pointer none, .int .i32 0, .int .i32 0], 48⟩ := .mk' (z := .agg #[.int .u64 0, .int .u64 0, .int .u32 0, .int .u8 0, .int .u8 0, .int .u8 0, .int .u8 0, .nilFunc, .pointer none, .int .i32 0, .int .i32 0]) (by kernel_rfl) rfl Tryz.underlying239 ⟨_, rfl, rfl⟩
theorem ty240 : TyOK Tryz.prog 240 ⟨.sc, [.pointer none], 8⟩ := .mk' (z := .pointer none) (by kernel_rfl) rfl Tryz.underlying240 trivial
def te : List (Nat × TI) := [(1, ⟨.sc, [.nilFunc], 8⟩),
 (2, ⟨.int .i64, [.int .i64 0], 8⟩),
 (3, ⟨.int .i64, [.int .i64 0], 8⟩),
 (4, ⟨.bool, [.bool false], 1⟩),
 (5, ⟨.int .u8, [.int .u8 0], 1⟩),
 (6, ⟨.int .u8, [.int .u8 0], 1⟩),
 (7, ⟨.st [(0, 2), (1, 3), (2, 4), (3, 6)], [.int .i64 0, .int .i64 0, .bool false, .int .u8 0], 24⟩),
 (8, ⟨.st [(0, 2), (1, 3), (2, 4), (3, 6)], [.int .i64 0, .int .i64 0, .bool false, .int .u8 0], 24⟩),
 (9, ⟨.sc, [.string ByteArray.empty], 16⟩),
 (10, ⟨.sc, [.string ByteArray.empty], 16⟩),
 (11, ⟨.sc, [.string ByteArray.empty], 16⟩),
 (12, ⟨.int .u64, [.int .u64 0], 8⟩),
 (13, ⟨.st [(0, 9), (1, 12)], [.string ByteArray.empty, .int .u64 0], 24⟩),
 (14, ⟨.st [(0, 9), (1, 12)], [.string ByteArray.empty, .int .u64 0], 24⟩),
 (15, ⟨.sc, [.pointer none], 8⟩),
 (16, ⟨.sc, [.pointer none], 8⟩),
 (17, ⟨.sc, [.pointer none], 8⟩),
 (18, ⟨.st [(0, 17)], [.pointer none], 8⟩),
 (19, ⟨.st [(0, 17)], [.pointer none], 8⟩),
 (21, ⟨.int .i32, [.int .i32 0], 4⟩),
 (22, ⟨.sl 75, [.slice none 0 0], 24⟩),
 (23, ⟨.sl 128, [.slice none 0 0], 24⟩),
 (24, ⟨.sl 95, [.slice none 0 0], 24⟩),
 (25, ⟨.st [(0, 3), (1, 3), (2, 3), (3, 3), (4, 3), (5, 3), (6, 22), (7, 23), (8, 24)], [.int .i64 0, .int .i64 0, .int .i64 0, .int .i64 0, .int .i64 0, .int .i64 0, .slice none 0 0, .slice none 0 0, .slice none 0 0], 120⟩),
 (26, ⟨.st [(0, 3), (1, 3), (2, 3), (3, 3), (4, 3), (5, 3), (6, 22), (7, 23), (8, 24)], [.int .i64 0, .int .i64 0, .int .i64 0, .int .i64 0, .int .i64 0, .int .i64 0, .slice none 0 0, .slice none 0 0, .slice none 0 0], 120⟩),
 (27, ⟨.sl 64, [.slice none 0 0], 24⟩),
 (28, ⟨.st [(0, 3), (1, 3)], [.int .i64 0, .int .i64 0], 16⟩),
 (29, ⟨.st [(0, 3), (1, 3)], [.int .i64 0, .int .i64 0], 16⟩),
 (30, ⟨.sl 3, [.slice none 0 0], 24⟩),
 (31, ⟨.sc, [.nilFunc], 8⟩),
 (32, ⟨.sc, [.nilFunc], 8⟩),
 (33, ⟨.int .i64, [.int .i64 0], 8⟩),
 (35, ⟨.sc, [.nilFunc], 8⟩),
 (37, ⟨.sc, [.nilFunc], 8⟩),
 (38, ⟨.sc, [.nilFunc], 8⟩),
 (40, ⟨.sc, [.nilFunc], 8⟩),
 (41, ⟨.sc, [.nilFunc], 8⟩),
 (42, ⟨.sc, [.nilFunc], 8⟩),
 (43, ⟨.st [(0, 3), (1, 3)], [.int .i64 0, .int .i64 0], 16⟩),
 (44, ⟨.st [(0, 3), (1, 3)], [.int .i64 0, .int .i64 0], 16⟩),
 (45, ⟨.sc, [.nilFunc], 8⟩),
 (46, ⟨.sc, [.nilFunc], 8⟩),
 (47, ⟨.sc, [.nilFunc], 8⟩),
 (48, ⟨.sc, [.nilFunc], 8⟩),
 (49, ⟨.sc, [.nilFunc], 8⟩),
 (50, ⟨.sc, [.nilFunc], 8⟩),
 (51, ⟨.sc, [.nilFunc], 8⟩),
 (52, ⟨.sl 5, [.slice none 0 0], 24⟩),
 (54, ⟨.sc, [.nilFunc], 8⟩),
 (55, ⟨.sc, [.nilFunc], 8⟩),
 (56, ⟨.int .u16, [.int .u16 0], 2⟩),
 (57, ⟨.sc, [.nilFunc], 8⟩),
 (58, ⟨.int .i16, [.int .i16 0], 2⟩),
 (59, ⟨.sc, [.nilFunc], 8⟩),
 (60, ⟨.sc, [.nilFunc], 8⟩),
 (62, ⟨.sc, [.nilFunc], 8⟩),
 (63, ⟨.sc, [.nilFunc], 8⟩),
 (64, ⟨.sl 44, [.slice none 0 0], 24⟩),
 (65, ⟨.sc, [.nilFunc], 8⟩),
 (66, ⟨.sc, [.pointer none], 8⟩),
 (68, ⟨.sc, [.nilFunc], 8⟩),
 (69, ⟨.sc, [.nilFunc], 8⟩),
 (70, ⟨.st [(0, 26), (9, 69), (10, 27)], [.int .i64 0, .int .i64 0, .int .i64 0, .int .i64 0, .int .i64 0, .int .i64 0, .slice none 0 0, .slice none 0 0, .slice none 0 0, .nilFunc, .slice none 0 0], 152⟩),
 (71, ⟨.st [(0, 26), (9, 69), (10, 27)], [.int .i64 0, .int .i64 0, .int .i64 0, .int .i64 0, .int .i64 0, .int .i64 0, .slice none 0 0, .slice none 0 0, .slice none 0 0, .nilFunc, .slice none 0 0], 152⟩),
 (72, ⟨.sc, [.nilFunc], 8⟩),
 (73, ⟨.sc, [.nilFunc], 8⟩),
 (74, ⟨.st [(0, 29), (2, 3), (3, 4)], [.int .i64 0, .int .i64 0, .int .i64 0, .bool false], 32⟩),
 (75, ⟨.st [(0, 29), (2, 3), (3, 4)], [.int .i64 0, .int .i64 0, .int .i64 0, .bool false], 32⟩),
 (76, ⟨.sc, [.nilFunc], 8⟩),
 (77, ⟨.sc, [.nilFunc], 8⟩),
 (78, ⟨.sc, [.nilFunc], 8⟩),
 (79, ⟨.sc, [.nilFunc], 8⟩),
 (80, ⟨.sc, [.nilFunc], 8⟩),
 (81, ⟨.sc, [.nilFunc], 8⟩),
 (82, ⟨.sc, [.nilFunc], 8⟩),
 (83, ⟨.sc, [.nilFunc], 8⟩),
 (84, ⟨.sc, [.nilFunc], 8⟩),
 (85, ⟨.sc, [.nilFunc], 8⟩),
 (86, ⟨.sc, [.nilFunc], 8⟩),
 (87, ⟨.sc, [.nilFunc], 8⟩),
 (89, ⟨.sc, [.nilFunc], 8⟩),
 (90, ⟨.sc, [.nilFunc], 8⟩),
 (91, ⟨.sc, [.nilFunc], 8⟩),
 (93, ⟨.sc, [.nilFunc], 8⟩),
 (94, ⟨.st [(0, 3), (1, 64)], [.int .i64 0, .slice none 0 0], 32⟩),
 (95, ⟨.st [(0, 3), (1, 64)], [.int .i64 0, .slice none 0 0], 32⟩),
 (96, ⟨.sc, [.nilFunc], 8⟩),
 (97, ⟨.sc, [.nilFunc], 8⟩),
 (99, ⟨.sc, [.nilFunc], 8⟩),
 (100, ⟨.sc, [.nilFunc], 8⟩),
 (101, ⟨.sc, [.nilFunc], 8⟩),
 (102, ⟨.sc, [.nilFunc], 8⟩),
 (103, ⟨.int .u64, [.int .u64 0], 8⟩),
 (104, ⟨.sc, [.nilFunc], 8⟩),
 (105, ⟨.sc, [.nilFunc], 8⟩),
 (106, ⟨.sc, [.nilFunc], 8⟩),
 (107, ⟨.sc, [.nilFunc], 8⟩),
 (108, ⟨.sc, [.nilFunc], 8⟩),
 (109, ⟨.sc, [.nilFunc], 8⟩),
 (110, ⟨.sc, [.nilFunc], 8⟩),
 (111, ⟨.sc, [.nilFunc], 8⟩),
 (112, ⟨.sc, [.nilFunc], 8⟩),
 (113, ⟨.sc, [.nilFunc], 8⟩),
 (114, ⟨.sc, [.nilFunc], 8⟩),
 (115, ⟨.sc, [.nilFunc], 8⟩),
 (116, ⟨.sc, [.nilFunc], 8⟩),
 (117, ⟨.sc, [.nilFunc], 8⟩),
 (118, ⟨.st [(0, 27)], [.slice none 0 0], 24⟩),
 (119, ⟨.st [(0, 27)], [.slice none 0 0], 24⟩),
 (120, ⟨.st [(0, 119)], [.slice none 0 0], 24⟩),
 (121, ⟨.st [(0, 119)], [.slice none 0 0], 24⟩),
 (122, ⟨.sc, [.nilFunc], 8⟩),
 (124, ⟨.sc, [.nilFunc], 8⟩),
 (125, ⟨.sc, [.nilFunc], 8⟩),
 (126, ⟨.sc, [.nilFunc], 8⟩),
 (127, ⟨.st [(0, 3), (1, 44)], [.int .i64 0, .int .i64 0, .int .i64 0], 24⟩),
 (128, ⟨.st [(0, 3), (1, 44)], [.int .i64 0, .int .i64 0, .int .i64 0], 24⟩),
 (129, ⟨.sc, [.nilFunc], 8⟩),
 (130, ⟨.sc, [.nilFunc], 8⟩),
 (131, ⟨.sc, [.nilFunc], 8⟩),
 (132, ⟨.sc, [.nilFunc], 8⟩),
 (133, ⟨.sc, [.nilFunc], 8⟩),
 (134, ⟨.sc, [.nilFunc], 8⟩),
 (135, ⟨.sc, [.nilFunc], 8⟩),
 (136, ⟨.sc, [.nilFunc], 8⟩),
 (137, ⟨.sc, [.nilFunc], 8⟩),
 (139, ⟨.sc, [.nilFunc], 8⟩),
 (140, ⟨.sc, [.nilFunc], 8⟩),
 (142, ⟨.sc, [.nilFunc], 8⟩),
 (143, ⟨.sc, [.nilFunc], 8⟩),
 (144, ⟨.int .i64, [.int .i64 0], 8⟩),
 (146, ⟨.sc, [.nilFunc], 8⟩),
 (147, ⟨.sc, [.nilFunc], 8⟩),
 (148, ⟨.sc, [.nilFunc], 8⟩),
 (149, ⟨.sc, [.nilFunc], 8⟩),
 (151, ⟨.sc, [.nilFunc], 8⟩),
 (152, ⟨.sc, [.nilFunc], 8⟩),
 (153, ⟨.int .u32, [.int .u32 0], 4⟩),
 (154, ⟨.sc, [.nilFunc], 8⟩),
 (155, ⟨.int .u64, [.int .u64 0], 8⟩),
 (156, ⟨.sc, [.nilFunc], 8⟩),
 (157, ⟨.sc, [.nilFunc], 8⟩),
 (158, ⟨.sc, [.nilFunc], 8⟩),
 (159, ⟨.sc, [.nilFunc], 8⟩),
 (160, ⟨.sc, [.nilFunc], 8⟩),
 (161, ⟨.sc, [.nilFunc], 8⟩),
 (162, ⟨.sc, [.nilFunc], 8⟩),
 (163, ⟨.st [(0, 3), (1, 3), (2, 3)], [.int .i64 0, .int .i64 0, .int .i64 0], 24⟩),
 (164, ⟨.st [(0, 3), (1, 3), (2, 3)], [.int .i64 0, .int .i64 0, .int .i64 0], 24⟩),
 (165, ⟨.sc, [.nilFunc], 8⟩),
 (166, ⟨.sc, [.nilFunc], 8⟩),
 (167, ⟨.sc, [.nilFunc], 8⟩),
 (168, ⟨.sc, [.nilFunc], 8⟩),
 (169, ⟨.sc, [.nilFunc], 8⟩),
 (170, ⟨.sc, [.nilFunc], 8⟩),
 (171, ⟨.sc, [.nilFunc], 8⟩),
 (172, ⟨.sc, [.nilFunc], 8⟩),
 (173, ⟨.sc, [.nilFunc], 8⟩),
 (174, ⟨.sc, [.pointer none], 8⟩),
 (175, ⟨.sc, [.nilFunc], 8⟩),
 (176, ⟨.sc, [.nilFunc], 8⟩),
 (177, ⟨.sc, [.nilFunc], 8⟩),
 (178, ⟨.sc, [.nilFunc], 8⟩),
 (179, ⟨.int .u64, [.int .u64 0], 8⟩),
 (180, ⟨.sc, [.nilFunc], 8⟩),
 (181, ⟨.sc, [.nilFunc], 8⟩),
 (182, ⟨.sc, [.nilFunc], 8⟩),
 (183, ⟨.sc, [.pointer none], 8⟩),
 (184, ⟨.sc, [.nilFunc], 8⟩),
 (185, ⟨.sc, [.nilFunc], 8⟩),
 (186, ⟨.sc, [.pointer none], 8⟩),
 (187, ⟨.st [(0, 164)], [.int .i64 0, .int .i64 0, .int .i64 0], 24⟩),
 (188, ⟨.st [(0, 164)], [.int .i64 0, .int .i64 0, .int .i64 0], 24⟩),
 (189, ⟨.sc, [.nilFunc], 8⟩),
 (190, ⟨.sc, [.nilFunc], 8⟩),
 (191, ⟨.sc, [.nilFunc], 8⟩),
 (192, ⟨.sc, [.nilFunc], 8⟩),
 (193, ⟨.sc, [.nilFunc], 8⟩),
 (194, ⟨.sc, [.nilFunc], 8⟩),
 (195, ⟨.sc, [.nilFunc], 8⟩),
 (196, ⟨.sc, [.nilFunc], 8⟩),
 (197, ⟨.sc, [.nilFunc], 8⟩),
 (198, ⟨.sc, [.nilFunc], 8⟩),
 (199, ⟨.sc, [.nilFunc], 8⟩),
 (200, ⟨.sc, [.nilFunc], 8⟩),
 (201, ⟨.sl 44, [.slice none 0 0], 24⟩),
 (202, ⟨.sc, [.nilFunc], 8⟩),
 (203, ⟨.sc, [.nilFunc], 8⟩),
 (204, ⟨.sc, [.nilFunc], 8⟩),
 (205, ⟨.sc, [.nilFunc], 8⟩),
 (206, ⟨.sc, [.pointer none], 8⟩),
 (207, ⟨.sc, [.nilFunc], 8⟩),
 (208, ⟨.ar 2 3, [.int .i64 0, .int .i64 0], 16⟩),
 (209, ⟨.sc, [.nilFunc], 8⟩),
 (210, ⟨.sc, [.nilFunc], 8⟩),
 (211, ⟨.sc, [.nilFunc], 8⟩),
 (212, ⟨.sc, [.pointer none], 8⟩),
 (213, ⟨.sc, [.nilFunc], 8⟩),
 (214, ⟨.sc, [.nilFunc], 8⟩),
 (215, ⟨.sc, [.nilFunc], 8⟩),
 (216, ⟨.sc, [.nilFunc], 8⟩),
 (217, ⟨.sc, [.nilFunc], 8⟩),
 (218, ⟨.sc, [.nilFunc], 8⟩),
 (219, ⟨.sc, [.nilFunc], 8⟩),
 (220, ⟨.sc, [.nilFunc], 8⟩),
 (221, ⟨.sc, [.nilFunc], 8⟩),
 (222, ⟨.sc, [.nilFunc], 8⟩),
 (223, ⟨.sc, [.nilFunc], 8⟩),
 (224, ⟨.sc, [.nilFunc], 8⟩),
 (225, ⟨.sc, [.nilFunc], 8⟩),
 (226, ⟨.st [(0, 17), (1, 17), (2, 17), (3, 9)], [.pointer none, .pointer none, .pointer none, .string ByteArray.empty], 40⟩),
 (227, ⟨.st [(0, 17), (1, 17), (2, 17), (3, 9)], [.pointer none, .pointer none, .pointer none, .string ByteArray.empty], 40⟩),
 (228, ⟨.ar 0 16, [], 0⟩),
 (229, ⟨.st [(0, 228)], [], 0⟩),
 (230, ⟨.st [(0, 228)], [], 0⟩),
 (231, ⟨.sc, [.nilFunc], 8⟩),
 (232, ⟨.int .u8, [.int .u8 0], 1⟩),
 (233, ⟨.int .u8, [.int .u8 0], 1⟩),
 (234, ⟨.sc, [.nilFunc], 8⟩),
 (235, ⟨.sc, [.pointer none], 8⟩),
 (236, ⟨.int .i32, [.int .i32 0], 4⟩),
 (237, ⟨.int .i32, [.int .i32 0], 4⟩),
 (238, ⟨.st [(0, 12), (1, 12), (2, 153), (3, 232), (4, 5), (5, 5), (6, 233), (7, 234), (8, 235), (9, 236), (10, 237)], [.int .u64 0, .int .u64 0, .int .u32 0, .int .u8 0, .int .u8 0, .int .u8 0, .int .u8 0, .nilFunc, .pointer none, .int .i32 0, .int .i32 0], 48⟩),
 (239, ⟨.st [(0, 12), (1, 12), (2, 153), (3, 232), (4, 5), (5, 5), (6, 233), (7, 234), (8, 235), (9, 236), (10, 237)], [.int .u64 0, .int .u64 0, .int .u32 0, .int .u8 0, .int .u8 0, .int .u8 0, .int .u8 0, .nilFunc, .pointer none, .int .i32 0, .int .i32 0], 48⟩),
 (240, ⟨.sc, [.pointer none], 8⟩)]
theorem teOK : TEOK Tryz.prog te :=
 teOK_cons ty1 (
 teOK_cons ty2 (
 teOK_cons ty3 (
 teOK_cons ty4 (
 teOK_cons ty5 (
 teOK_cons ty6 (
 teOK_cons ty7 (
 teOK_cons ty8 (
 teOK_cons ty9 (
 teOK_cons ty10 (
 teOK_cons ty11 (
 teOK_cons ty12 (
 teOK_cons ty13 (
 teOK_cons ty14 (
 teOK_cons ty15 (
 teOK_cons ty16 (
 teOK_cons ty17 (
 teOK_cons ty18 (
 teOK_cons ty19 (
 teOK_cons ty21 (
 teOK_cons ty22 (
 teOK_cons ty23 (
 teOK_cons ty24 (
 teOK_cons ty25 (
 teOK_cons ty26 (
 teOK_cons ty27 (
 teOK_cons ty28 (
 teOK_cons ty29 (
 teOK_cons ty30 (
 teOK_cons ty31 (
 teOK_cons ty32 (
 teOK_cons ty33 (
 teOK_cons ty35 (
 teOK_cons ty37 (
 teOK_cons ty38 (
 teOK_cons ty40 (
 teOK_cons ty41 (
 teOK_cons ty42 (
 teOK_cons ty43 (
 teOK_cons ty44 (
 teOK_cons ty45 (
 teOK_cons ty46 (
 teOK_cons ty47 (
 teOK_cons ty48 (
 teOK_cons ty49 (
 teOK_cons ty50 (
 teOK_cons ty51 (
 teOK_cons ty52 (
 teOK_cons ty54 (
 teOK_cons ty55 (
 teOK_cons ty56 (
 teOK_cons ty57 (
 teOK_cons ty58 (
 teOK_cons ty59 (
 teOK_cons ty60 (
 teOK_cons ty62 (
 teOK_cons ty63 (
 teOK_cons ty64 (
 teOK_cons ty65 (
 teOK_cons ty66 (
 teOK_cons ty68 (
 teOK_cons ty69 (
 teOK_cons ty70 (
 teOK_cons ty71 (
 teOK_cons ty72 (
 teOK_cons ty73 (
 teOK_cons ty74 (
 teOK_cons ty75 (
 teOK_cons ty76 (
 teOK_cons ty77 (
 teOK_cons ty78 (
 teOK_cons ty79 (
 teOK_cons ty80 (
 teOK_cons ty81 (
 teOK_cons ty82 (
 teOK_cons ty83 (
 teOK_cons ty84 (
 teOK_cons ty85 (
 teOK_cons ty86 (
 teOK_cons ty87 (
 teOK_cons ty89 (
 teOK_cons ty90 (
 teOK_cons ty91 (
 teOK_cons ty93 (
 teOK_cons ty94 (
 teOK_cons ty95 (
 teOK_cons ty96 (
 teOK_cons ty97 (
 teOK_cons ty99 (
 teOK_cons ty100 (
 teOK_cons ty101 (
 teOK_cons ty102 (
 teOK_cons ty103 (
 teOK_cons ty104 (
 teOK_cons ty105 (
 teOK_cons ty106 (
 teOK_cons ty107 (
 teOK_cons ty108 (
 teOK_cons ty109 (
 teOK_cons ty110 (
 teOK_cons ty111 (
 teOK_cons ty112 (
 teOK_cons ty113 (
 teOK_cons ty114 (
 teOK_cons ty115 (
 teOK_cons ty116 (
 teOK_cons ty117 (
 teOK_cons ty118 (
 teOK_cons ty119 (
 teOK_cons ty120 (
 teOK_cons ty121 (
 teOK_cons ty122 (
 teOK_cons ty124 (
 teOK_cons ty125 (
 teOK_cons ty126 (
 teOK_cons ty127 (
 teOK_cons ty128 (
 teOK_cons ty129 (
 teOK_cons ty130 (
 teOK_cons ty131 (
 teOK_cons ty132 (
 teOK_cons ty133 (
 teOK_cons ty134 (
 teOK_cons ty135 (
 teOK_cons ty136 (
 teOK_cons ty137 (
 teOK_cons ty139 (
 teOK_cons ty140 (
 teOK_cons ty142 (
 teOK_cons ty143 (
 teOK_cons ty144 (
 teOK_cons ty146 (
 teOK_cons ty147 (
 teOK_cons ty148 (
 teOK_cons ty149 (
 teOK_cons ty151 (
 teOK_cons ty152 (
 teOK_cons ty153 (
 teOK_cons ty154 (
 teOK_cons ty155 (
 teOK_cons ty156 (
 teOK_cons ty157 (
 teOK_cons ty158 (
 teOK_cons ty159 (
 teOK_cons ty160 (
 teOK_cons ty161 (
 teOK_cons ty162 (
 teOK_cons ty163 (
 teOK_cons ty164 (
 teOK_cons ty165 (
 teOK_cons ty166 (
 teOK_cons ty167 (
 teOK_cons ty168 (
 teOK_cons ty169 (
 teOK_cons ty170 (
 teOK_cons ty171 (
 teOK_cons ty172 (
 teOK_cons ty173 (
 teOK_cons ty174 (
 teOK_cons ty175 (
 teOK_cons ty176 (
 teOK_cons ty177 (
 teOK_cons ty178 (
 teOK_cons ty179 (
 teOK_cons ty180 (
 teOK_cons ty181 (
 teOK_cons ty182 (
 teOK_cons ty183 (
 teOK_cons ty184 (
 teOK_cons ty185 (
 teOK_cons ty186 (
 teOK_cons ty187 (
 teOK_cons ty188 (
 teOK_cons ty189 (
 teOK_cons ty190 (
 teOK_cons ty191 (
 teOK_cons ty192 (
 teOK_cons ty193 (
 teOK_cons ty194 (
 teOK_cons ty195 (
 teOK_cons ty196 (
 teOK_cons ty197 (
 teOK_cons ty198 (
 teOK_cons ty199 (
 teOK_cons ty200 (
 teOK_cons ty201 (
 teOK_cons ty202 (
 teOK_cons ty203 (
 teOK_cons ty204 (
 teOK_cons ty205 (
 teOK_cons ty206 (
 teOK_cons ty207 (
 teOK_cons ty208 (
 teOK_cons ty209 (
 teOK_cons ty210 (
 teOK_cons ty211 (
 teOK_cons ty212 (
 teOK_cons ty213 (
 teOK_cons ty214 (
 teOK_cons ty215 (
 teOK_cons ty216 (
 teOK_cons ty217 (
 teOK_cons ty218 (
 teOK_cons ty219 (
 teOK_cons ty220 (
 teOK_cons ty221 (
 teOK_cons ty222 (
 teOK_cons ty223 (
 teOK_cons ty224 (
 teOK_cons ty225 (
 teOK_cons ty226 (
 teOK_cons ty227 (
 teOK_cons ty228 (
 teOK_cons ty229 (
 teOK_cons ty230 (
 teOK_cons ty231 (
 teOK_cons ty232 (
 teOK_cons ty233 (
 teOK_cons ty234 (
 teOK_cons ty235 (
 teOK_cons ty236 (
 teOK_cons ty237 (
 teOK_cons ty238 (
 teOK_cons ty239 (
 teOK_cons ty240 (
 teOK_nil)))))))))))))))))))))))))))))))))))))))))))))))))))))))))))))))))))))))))))))))))))))))))))))))))))))))))))))))))))))))))))))))))))))))))))))))))))))))))))))))))))))))))))))))))))))))))))))))))))))))))))))))))))))))))))))))))
theorem eq28 : ∀ (op : BinOp) (x y x' y' : Int) (W : World), (op = .eql ∨ op = .neq) → ∀ (u v : Operand), (do eqGuard op 28 u v (.agg #[.int .i64 x, .int .i64 y]) (.agg #[.int .i64 x', .int .i64 y']); binOp op 28 (.agg #[.int .i64 x, .int .i64 y]) (.agg #[.int .i64 x', .int .i64 y']) : Sem Value).run Tryz.prog W = .ok (.bool (eqRes op (x == x' && y == y'))) W :=
 eq2_of Tryz.underlying28 rfl rfl rfl rfl Tryz.underlying3 Tryz.underlying3 (by kernel_rfl) (by kernel_rfl)
theorem eq29 : ∀ (op : BinOp) (x y x' y' : Int) (W : World), (op = .eql ∨ op = .neq) → ∀ (u v : Operand), (do eqGuard op 29 u v (.agg #[.int .i64 x, .int .i64 y]) (.agg #[.int .i64 x', .int .i64 y']); binOp op 29 (.agg #[.int .i64 x, .int .i64 y]) (.agg #[.int .i64 x', .int .i64 y']) : Sem Value).run Tryz.prog W = .ok (.bool (eqRes op (x == x' && y == y'))) W :=
 eq2_of Tryz.underlying29 rfl rfl rfl rfl Tryz.underlying3 Tryz.underlying3 (by kernel_rfl) (by kernel_rfl)
theorem eq43 : ∀ (op : BinOp) (x y x' y' : Int) (W : World), (op = .eql ∨ op = .neq) → ∀ (u v : Operand), (do eqGuard op 43 u v (.agg #[.int .i64 x, .int .i64 y]) (.agg #[.int .i64 x', .int .i64 y']); binOp op 43 (.agg #[.int .i64 x, .int .i64 y]) (.agg #[.int .i64 x', .int .i64 y']) : Sem Value).run Tryz.prog W = .ok (.bool (eqRes op (x == x' && y == y'))) W :=
 eq2_of Tryz.underlying43 rfl rfl rfl rfl Tryz.underlying3 Tryz.underlying3 (by kernel_rfl) (by kernel_rfl)
theorem eq44 : ∀ (op : BinOp) (x y x' y' : Int) (W : World), (op = .eql ∨ op = .neq) → ∀ (u v : Operand), (do eqGuard op 44 u v (.agg #[.int .i64 x, .int .i64 y]) (.agg #[.int .i64 x', .int .i64 y']); binOp op 44 (.agg #[.int .i64 x, .int .i64 y]) (.agg #[.int .i64 x', .int .i64 y']) : Sem Value).run Tryz.prog W = .ok (.bool (eqRes op (x == x' && y == y'))) W :=
 eq2_of Tryz.underlying44 rfl rfl rfl rfl Tryz.underlying3 Tryz.underlying3 (by kernel_rfl) (by kernel_rfl)
theorem en127 : EqN Tryz.prog 127 3 := EqN.of (EqT.st Tryz.underlying127 ty127 rfl (by kernel_rfl) (.cons rfl rfl ((EqT.int Tryz.underlying3).mono (by decide)) (.cons rfl rfl (EqT.st Tryz.underlying44 ty44 rfl (by kernel_rfl) (.cons rfl rfl (EqT.int Tryz.underlying3) (.cons rfl rfl (EqT.int Tryz.underlying3) ((.nil _)))) : EqT Tryz.prog 44 2 2 true) ((.nil _)))) : EqT Tryz.prog 127 3 3 true) (by decide) (by kernel_rfl)
theorem en128 : EqN Tryz.prog 128 3 := EqN.of (EqT.st Tryz.underlying128 ty128 rfl (by kernel_rfl) (.cons rfl rfl ((EqT.int Tryz.underlying3).mono (by decide)) (.cons rfl rfl (EqT.st Tryz.underlying44 ty44 rfl (by kernel_rfl) (.cons rfl rfl (EqT.int Tryz.underlying3) (.cons rfl rfl (EqT.int Tryz.underlying3) ((.nil _)))) : EqT Tryz.prog 44 2 2 true) ((.nil _)))) : EqT Tryz.prog 128 3 3 true) (by decide) (by kernel_rfl)
theorem en163 : EqN Tryz.prog 163 3 := EqN.of (EqT.st Tryz.underlying163 ty163 rfl (by kernel_rfl) (.cons rfl rfl (EqT.int Tryz.underlying3) (.cons rfl rfl (EqT.int Tryz.underlying3) (.cons rfl rfl (EqT.int Tryz.underlying3) ((.nil _))))) : EqT Tryz.prog 163 3 2 true) (by decide) (by kernel_rfl)
theorem en164 : EqN Tryz.prog 164 3 := EqN.of (EqT.st Tryz.underlying164 ty164 rfl (by kernel_rfl) (.cons rfl rfl (EqT.int Tryz.underlying3) (.cons rfl rfl (EqT.int Tryz.underlying3) (.cons rfl rfl (EqT.int Tryz.underlying3) ((.nil _))))) : EqT Tryz.prog 164 3 2 true) (by decide) (by kernel_rfl)
theorem en187 : EqN Tryz.prog 187 3 := EqN.of (EqT.st Tryz.underlying187 ty187 rfl (by kernel_rfl) (.cons rfl rfl (EqT.st Tryz.underlying164 ty164 rfl (by kernel_rfl) (.cons rfl rfl (EqT.int Tryz.underlying3) (.cons rfl rfl (EqT.int Tryz.underlying3) (.cons rfl rfl (EqT.int Tryz.underlying3) ((.nil _))))) : EqT Tryz.prog 164 3 2 true) ((.nil _))) : EqT Tryz.prog 187 3 3 true) (by decide) (by kernel_rfl)
theorem en188 : EqN Tryz.prog 188 3 := EqN.of (EqT.st Tryz.underlying188 ty188 rfl (by kernel_rfl) (.cons rfl rfl (EqT.st Tryz.underlying164 ty164 rfl (by kernel_rfl) (.cons rfl rfl (EqT.int Tryz.underlying3) (.cons rfl rfl (EqT.int Tryz.underlying3) (.cons rfl rfl (EqT.int Tryz.underlying3) ((.nil _))))) : EqT Tryz.prog 164 3 2 true) ((.nil _))) : EqT Tryz.prog 188 3 3 true) (by decide) (by kernel_rfl)
def cx : VX := { te := te, eq2 := [28, 29, 43, 44], eqN := [(127, 3), (128, 3), (163, 3), (164, 3), (187, 3), (188, 3)], inl := false }
theorem cxOK : VXOK Tryz.prog cx := ⟨fun tn ht => by
 simp only [cx, List.mem_cons, List.not_mem_nil, or_false] at ht
 rcases ht with rfl | rfl | rfl | rfl | rfl | rfl
 ·exact en127
 ·exact en128
 ·exact en163
 ·exact en164
 ·exact en187
 ·exact en188,
 teOK, fun t ht => by
 simp only [cx, List.mem_cons, List.not_mem_nil, or_false] at ht
 rcases ht with rfl | rfl | rfl | rfl
 ·exact eq28
 ·exact eq29
 ·exact eq43
 ·exact eq44, by kernel_rfl⟩
def cxI : VX := { cx with inl := true }
theorem cxIOK : VXOK Tryz.prog cxI := ⟨cxOK.eqN, cxOK.te, cxOK.eq2, cxOK.mixed⟩
end Go.Proofs.YtcdlplobniogpaaGreat
namespace Go.Proofs.YtcdlplobniogpaaGreat
open Go
abbrev Pt := Int × Int
def cross (ax ay bx by' cx cy : Int) : Int := (bx - ax) * (cy - ay) - (by' - ay) * (cx - ax)
def isC (x : Int) : Prop := -500000 ≤ x ∧ x ≤ 500000
def isCb (x : Int) : Bool := decide (-500000 ≤ x ∧ x ≤ 500000)
def i64r (x : Int) : Prop := -9223372036854775808 ≤ x ∧ x ≤ 9223372036854775807
theorem isCb_iff {x : Int} : isCb x = true ↔ isC x := by simp [isCb, isC]
def cmpI (x y : Int) : Int := if x < y then -1 else if y < x then 1 else 0
def orL : List Int → Int
 | [] => 0
 | x :: r => if x ≠ 0 then x else orL r
theorem orL_drop : ∀ (xs : List Int) (i : Nat), (∀ j, j < i → xs.getD j 0 = 0) → orL (xs.drop i) = orL xs
 | xs, 0, _ => by simp
 | [], i + 1, _ => by simp
 | x :: xs, i + 1, h => by
  have h0 := h 0 (by omega)
  simp at h0
  subst h0
  rw [List.drop_succ_cons, orL_drop xs i (fun j hj => by have := h (j + 1) (by omega); simpa using this)]
  simp [orL]
def cmpP (ax ay bx by' : Int) : Int := if cmpI ax bx ≠ 0 then cmpI ax bx else cmpI ay by'
def gp (ps : List Pt) (i : Nat) : Pt := ps.getD i (0, 0)
def placeB (p : Pt) : Bool := isCb p.1 && isCb p.2
def crossP (a b c : Pt) : Int := cross a.1 a.2 b.1 b.2 c.1 c.2
def cmpPt (a b : Pt) : Int := cmpP a.1 a.2 b.1 b.2
def v1B (ps : List Pt) (i : Nat) : Bool := placeB (gp ps i) && (i == 0 || decide (cmpPt (gp ps 0) (gp ps i) < 0))
def v2B (a b x : Pt) : Bool := x == a || x == b || decide (0 < crossP a b x)
def v3B (ps : List Pt) (i : Nat) : Bool := (List.range ps.length).all fun k => v2B (gp ps i) (gp ps ((i + 1) % ps.length)) (gp ps k)
def validB (ps : List Pt) : Bool := decide (1 ≤ ps.length) && decide (ps.length ≤ 64) && (List.range ps.length).all (v1B ps) && (decide (ps.length < 3) || (List.range ps.length).all (v3B ps))
def i64P (ps : List Pt) : Prop := ∀ i, i < ps.length → i64r (gp ps i).1 ∧ i64r (gp ps i).2
theorem all_false {n : Nat} {f : Nat → Bool} {i : Nat} (hi : i < n) (h : f i = false) : (List.range n).all f = false := by
 cases hb : (List.range n).all f with
 | false => rfl
 | true => have := List.all_eq_true.1 hb i (List.mem_range.2 hi); rw [h] at this; cases this
theorem all_true {n : Nat} {f : Nat → Bool} (h : ∀ i, i < n → f i = true) : (List.range n).all f = true := List.all_eq_true.2 fun i hi => h i (List.mem_range.1 hi)
theorem all_iff {n : Nat} {f : Nat → Bool} : (List.range n).all f = true ↔ ∀ i, i < n → f i = true := ⟨fun h i hi => List.all_eq_true.1 h i (List.mem_range.2 hi), all_true⟩
def lessB (a b : Pt) : Bool := decide (a.1 < b.1) || (a.1 == b.1 && decide (a.2 < b.2))
theorem lessB_iff (a b : Pt) : lessB a b = decide (cmpPt a b < 0) := by
 obtain ⟨a1, a2⟩ := a
 obtain ⟨b1, b2⟩ := b
 rw [Bool.eq_iff_iff]
 simp only [lessB, cmpPt, cmpP, cmpI, Bool.or_eq_true, Bool.and_eq_true, decide_eq_true_eq, beq_iff_eq]
 repeat' split
 all_goals omega
def r3B (ps : List Pt) (i k : Nat) : Bool := k == i || k == (i + 1) % ps.length || decide (0 < crossP (gp ps i) (gp ps ((i + 1) % ps.length)) (gp ps k))
def validR (ps : List Pt) : Bool := decide (1 ≤ ps.length) && decide (ps.length ≤ 64) && (List.range ps.length).all (fun i => placeB (gp ps i)) && (List.range ps.length).all (fun i => i == 0 || lessB (gp ps 0) (gp ps i)) && (decide (ps.length < 3) || (List.range ps.length).all fun i => (List.range ps.length).all (r3B ps i))
theorem crossP_self (a c : Pt) : crossP a a c = 0 := by simp [crossP, cross]
theorem crossP_swap (a b c : Pt) : crossP a c b = - crossP a b c := by
 simp only [crossP, cross]
 rw [Int.mul_comm (c.1 - a.1), Int.mul_comm (c.2 - a.2)]
 omega
theorem lt_ne {a b : Pt} (h : cmpPt a b < 0) : b ≠ a := by
 intro e; subst e
 simp [cmpPt, cmpP, cmpI] at h
theorem corners_ne {n : Nat} {g : Nat → Pt} (h0 : ∀ i, 0 < i → i < n → g i ≠ g 0)
  (hB : ∀ i, i < n → ∀ k, k < n → g k = g i ∨ g k = g ((i + 1) % n) ∨ 0 < crossP (g i) (g ((i + 1) % n)) (g k)) :
  ∀ a b, a < b → b < n → g a ≠ g b := by
 have hz : ∀ i, 0 < i → i < n → g ((i + 1) % n) ≠ g i := by
  intro i hi hn e
  have := hB i hn 0 (by omega)
  rw [e, crossP_self] at this
  rcases this with h | h | h
  ·exact h0 i hi hn h.symm
  ·exact h0 i hi hn h.symm
  ·omega
 have step : ∀ i j, 0 < i → i < j → j < n → g i = g j → g (i + 1) = g ((j + 1) % n) := by
  intro i j hi hij hj e
  have hsi : (i + 1) % n = i + 1 := Nat.mod_eq_of_lt (by omega)
  have b1 := hB i (by omega) ((j + 1) % n) (Nat.mod_lt _ (by omega))
  have b2 := hB j hj (i + 1) (by omega)
  have z1 := hz i hi (by omega)
  have z2 := hz j (by omega) hj
  rw [hsi] at b1 z1
  rw [← e] at b2 z2
  rcases b1 with b1 | b1 | b1
  ·exact absurd b1 z2
  ·exact b1.symm
  rcases b2 with b2 | b2 | b2
  ·exact absurd b2 z1
  ·exact b2
  ·rw [crossP_swap] at b2; omega
 intro a b hab hb e
 by_cases ha : a = 0
 ·subst ha; exact h0 b hab hb e.symm
 have run : ∀ d, b + d < n → g (a + d) = g (b + d) := by
  intro d
  induction d with
  | zero => intro _; exact e
  | succ d ih =>
   intro h
   have := step (a + d) (b + d) (by omega) (by omega) (by omega) (ih (by omega))
   rw [Nat.mod_eq_of_lt (by omega)] at this
   exact this
 have hlast := step (a + (n - 1 - b)) (b + (n - 1 - b)) (by omega) (by omega) (by omega) (run _ (by omega))
 rw [show (b + (n - 1 - b) + 1) % n = 0 by rw [show b + (n - 1 - b) + 1 = n by omega]; exact Nat.mod_self n] at hlast
 exact h0 _ (by omega) (by omega) hlast
theorem validR_eq (ps : List Pt) : validR ps = validB ps := by
 rw [Bool.eq_iff_iff]
 simp only [validR, validB, Bool.and_eq_true, Bool.or_eq_true, decide_eq_true_eq, all_iff, v1B, v3B, v2B, r3B, lessB_iff, beq_iff_eq]
 constructor
 ·rintro ⟨⟨⟨h1, h2⟩, h3⟩, h4⟩
  refine ⟨⟨h1, fun i hi => ⟨h2 i hi, h3 i hi⟩⟩, ?_⟩
  rcases h4 with h4 | h4
  ·exact .inl h4
  ·refine .inr fun i hi k hk => ?_
   rcases h4 i hi k hk with (h | h) | h
   ·exact .inl (.inl (by rw [h]))
   ·exact .inl (.inr (by rw [h]))
   ·exact .inr h
 ·rintro ⟨⟨h1, h2⟩, h4⟩
  refine ⟨⟨⟨h1, fun i hi => (h2 i hi).1⟩, fun i hi => (h2 i hi).2⟩, ?_⟩
  rcases h4 with h4 | h4
  ·exact .inl h4
  ·refine .inr fun i hi k hk => ?_
   have hne := corners_ne (n := ps.length) (g := gp ps) (fun i hi0 hi => lt_ne (by rcases (h2 i hi).2 with h | h; omega; exact h))
    (fun i hi k hk => by rcases h4 i hi k hk with (h | h) | h; exact .inl h; exact .inr (.inl h); exact .inr (.inr h))
   have inj : ∀ a b, a < ps.length → b < ps.length → gp ps a = gp ps b → a = b := by
    intro a b ha hb e
    rcases Nat.lt_trichotomy a b with h | h | h
    ·exact absurd e (hne a b h hb)
    ·exact h
    ·exact absurd e.symm (hne b a h ha)
   rcases h4 i hi k hk with (h | h) | h
   ·exact .inl (.inl (inj _ _ hk hi h))
   ·exact .inl (.inr (inj _ _ hk (Nat.mod_lt _ (by omega)) h))
   ·exact .inr h
def betwB (a b x : Pt) : Bool := decide (min a.1 b.1 ≤ x.1 ∧ x.1 ≤ max a.1 b.1 ∧ min a.2 b.2 ≤ x.2 ∧ x.2 ≤ max a.2 b.2)
def sideB (ps : List Pt) (x : Pt) (i : Nat) : Bool := decide (0 ≤ crossP (gp ps i) (gp ps ((i + 1) % ps.length)) x)
def hasB (ps : List Pt) (x : Pt) : Bool :=
 if ps.length = 1 then gp ps 0 == x
 else if ps.length = 2 then decide (crossP (gp ps 0) (gp ps 1) x = 0) && betwB (gp ps 0) (gp ps 1) x
 else (List.range ps.length).all (sideB ps x)
def withinB (p q : List Pt) : Bool := p.all (hasB q)
theorem filter_len {α : Type} (f : α → Bool) : ∀ l : List α, decide ((l.filter f).length = l.length) = l.all f
 | [] => rfl
 | x :: l => by
  have ih := filter_len f l
  have := List.length_filter_le f l
  by_cases h : f x = true
  ·rw [List.filter_cons_of_pos h, List.all_cons, h, ← ih]; simp
  ·rw [List.filter_cons_of_neg h, List.all_cons]
   simp only [Bool.not_eq_true] at h
   rw [h]
   simp only [Bool.false_and, decide_eq_false_iff_not, List.length_cons]
   omega
structure CaseS where
 sn : List Int
 cl : List Int
 st : List (List Pt)
structure BelS where
 t : Int
 cs : List CaseS
def gi (l : List Int) (i : Nat) : Int := l.getD i 0
def regionB (r : List (List Pt)) : Bool := decide (r.length ≤ 32) && r.all validB
def gb (bs : List BelS) (i : Nat) : BelS := bs.getD i ⟨0, []⟩
end Go.Proofs.YtcdlplobniogpaaGreat
namespace Go.Proofs.YtcdlplobniogpaaGreat
open Go Go.V Go.RowKit
def pt (x y : Int) : Value := .agg #[.int .i64 x, .int .i64 y]
theorem mul_bd {a b : Int} (M N : Int) (h1 : -M ≤ a) (h2 : a ≤ M) (h3 : -N ≤ b) (h4 : b ≤ N) (hM : 0 ≤ M) (hN : 0 ≤ N) : -(M * N) ≤ a * b ∧ a * b ≤ M * N := by
 have key : ∀ {a b : Int}, -M ≤ a → a ≤ M → -N ≤ b → b ≤ N → a * b ≤ M * N := by
  intro a b h1 h2 h3 h4
  by_cases ha : 0 ≤ a
  ·by_cases hb : 0 ≤ b
   ·exact Int.mul_le_mul h2 h4 hb hM
   ·have : a * b ≤ 0 := Int.mul_nonpos_of_nonneg_of_nonpos ha (by omega)
    have := Int.mul_nonneg hM hN
    omega
  ·by_cases hb : 0 ≤ b
   ·have : a * b ≤ 0 := Int.mul_nonpos_of_nonpos_of_nonneg (by omega) hb
    have := Int.mul_nonneg hM hN
    omega
   ·have := Int.mul_le_mul (a := -a) (b := -b) (c := M) (d := N) (by omega) (by omega) (by omega) hM
    rw [Int.neg_mul_neg] at this
    exact this
 have e1 := key h1 h2 h3 h4
 have e2 := key (a := -a) (b := b) (by omega) (by omega) h3 h4
 rw [Int.neg_mul] at e2
 omega
theorem bd12 {a b : Int} (h1 : -1000000 ≤ a) (h2 : a ≤ 1000000) (h3 : -1000000 ≤ b) (h4 : b ≤ 1000000) : -1000000000000 ≤ a * b ∧ a * b ≤ 1000000000000 := by
 have := mul_bd 1000000 1000000 h1 h2 h3 h4 (by omega) (by omega)
 omega
theorem turn_fn (ax ay bx by' cx' cy : Int) (M : Mem) (h1 : isC ax) (h2 : isC ay) (h3 : isC bx) (h4 : isC by') (h5 : isC cx') (h6 : isC cy) :
  FnP Tryz.prog 133 [pt ax ay, pt bx by', pt cx' cy] M [.int .i64 (cross ax ay bx by' cx' cy)] := by
 unfold isC at *
 have p1 := bd12 (a := bx - ax) (b := cy - ay) (by omega) (by omega) (by omega) (by omega)
 have p2 := bd12 (a := by' - ay) (b := cx' - ax) (by omega) (by omega) (by omega) (by omega)
 refine Fn.of_vc cxOK Tryz.func133 rfl rfl rfl ?_
 refine VArith.ok (by omega) (by omega) ?_
 refine VArith.ok (by omega) (by omega) ?_
 refine VArith.ok (by omega) (by omega) ?_
 refine VArith.ok (by omega) (by omega) ?_
 refine VArith.ok (by omega) (by omega) ?_
 refine VArith.ok (by omega) (by omega) ?_
 refine VArith.ok (by omega) (by omega) ?_
 exact VFact.mk ⟨rfl, rfl⟩ trivial
end Go.Proofs.YtcdlplobniogpaaGreat
namespace Go.Proofs.YtcdlplobniogpaaGreat
open Go Go.V Go.RowKit
def cellsP (ps : List Pt) : List Value := ps.flatMap fun p => [.int .i64 p.1, .int .i64 p.2]
def Pts (M : Mem) (v : Value) (ps : List Pt) : Prop := SlAt M 2 v ps.length (cellsP ps)
def ptv (p : Pt) : Value := pt p.1 p.2
def sidesL (ps : List Pt) : List (List Value) := (List.range ps.length).map fun i => [ptv (ps.getD i (0,0)), ptv (ps.getD ((i + 1) % ps.length) (0,0))]
theorem cellsP_get : ∀ (ps : List Pt) (i : Nat), i < ps.length → (cellsP ps)[2 * i]? = some (.int .i64 (ps.getD i (0,0)).1) ∧ (cellsP ps)[2 * i + 1]? = some (.int .i64 (ps.getD i (0,0)).2)
 | [], i, h => by cases h
 | p :: ps, 0, _ => ⟨rfl, rfl⟩
 | p :: ps, i + 1, h => by
  have := cellsP_get ps i (by simpa using h)
  have e1 : 2 * (i + 1) = 2 * i + 1 + 1 := by omega
  rw [e1]
  simpa [cellsP] using this
theorem box1 {M : Mem} {B : Nat} {v : Value} {t : TypeId} (h : M B = some (.cells #[v] t (0, 0))) : M.cell ⟨B, 0, none⟩ = some v := by
 simp [Mem.cell, h]
theorem sides_iter (M : Mem) (B : Nat) (v : Value) (ps : List Pt) (hB : M B = some (.cells #[v] 64 (0, 0))) (hv : Pts M v ps) :
  Iter Tryz.prog 169 #[.pointer (some ⟨B, 0, none⟩)] M (sidesL ps) := by
 obtain ⟨ad, c, rfl, hc, hm, hl, h1, hcell⟩ := hv
 refine Iter.of_vc cxOK Tryz.func169 rfl rfl rfl rfl fun l => ?_
 refine VRead.mk _ (box1 hB) ?_
 refine VCode.loopG cxOK (fun m => m = fun _ => none) rfl Nat
  (fun i => ⟨[(0, .v (.func (.yield l) #[] #[])), (1, .v (.pointer (some ⟨B, 0, none⟩))), (5, .v (.slice ad ps.length c)), (6, .v (.int .i64 ps.length)), (7, .v (.int .i64 i))], [], 0, M, 25, ⟨fun _ => none, some (l, (sidesL ps).drop i), fun _ => none⟩⟩)
  (fun i => i ≤ ps.length) (fun i => ps.length - i) 0 (Nat.zero_le _) ?_ ?_
 ·exact Wk.mk' id ⟨⟨rfl, rfl⟩, ⟨rfl, rfl⟩, ⟨rfl, rfl⟩, ⟨rfl, rfl⟩, ⟨rfl, rfl⟩, trivial⟩ trivial trivial rfl rfl rfl
 rintro i hi m rfl
 refine VIf.mk (fun hlt => ?_) (fun hge => ?_)
 ·have hlt : i < ps.length := by simpa using hlt
  obtain ⟨ad', rfl, hrd⟩ := hcell (by omega)
  have hpt : ∀ k, k < ps.length → ∀ j v, [Value.int .i64 (ps.getD k (0,0)).1, .int .i64 (ps.getD k (0,0)).2][j]? = some v → M.cell ((ad'.add (k * 2)).add j) = some v := by
   intro k hk j v hj
   obtain ⟨g1, g2⟩ := cellsP_get ps k hk
   rw [show (ad'.add (k * 2)).add j = ad'.add (2 * k + j) by rw [Addr.add_add]; congr 1; omega]
   refine hrd _ _ ?_
   match j, hj with
   | 0, hj => rw [← hj]; exact g1
   | 1, hj => rw [← hj]; exact g2
   | j + 2, hj => simp at hj
  refine VIdx.mk ad' i rfl rfl hlt ?_
  refine VReads.mk [.int .i64 (ps.getD i (0,0)).1, .int .i64 (ps.getD i (0,0)).2] rfl (hpt i hlt) ?_
  refine VDraw.go (by kernel_rfl) ?_
  have hmod : (i + 1) % ps.length < ps.length := Nat.mod_lt _ (by omega)
  refine VRead.mk _ (box1 hB) ?_
  conv => whnf
  refine VArith.ok (by omega) (by unfold maxLen at hm; omega) ?_
  refine VRead.mk _ (box1 hB) ?_
  conv => whnf
  refine VDiv.mk (by omega) ?_
  refine VIdx.mk ad' ((i + 1) % ps.length) rfl ?_ hmod ?_
  ·rw [Int.tmod_eq_emod_of_nonneg (by omega)]; simp
  refine VReads.mk [.int .i64 (ps.getD ((i + 1) % ps.length) (0,0)).1, .int .i64 (ps.getD ((i + 1) % ps.length) (0,0)).2] rfl (hpt _ hmod) ?_
  refine VYield.mk ((sidesL ps).drop (i + 1)) ?_ ?_ ?_
  ·simp only [Gh.mk.injEq, and_true, true_and, Option.some.injEq, Prod.mk.injEq]
   rw [List.drop_eq_getElem_cons (by simpa [sidesL] using hlt)]
   simp [sidesL, ptv, pt]
  ·refine VIf.ff ?_
   refine VArith.ok (by omega) (by unfold maxLen at hm; omega) ?_
   exact ⟨rfl, i + 1, hlt, by omega, Wk.mk' id ⟨⟨rfl, rfl⟩, ⟨rfl, rfl⟩, ⟨rfl, rfl⟩, ⟨rfl, rfl⟩, ⟨rfl, rfl⟩, trivial⟩ trivial trivial rfl rfl rfl⟩
  ·refine VIf.tt ?_
   exact VEnd.stop rfl
 ·have hge : i = ps.length := by
   have : ¬ ((i : Int) < (ps.length : Int)) := by simpa using hge
   omega
  subst hge
  exact VEnd.all (by simp [sidesL])
end Go.Proofs.YtcdlplobniogpaaGreat
namespace Go.Proofs.YtcdlplobniogpaaGreat
open Go Go.V Go.RowKit
theorem bool1 {a b : Bool} (h : a = true ↔ b = true) : [Value.bool a] = [.bool b] := by
 cases a <;> cases b <;> simp_all
theorem Place_fn (x y : Int) (M : Mem) : FnP Tryz.prog 20 [pt x y] M [.bool (isCb x && isCb y)] := by
 refine Fn.of_vc cxOK Tryz.func20 rfl rfl rfl ?_
 repeat' (first | refine VIf.tt ?_ | refine VIf.ff ?_ | refine VIf.mk (fun _ => ?_) (fun _ => ?_) | refine VFact.mk ?_ trivial)
 all_goals (refine ⟨bool1 ?_, rfl⟩; simp only [isCb, Bool.and_eq_true, decide_eq_true_eq, decide_eq_false_iff_not, Bool.false_eq_true, false_iff] at *; omega)
theorem isPlace_fn (x y : Int) (M : Mem) (hx : i64r x) (hy : i64r y) : FnP Tryz.prog 130 [pt x y] M [.bool (isCb x && isCb y)] := by
 unfold i64r at *
 have wmin : IntKind.wrap .i64 (- -9223372036854775808) = -9223372036854775808 := by decide
 refine Fn.of_vc cxOK Tryz.func130 rfl rfl rfl ?_
 have neg : ∀ (z : Int) (K : Int → Prop), -9223372036854775808 ≤ z → z ≤ 9223372036854775807 → (z ≠ -9223372036854775808 → K (-z)) → (z = -9223372036854775808 → K (-9223372036854775808)) → VArith (-9223372036854775808) 9223372036854775807 .i64 (-z) K := by
  intro z K h1 h2 h3 h4
  by_cases hz : z = -9223372036854775808
  ·refine VArith.wr ?_
   rw [hz, wmin]; exact h4 hz
  ·exact VArith.ok (by omega) (by omega) (h3 hz)
 repeat' (first | refine neg _ _ (by omega) (by omega) (fun _ => ?_) (fun _ => ?_) | refine VIf.tt ?_ | refine VIf.ff ?_ | refine VIf.mk (fun _ => ?_) (fun _ => ?_) | refine VFact.mk ?_ trivial)
 all_goals (refine ⟨bool1 ?_, rfl⟩; simp only [isCb, Bool.and_eq_true, decide_eq_true_eq, decide_eq_false_iff_not, Bool.false_eq_true, false_iff] at *; simp only [List.foldl] at *; omega)
theorem isNaN_fn (x : Int) (M : Mem) : FnP Tryz.prog 153 [.int .i64 x] M [.bool false] := by
 refine Fn.of_vc cxOK Tryz.func153 rfl rfl rfl ?_
 refine VFact.mk ⟨?_, rfl⟩ trivial
 simp
theorem Compare_fn (x y : Int) (M : Mem) : FnP Tryz.prog 168 [.int .i64 x, .int .i64 y] M [.int .i64 (cmpI x y)] := by
 refine Fn.of_vc cxOK Tryz.func168 rfl rfl rfl ?_
 repeat' (first | refine VFn.p (isNaN_fn _ _) ?_ | refine VIf.tt ?_ | refine VIf.ff ?_ | refine VIf.mk (fun _ => ?_) (fun _ => ?_) | refine VFact.mk ?_ trivial)
 all_goals (refine ⟨?_, rfl⟩; simp_all [cmpI] <;> omega)
theorem Cross_fn (ax ay bx by' cx cy : Int) (M : Mem) (h1 : isC ax) (h2 : isC ay) (h3 : isC bx) (h4 : isC by') (h5 : isC cx) (h6 : isC cy) :
  FnP Tryz.prog 77 [pt ax ay, pt bx by', pt cx cy] M [.int .i64 (cross ax ay bx by' cx cy)] := by
 unfold isC at *
 have p1 := bd12 (a := bx - ax) (b := cy - ay) (by omega) (by omega) (by omega) (by omega)
 have p2 := bd12 (a := by' - ay) (b := cx - ax) (by omega) (by omega) (by omega) (by omega)
 refine Fn.of_vc cxOK Tryz.func77 rfl rfl rfl ?_
 repeat' (first | refine VArith.ok (by omega) (by omega) ?_)
 exact VFact.mk ⟨rfl, rfl⟩ trivial
end Go.Proofs.YtcdlplobniogpaaGreat
namespace Go.Proofs.YtcdlplobniogpaaGreat
open Go Go.V Go.RowKit
def Ints (M : Mem) (v : Value) (xs : List Int) : Prop := SlAt M 1 v xs.length (xs.map (Value.int .i64))
theorem Or_fn (v : Value) (xs : List Int) (M : Mem) (hv : Ints M v xs) : FnP Tryz.prog 167 [v] M [.int .i64 (orL xs)] := by
 obtain ⟨ad, c, rfl, hc, hm, hl, h1, hcell⟩ := hv
 refine Fn.of_vc cxOK Tryz.func167 rfl rfl rfl ?_
 refine VCode.loop cxOK Nat
  (fun i => ⟨[(3, .v (.int .i64 0)), (6, .v (.slice ad xs.length c)), (7, .v (.int .i64 xs.length)), (8, .v (.int .i64 i))], [], 0, M, 18, ⟨fun _ => none, none, fun _ => none⟩⟩)
  (fun i => i ≤ xs.length ∧ ∀ j, j < i → xs.getD j 0 = 0) (fun i => xs.length - i) 0 ⟨Nat.zero_le _, fun j hj => by omega⟩ ?_ ?_
 ·exact Wk.mk' id ⟨⟨rfl, rfl⟩, ⟨rfl, rfl⟩, ⟨rfl, rfl⟩, ⟨rfl, rfl⟩, trivial⟩ trivial trivial rfl rfl rfl
 rintro i ⟨hi, hz⟩ m
 refine VIf.mk (fun hlt => ?_) (fun hge => ?_)
 ·have hlt : i < xs.length := by simpa using hlt
  obtain ⟨ad', rfl, hrd⟩ := hcell (by omega)
  refine VIdx.mk ad' i rfl rfl hlt ?_
  refine VRead.mk (.int .i64 (xs.getD i 0)) ?_ ?_
  ·have := hrd i (.int .i64 (xs.getD i 0)) (by simp [hlt])
   simpa using this
  refine VIf.mk (fun hne => ?_) (fun heq => ?_)
  ·refine VFact.mk ⟨?_, rfl⟩ trivial
   rw [← orL_drop xs i hz, List.drop_eq_getElem_cons hlt]
   have : xs.getD i 0 ≠ 0 := by simpa using hne
   have e : xs.getD i 0 = xs[i] := by simp [hlt]
   rw [e] at this ⊢
   simp [orL, this]
  ·refine VArith.ok (by omega) (by unfold maxLen at hm; omega) ?_
   refine ⟨i + 1, ⟨hlt, fun j hj => ?_⟩, by omega, Wk.mk' id ⟨⟨rfl, rfl⟩, ⟨rfl, rfl⟩, ⟨rfl, rfl⟩, ⟨rfl, rfl⟩, trivial⟩ trivial trivial rfl rfl rfl⟩
   by_cases hji : j = i
   ·subst hji; simpa using heq
   ·exact hz j (by omega)
 ·have hge : i = xs.length := by
   have : ¬ ((i : Int) < (xs.length : Int)) := by simpa using hge
   omega
  subst hge
  refine VFact.mk ⟨?_, rfl⟩ trivial
  rw [← orL_drop xs _ hz]
  simp [orL]
theorem sides_fn (ad : Option Addr) (n c : Nat) (M : Mem) : V.Fn Tryz.prog 132 [.slice ad n c] M fun rs M' => ∃ B, rs = [.func (.func 169) #[] #[.pointer (some ⟨B, 0, none⟩)]] ∧ M' B = some (.cells #[.slice ad n c] 64 (0, 0)) := by
 refine Fn.of_vc cxOK Tryz.func132 rfl rfl rfl ?_
 refine VFzB.mk fun x B M' hle hB => ?_
 exact VFact.mk ⟨B, rfl, hB⟩ trivial
theorem compare_fn (ax ay bx by' : Int) (M : Mem) : V.Fn Tryz.prog 131 [pt ax ay, pt bx by'] M fun rs _ => rs = [.int .i64 (cmpP ax ay bx by')] := by
 refine Fn.of_vc cxOK Tryz.func131 rfl rfl rfl ?_
 refine VDraw.go (by kernel_rfl) ?_
 refine VFn.p (Compare_fn _ _ _) ?_
 refine VFn.p (Compare_fn _ _ _) ?_
 refine VFz.mk fun x B M' hle hx => ?_
 refine VFn.p (Or_fn x [cmpI ax bx, cmpI ay by'] _ hx) ?_
 refine VFact.mk ?_ trivial
 simp [orL, cmpP]
 by_cases h : cmpI ax bx = 0 <;> by_cases h' : cmpI ay by' = 0 <;> simp [h, h']
end Go.Proofs.YtcdlplobniogpaaGreat
namespace Go.Proofs.YtcdlplobniogpaaGreat
open Go Go.V Go.RowKit
theorem Pts.read {M : Mem} {ad : Addr} {ps : List Pt} (hrd : ∀ (j : Nat) (v : Value), (cellsP ps)[j]? = some v → M.cell (ad.add j) = some v) {k : Nat} (hk : k < ps.length) :
  ∀ j v, [Value.int .i64 (gp ps k).1, .int .i64 (gp ps k).2][j]? = some v → M.cell ((ad.add (k * 2)).add j) = some v := by
 intro j v hj
 obtain ⟨g1, g2⟩ := cellsP_get ps k hk
 rw [show (ad.add (k * 2)).add j = ad.add (2 * k + j) by rw [Addr.add_add]; congr 1; omega]
 refine hrd _ _ ?_
 match j, hj with
 | 0, hj => rw [← hj]; exact g1
 | 1, hj => rw [← hj]; exact g2
 | j + 2, hj => simp at hj
theorem injOK_id : ∀ (l : List (Nat × Option OE)), injOK id l
 | [] => trivial
 | (i, _) :: l => ⟨fun j _ => by by_cases h : i = j; exact .inl h; exact .inr h, injOK_id l⟩
theorem Pts.cellsOf {M : Mem} {ad : Option Addr} {n c : Nat} {ps : List Pt} (h : Pts M (.slice ad n c) ps) : n = ps.length ∧ n ≤ maxLen ∧ ∀ M', M.le M' → ∀ k, k < ps.length → ∃ ad', ad = some ad' ∧ ∀ j v, [Value.int .i64 (gp ps k).1, .int .i64 (gp ps k).2][j]? = some v → M'.cell ((ad'.add (k * 2)).add j) = some v := by
 obtain ⟨ad, c, he, hc, hm, hl, h1, hcell⟩ := h
 cases he
 refine ⟨rfl, by omega, fun M' hM k hk => ?_⟩
 obtain ⟨ad', rfl, hrd⟩ := hcell (by omega)
 exact ⟨ad', rfl, fun j v hj => Mem.cell_le hM (Pts.read hrd hk j v hj)⟩
theorem Pts.shape {M : Mem} {v : Value} {ps : List Pt} (h : Pts M v ps) : ∃ ad c, v = .slice ad ps.length c := let ⟨ad, c, he, _⟩ := h; ⟨ad, c, he⟩
theorem sidesL_get {ps : List Pt} {k : Nat} {args : List Value} (h : (sidesL ps)[k]? = some args) : k < ps.length ∧ args = [ptv (gp ps k), ptv (gp ps ((k + 1) % ps.length))] := by
 simp only [sidesL, List.getElem?_map] at h
 cases hr : (List.range ps.length)[k]? with
 | none => rw [hr] at h; cases h
 | some i =>
  rw [hr] at h
  simp only [Option.map_some, Option.some.injEq] at h
  obtain ⟨h1, h2⟩ := List.getElem?_eq_some_iff.1 hr
  simp at h1 h2
  subst h2
  exact ⟨h1, h.symm⟩
theorem Valid_fn (v : Value) (ps : List Pt) (M : Mem) (hv : Pts M v ps) (hi64 : i64P ps) : V.Fn Tryz.prog 82 [v] M fun rs _ => rs = [.bool (validB ps)] := by
 obtain ⟨ad, c, rfl⟩ := hv.shape
 obtain ⟨_, hm, hrd⟩ := hv.cellsOf
 unfold maxLen at hm
 refine Fn.of_vc cxOK Tryz.func82 rfl rfl rfl ?_
 refine VIf.mk (fun hlt => ?_) (fun hge0 => ?_)
 ·repeat (first | refine VIf.tt ?_ | refine VIf.ff ?_)
  refine VFact.mk ?_ trivial
  have : ps.length = 0 := by simp at hlt; omega
  simp [validB, this]
 repeat (first | refine VIf.tt ?_ | refine VIf.ff ?_)
 refine VIf.mk (fun hgt => ?_) (fun hle => ?_)
 ·refine VFact.mk ?_ trivial
  have : 64 < ps.length := by simp at hgt; omega
  simp [validB]; omega
 refine VCode.loop cxOK (Nat × Mem)
  (fun s => ⟨[(1, .box 0 0), (2, .box 1 0), (17, .v (.slice ad ps.length c)), (18, .v (.int .i64 ps.length)), (19, .v (.int .i64 s.1))], [(1, some (.box 4 [.v (.bool false)])), (0, some (.box 64 [.v (.slice ad ps.length c)]))], 2, s.2, 69, ⟨fun _ => none, none, fun _ => none⟩⟩)
  (fun s => M.le s.2 ∧ s.1 ≤ ps.length ∧ ∀ j, j < s.1 → v1B ps j = true) (fun s => ps.length - s.1) (0, M) ⟨Mem.le_refl _, Nat.zero_le _, fun j hj => by omega⟩ ?_ ?_
 ·exact Wk.mk' id ⟨⟨rfl, rfl⟩, ⟨rfl, rfl⟩, ⟨rfl, rfl⟩, ⟨rfl, rfl⟩, ⟨rfl, rfl⟩, trivial⟩ ⟨⟨rfl, rfl, ⟨rfl, rfl⟩, trivial⟩, ⟨rfl, rfl, ⟨rfl, rfl⟩, trivial⟩, trivial⟩ (injOK_id _) rfl rfl rfl
 rintro ⟨i, M1⟩ ⟨hM1, hi, hz⟩ m
 refine VIf.mk (fun hlt => ?_) (fun hge => ?_)
 ·have hlt : i < ps.length := by simpa using hlt
  obtain ⟨ad', rfl, hpi⟩ := hrd M1 hM1 i hlt
  refine VIdx.mk ad' i rfl rfl hlt ?_
  refine VReads.mk [.int .i64 (gp ps i).1, .int .i64 (gp ps i).2] rfl hpi ?_
  refine VDraw.go (by kernel_rfl) ?_
  refine VFn.p (isPlace_fn _ _ _ (hi64 i hlt).1 (hi64 i hlt).2) ?_
  refine VIf.mk (fun hnp => ?_) (fun hp => ?_)
  ·repeat (first | refine VIf.tt ?_ | refine VIf.ff ?_)
   refine VFact.mk ?_ trivial
   have : v1B ps i = false := by simp [v1B, placeB] at hnp ⊢; intro a b; simp_all
   simp [validB, all_false hlt this]
  have hp : placeB (gp ps i) = true := by simpa [placeB] using hp
  repeat (first | refine VIf.tt ?_ | refine VIf.ff ?_)
  refine VIf.mk (fun hi0 => ?_) (fun hi0 => ?_)
  ·have hi0 : 0 < i := by simp at hi0; omega
   repeat (first | refine VIf.tt ?_ | refine VIf.ff ?_)
   obtain ⟨ad2, he2, hp0⟩ := hrd M1 hM1 0 (by omega)
   cases he2
   refine VIdx.mk ad' 0 rfl rfl (by omega) ?_
   repeat (first | refine VIf.tt ?_ | refine VIf.ff ?_)
   refine VReads.mk [.int .i64 (gp ps 0).1, .int .i64 (gp ps 0).2] rfl hp0 ?_
   repeat (first | refine VIf.tt ?_ | refine VIf.ff ?_)
   refine VFn.mk _ (compare_fn _ _ _ _ _) ?_
   rintro rs M' hM rfl
   repeat (first | refine VIf.tt ?_ | refine VIf.ff ?_)
   refine VIf.mk (fun hc => ?_) (fun hc => ?_)
   ·refine VFact.mk ?_ trivial
    have hcc : ¬ cmpPt (gp ps 0) (gp ps i) < 0 := by simp [cmpPt] at hc ⊢; exact hc
    have : v1B ps i = false := by simp [v1B, hcc, Nat.ne_of_gt hi0]
    simp [validB, all_false hlt this]
   ·refine VArith.ok (by simp only; omega) (by simp only; omega) ?_
    refine ⟨(i + 1, M'), ⟨hM1.trans hM, hlt, fun j hj => ?_⟩, by simp only; omega, Wk.mk' id ⟨⟨rfl, rfl⟩, ⟨rfl, rfl⟩, ⟨rfl, rfl⟩, ⟨rfl, rfl⟩, ⟨rfl, rfl⟩, trivial⟩ ⟨⟨rfl, rfl, ⟨rfl, rfl⟩, trivial⟩, ⟨rfl, rfl, ⟨rfl, rfl⟩, trivial⟩, trivial⟩ (injOK_id _) rfl rfl rfl⟩
    by_cases hji : j = i
    ·subst hji
     have hcc : cmpPt (gp ps 0) (gp ps j) < 0 := by simp [cmpPt] at hc ⊢; exact hc
     simp [v1B, hp, hcc]
    ·exact hz j (by simp only at hj ⊢; omega)
  ·repeat (first | refine VIf.tt ?_ | refine VIf.ff ?_)
   refine VArith.ok (by simp only; omega) (by simp only; omega) ?_
   refine ⟨(i + 1, M1), ⟨hM1, hlt, fun j hj => ?_⟩, by simp only; omega, Wk.mk' id ⟨⟨rfl, rfl⟩, ⟨rfl, rfl⟩, ⟨rfl, rfl⟩, ⟨rfl, rfl⟩, ⟨rfl, rfl⟩, trivial⟩ ⟨⟨rfl, rfl, ⟨rfl, rfl⟩, trivial⟩, ⟨rfl, rfl, ⟨rfl, rfl⟩, trivial⟩, trivial⟩ (injOK_id _) rfl rfl rfl⟩
   by_cases hji : j = i
   ·subst hji
    have : j = 0 := by simp at hi0; omega
    simp only [v1B, hp, Bool.true_and, Bool.or_eq_true, beq_iff_eq]
    exact .inl this
   ·exact hz j (by simp only at hj ⊢; omega)
 have hin : i = ps.length := by
  have : ¬ ((i : Int) < (ps.length : Int)) := by simpa using hge
  simp only at hi
  omega
 subst hin
 have hall : (List.range ps.length).all (v1B ps) = true := all_true hz
 have hC : ∀ k, k < ps.length → isC (gp ps k).1 ∧ isC (gp ps k).2 := fun k hk => by
  have := hz k hk
  simp only [v1B, placeB, Bool.and_eq_true] at this
  exact ⟨isCb_iff.1 this.1.1, isCb_iff.1 this.1.2⟩
 have hn1 : 1 ≤ ps.length := by simp at hge0; omega
 have hn64 : ps.length ≤ 64 := by simp at hle; omega
 refine VIf.mk (fun h3 => ?_) (fun h3 => ?_)
 ·refine VFact.mk ?_ trivial
  have : ps.length < 3 := by simp at h3; omega
  simp [validB, hall, hn1, hn64, this]
 have h3 : ¬ ps.length < 3 := by simp at h3; omega
 refine VFn.mk _ (sides_fn _ _ _ _) ?_
 rintro rs M2 hM2 ⟨B, rfl, hB⟩
 have hM2 : M.le M2 := hM1.trans hM2
 refine VCode.rangeB cxOK rfl (sides_iter M2 B _ ps hB (hv.le hM2)) (fun x hx => ?_) [(1, .box 0 0), (2, .box 1 0)] rfl (by kernel_rfl) (by kernel_rfl) Mem
  (fun k s => ⟨[(1, .box 0 0), (2, .box 1 0)], [(1, some (.box 4 [.v (.bool false)])), (0, some (.box 64 [.v (.slice ad ps.length c)]))], 2, s, 69, ⟨fun _ => none, none, fun _ => none⟩⟩)
  (fun k s => M2.le s ∧ ∀ j, j < k → v3B ps j = true) M2 ⟨Mem.le_refl _, fun j hj => by omega⟩ ?_ (fun k s => ⟨rfl, rfl⟩) ?_ ?_
 ·simp only [sidesL, List.mem_map] at hx
  obtain ⟨k, _, rfl⟩ := hx
  rfl
 ·exact Wk.mk' id ⟨⟨rfl, rfl⟩, ⟨rfl, rfl⟩, trivial⟩ ⟨⟨rfl, rfl, ⟨rfl, rfl⟩, trivial⟩, ⟨rfl, rfl, ⟨rfl, rfl⟩, trivial⟩, trivial⟩ (injOK_id _) rfl rfl rfl
 ·rintro k M3 args ⟨hM3, hz3⟩ hxs m f
  obtain ⟨hk, rfl⟩ := sidesL_get hxs
  have hM3' : M2.le M3 := hM3
  have hM3 : M.le M3 := hM2.trans hM3
  have hk' : (k + 1) % ps.length < ps.length := Nat.mod_lt _ (by omega)
  intro m'
  refine VCode.loop cxOK (Nat × Mem)
   (fun s => ⟨[(1, .box 0 0), (2, .box 1 0), (5, .box 2 0), (6, .box 3 0), (47, .v (.slice ad ps.length c)), (48, .v (.int .i64 ps.length)), (49, .v (.int .i64 s.1))],
    [(3, some (.box 44 [.v (.int .i64 (gp ps ((k + 1) % ps.length)).1), .v (.int .i64 (gp ps ((k + 1) % ps.length)).2)])), (2, some (.box 44 [.v (.int .i64 (gp ps k).1), .v (.int .i64 (gp ps k).2)])), (1, some (.box 4 [.v (.bool false)])), (0, some (.box 64 [.v (.slice ad ps.length c)]))], 4, s.2, 69, ⟨fun _ => none, none, fun _ => none⟩⟩)
   (fun s => M3.le s.2 ∧ s.1 ≤ ps.length ∧ ∀ j, j < s.1 → v2B (gp ps k) (gp ps ((k + 1) % ps.length)) (gp ps j) = true) (fun s => ps.length - s.1) (0, M3) ⟨Mem.le_refl _, Nat.zero_le _, fun j hj => by omega⟩ ?_ ?_
  ·exact Wk.mk' id ⟨⟨rfl, rfl⟩, ⟨rfl, rfl⟩, ⟨rfl, rfl⟩, ⟨rfl, rfl⟩, ⟨rfl, rfl⟩, ⟨rfl, rfl⟩, ⟨rfl, rfl⟩, trivial⟩ ⟨⟨rfl, rfl, ⟨rfl, rfl⟩, ⟨rfl, rfl⟩, trivial⟩, ⟨rfl, rfl, ⟨rfl, rfl⟩, ⟨rfl, rfl⟩, trivial⟩, ⟨rfl, rfl, ⟨rfl, rfl⟩, trivial⟩, ⟨rfl, rfl, ⟨rfl, rfl⟩, trivial⟩, trivial⟩ (injOK_id _) rfl rfl rfl
  rintro ⟨i, M4⟩ ⟨hM4, hi4, hz4⟩ m4
  have hM4' : M3.le M4 := hM4
  have hM4 : M.le M4 := hM3.trans hM4
  have step : ∀ {f : Nat → Bool} (i : Nat), (∀ j, j < i → f j = true) → f i = true → ∀ j, j < i + 1 → f j = true := fun i h hi j hj => by
   by_cases e : j = i
   ·rw [e]; exact hi
   ·exact h j (by omega)
  refine VIf.mk (fun hlt => ?_) (fun hge => ?_)
  ·have hlt : i < ps.length := by simpa using hlt
   obtain ⟨ad', rfl, hpi⟩ := hrd M4 hM4 i hlt
   refine VIdx.mk ad' i rfl rfl hlt ?_
   refine VReads.mk [.int .i64 (gp ps i).1, .int .i64 (gp ps i).2] rfl hpi ?_
   conv => whnf
   refine VIf.mk (fun hxa => ?_) (fun hxa => ?_)
   ·repeat (first | refine VIf.tt ?_ | refine VIf.ff ?_)
    refine VIf.mk (fun hxb => ?_) (fun hxb => ?_)
    ·repeat (first | refine VIf.tt ?_ | refine VIf.ff ?_)
     refine VFn.p (turn_fn _ _ _ _ _ _ _ (hC k hk).1 (hC k hk).2 (hC _ hk').1 (hC _ hk').2 (hC i hlt).1 (hC i hlt).2) ?_
     repeat (first | refine VIf.tt ?_ | refine VIf.ff ?_)
     refine VIf.mk (fun ht => ?_) (fun ht => ?_)
     ·refine ⟨(⟨[(1, .box 0 0), (2, .box 1 0)], [(1, some (.box 4 [.v (.bool false)])), (0, some (.box 64 [.v (.slice (some ad') ps.length c)]))], 2, M4, 69, ⟨fun _ => none, none, fun _ => none⟩⟩ : St), (Wk.mk' id (by repeat' constructor) (by repeat' constructor) (injOK_id _) rfl rfl rfl), rfl, rfl, fun m => ?_⟩
      refine VFact.mk ?_ trivial
      have h2 : v2B (gp ps k) (gp ps ((k + 1) % ps.length)) (gp ps i) = false := by
       have hx := of_decide_eq_true ht
       have hc : ¬ (0 < crossP (gp ps k) (gp ps ((k + 1) % ps.length)) (gp ps i)) := by unfold crossP; omega
       simp only [Bool.not_eq_true', Bool.and_eq_false_iff, beq_eq_false_iff_ne] at hxa hxb
       simp only [v2B, Bool.or_eq_false_iff, beq_eq_false_iff_ne, decide_eq_false_iff_not]
       exact ⟨⟨fun e => by rw [e] at hxa; simp at hxa, fun e => by rw [e] at hxb; simp at hxb⟩, hc⟩
      have h3' : (List.range ps.length).all (v3B ps) = false := all_false hk (all_false hlt h2)
      simp [validB, h3', h3]
     ·refine VArith.ok (by simp only; omega) (by simp only; omega) ?_
      refine ⟨(i + 1, M4), ⟨hM4', hlt, step i hz4 ?_⟩, by simp only; omega, (Wk.mk' id (by repeat' constructor) (by repeat' constructor) (injOK_id _) rfl rfl rfl)⟩
      have hx := of_decide_eq_false ht
      have hc : 0 < crossP (gp ps k) (gp ps ((k + 1) % ps.length)) (gp ps i) := by unfold crossP; omega
      simp [v2B, hc]
    ·repeat (first | refine VIf.tt ?_ | refine VIf.ff ?_)
     refine VArith.ok (by simp only; omega) (by simp only; omega) ?_
     refine ⟨(i + 1, M4), ⟨hM4', hlt, step i hz4 ?_⟩, by simp only; omega, (Wk.mk' id (by repeat' constructor) (by repeat' constructor) (injOK_id _) rfl rfl rfl)⟩
     have e : gp ps i = gp ps ((k + 1) % ps.length) := by
      simp only [Bool.not_eq_false', Bool.and_eq_true, beq_iff_eq] at hxb
      exact Prod.ext hxb.1 hxb.2
     simp [v2B, e]
   ·repeat (first | refine VIf.tt ?_ | refine VIf.ff ?_)
    refine VArith.ok (by simp only; omega) (by simp only; omega) ?_
    refine ⟨(i + 1, M4), ⟨hM4', hlt, step i hz4 ?_⟩, by simp only; omega, (Wk.mk' id (by repeat' constructor) (by repeat' constructor) (injOK_id _) rfl rfl rfl)⟩
    have e : gp ps i = gp ps k := by
     simp only [Bool.not_eq_false', Bool.and_eq_true, beq_iff_eq] at hxa
     exact Prod.ext hxa.1 hxa.2
    simp [v2B, e]
  ·have hin : i = ps.length := by
    have : ¬ ((i : Int) < (ps.length : Int)) := by simpa using hge
    simp only at hi4
    omega
   subst hin
   refine ⟨M4, ⟨hM3'.trans hM4', step k hz3 (all_true hz4)⟩, (Wk.mk' id (by repeat' constructor) (by repeat' constructor) (injOK_id _) rfl rfl rfl)⟩
 ·rintro M3 m ⟨hM3, hz3⟩
  refine VFact.mk ?_ trivial
  have : (List.range ps.length).all (v3B ps) = true := all_true fun j hj => hz3 j (by simpa [sidesL] using hj)
  simp [validB, hall, hn1, hn64, this]
end Go.Proofs.YtcdlplobniogpaaGreat
namespace Go.Proofs.YtcdlplobniogpaaGreat
open Go Go.V Go.RowKit
def Arr {α : Type} (D : Mem → α → List Value → Prop) (M : Mem) (k : Nat) (v : Value) (l : List α) : Prop :=
 ∃ rows : List (List Value), rows.length = l.length ∧ (∀ r ∈ rows, r.length = k) ∧ SlAt M k v l.length rows.flatten ∧ ∀ (i : Nat) (x : α) (r : List Value), l[i]? = some x → rows[i]? = some r → D M x r
theorem Arr.le {α : Type} {D : Mem → α → List Value → Prop} (hD : ∀ M M' x r, M.le M' → D M x r → D M' x r) {M M' : Mem} {k : Nat} {v : Value} {l : List α} (h : Arr D M k v l) (hM : M.le M') : Arr D M' k v l :=
 let ⟨rows, h1, h2, h3, h4⟩ := h
 ⟨rows, h1, h2, h3.le hM, fun i x r hx hr => hD _ _ _ _ hM (h4 i x r hx hr)⟩
theorem flat_get {k : Nat} : ∀ (rows : List (List Value)) (i : Nat) (r : List Value), (∀ r ∈ rows, r.length = k) → rows[i]? = some r → ∀ j x, r[j]? = some x → rows.flatten[i * k + j]? = some x
 | [], i, r, _, h, _, _, _ => by simp at h
 | r0 :: rows, 0, r, hk, h, j, x, hx => by
  simp at h; subst h
  rw [List.flatten_cons, Nat.zero_mul, Nat.zero_add, List.getElem?_append_left (List.getElem?_eq_some_iff.1 hx).1]
  exact hx
 | r0 :: rows, i + 1, r, hk, h, j, x, hx => by
  have h0 := hk r0 (List.mem_cons_self)
  rw [List.flatten_cons, List.getElem?_append_right (by rw [h0, Nat.add_mul]; omega)]
  rw [show (i + 1) * k + j - r0.length = i * k + j by rw [h0, Nat.add_mul]; omega]
  exact flat_get rows i r (fun r hr => hk r (List.mem_cons_of_mem _ hr)) (by simpa using h) j x hx
theorem Arr.get {α : Type} {D : Mem → α → List Value → Prop} {M : Mem} {k : Nat} {v : Value} {l : List α} (h : Arr D M k v l) :
  ∃ ad c, v = .slice ad l.length c ∧ l.length ≤ 9223372036854775807 ∧ ∀ i x, l[i]? = some x → ∃ ad' r, ad = some ad' ∧ r.length = k ∧ D M x r ∧ ∀ M', M.le M' → ∀ j y, r[j]? = some y → M'.cell ((ad'.add (i * k)).add j) = some y := by
 obtain ⟨rows, h1, h2, ⟨ad, c, rfl, hc, hm, hl, ho, hcell⟩, h4⟩ := h
 refine ⟨ad, c, rfl, ?_, fun i x hx => ?_⟩
 ·unfold maxLen at hm; omega
 have hi := (List.getElem?_eq_some_iff.1 hx).1
 obtain ⟨ad', rfl, hrd⟩ := hcell (by omega)
 have hr : rows[i]? = some (rows[i]'(by omega)) := List.getElem?_eq_getElem (by omega)
 refine ⟨ad', _, rfl, h2 _ (List.getElem_mem _), h4 i x _ hx hr, fun M' hM j y hy => ?_⟩
 rw [Addr.add_add]
 exact Mem.cell_le hM (hrd _ _ (flat_get rows i _ h2 hr j y hy))
theorem add0 (a : Addr) : a.add 0 = a := by simp [Addr.add]
def IntD (_ : Mem) (n : Int) (r : List Value) : Prop := r = [.int .i64 n] ∧ i64r n
def PolyD (M : Mem) (ps : List Pt) (r : List Value) : Prop := ∃ v, r = [v] ∧ Pts M v ps ∧ i64P ps
def IntsV (M : Mem) (v : Value) (l : List Int) : Prop := Arr IntD M 1 v l
def RegV (M : Mem) (v : Value) (l : List (List Pt)) : Prop := Arr PolyD M 1 v l
theorem IntsV.le {M M' : Mem} {v : Value} {l : List Int} (h : IntsV M v l) (hM : M.le M') : IntsV M' v l := Arr.le (fun _ _ _ _ _ h => h) h hM
theorem RegV.le {M M' : Mem} {v : Value} {l : List (List Pt)} (h : RegV M v l) (hM : M.le M') : RegV M' v l :=
 Arr.le (fun _ _ _ _ hM ⟨v, h1, h2, h3⟩ => ⟨v, h1, SlAt.le hM h2, h3⟩) h hM
theorem getD_get {α : Type} {l : List α} {i : Nat} (d : α) (h : i < l.length) : l[i]? = some (l.getD i d) := by simp [h]
theorem IntsV.get {M : Mem} {v : Value} {l : List Int} (h : IntsV M v l) : ∃ ad c, v = .slice ad l.length c ∧ l.length ≤ 9223372036854775807 ∧ ∀ M', M.le M' → ∀ i, i < l.length → ∃ ad', ad = some ad' ∧ i64r (gi l i) ∧ M'.cell (ad'.add (i * 1)) = some (.int .i64 (gi l i)) := by
 obtain ⟨ad, c, h1, h2, h3⟩ := Arr.get h
 refine ⟨ad, c, h1, h2, fun M' hM i hi => ?_⟩
 obtain ⟨ad', r, h4, _, ⟨rfl, h5⟩, h6⟩ := h3 i _ (getD_get 0 hi)
 exact ⟨ad', h4, h5, by have := h6 M' hM 0 _ rfl; rw [add0] at this; exact this⟩
theorem RegV.get {M : Mem} {v : Value} {l : List (List Pt)} (h : RegV M v l) : ∃ ad c, v = .slice ad l.length c ∧ l.length ≤ 9223372036854775807 ∧ ∀ M', M.le M' → ∀ i, i < l.length → ∃ ad' w, ad = some ad' ∧ Pts M' w (l.getD i []) ∧ i64P (l.getD i []) ∧ M'.cell (ad'.add (i * 1)) = some w := by
 obtain ⟨ad, c, h1, h2, h3⟩ := Arr.get h
 refine ⟨ad, c, h1, h2, fun M' hM i hi => ?_⟩
 obtain ⟨ad', r, h4, _, ⟨w, rfl, h5, h5'⟩, h6⟩ := h3 i _ (getD_get [] hi)
 exact ⟨ad', w, h4, SlAt.le hM h5, h5', by have := h6 M' hM 0 _ rfl; rw [add0] at this; exact this⟩
theorem RegV.shape {M : Mem} {v : Value} {l : List (List Pt)} (h : RegV M v l) : ∃ ad c, v = .slice ad l.length c := let ⟨ad, c, he, _⟩ := h.get; ⟨ad, c, he⟩
end Go.Proofs.YtcdlplobniogpaaGreat
namespace Go.Proofs.YtcdlplobniogpaaGreat
open Go Go.V Go.RowKit
theorem stepI {f : Nat → Bool} {i : Nat} (h : ∀ j, j < i → f j = true) (hi : f i = true) : ∀ j, j < i + 1 → f j = true := fun j hj => by
 by_cases e : j = i
 ·rw [e]; exact hi
 ·exact h j (by omega)
theorem lt_of_dec {a b : Nat} (h : decide ((a : Int) < (b : Int)) = true) : a < b := by simpa using h
theorem ge_of_dec {a b : Nat} (h : decide ((a : Int) < (b : Int)) = false) : b ≤ a := by simpa using h
theorem eq_of_bne {a b : Nat} (h : ((a : Int) != (b : Int)) = false) : a = b := by have := (bne_eq_false_iff_eq).1 h; omega
theorem ne_of_bne {a b : Nat} (h : ((a : Int) != (b : Int)) = true) : a ≠ b := by have := bne_iff_ne.1 h; omega
theorem bn1 {b : Bool} (h : (!b) = true) : b = false := by simpa using h
theorem bn2 {b : Bool} (h : (!b) = false) : b = true := by simpa using h
theorem Less_fn (ax ay bx by' : Int) (M : Mem) : FnP Tryz.prog 128 [pt ax ay, pt bx by'] M [.bool (lessB (ax, ay) (bx, by'))] := by
 refine Fn.of_vc cxOK Tryz.func128 rfl rfl rfl ?_
 repeat' (first | refine VIf.tt ?_ | refine VIf.ff ?_ | refine VIf.mk (fun _ => ?_) (fun _ => ?_) | refine VFact.mk ?_ trivial)
 all_goals (refine ⟨bool1 ?_, rfl⟩; simp only [lessB, Bool.or_eq_true, Bool.and_eq_true, decide_eq_true_eq, decide_eq_false_iff_not, beq_iff_eq, beq_eq_false_iff_ne, Bool.false_eq_true, false_iff, true_iff, eq_self] at *; omega)
theorem between_fn (ax ay bx by' cx' cy : Int) (M : Mem) : FnP Tryz.prog 78 [pt ax ay, pt bx by', pt cx' cy] M [.bool (betwB (ax, ay) (bx, by') (cx', cy))] := by
 refine Fn.of_vc cxOK Tryz.func78 rfl rfl rfl ?_
 repeat' (first | refine VIf.tt ?_ | refine VIf.ff ?_ | refine VIf.mk (fun _ => ?_) (fun _ => ?_) | refine VFact.mk ?_ trivial)
 all_goals (refine ⟨bool1 ?_, rfl⟩; simp only [betwB, decide_eq_true_eq, decide_eq_false_iff_not, Bool.false_eq_true, false_iff] at *; simp only [List.foldl] at *; omega)
theorem places_fn (v : Value) (ps : List Pt) (M : Mem) (hv : Pts M v ps) : FnP Tryz.prog 127 [v] M [.bool ((List.range ps.length).all fun i => placeB (gp ps i))] := by
 obtain ⟨ad, c, rfl⟩ := hv.shape
 obtain ⟨_, hm, hrd⟩ := hv.cellsOf
 unfold maxLen at hm
 refine Fn.of_vc cxOK Tryz.func127 rfl rfl rfl ?_
 refine VCode.loop cxOK Nat (fun i => ⟨[(0, .v (.slice ad ps.length c)), (3, .v (.int .i64 i))], [], 0, M, 16, ⟨fun _ => none, none, fun _ => none⟩⟩)
  (fun i => i ≤ ps.length ∧ ∀ j, j < i → placeB (gp ps j) = true) (fun i => ps.length - i) 0 ⟨Nat.zero_le _, fun j hj => by omega⟩ (Wk.mk' id (by repeat' constructor) (by repeat' constructor) (injOK_id _) rfl rfl rfl) ?_
 rintro i ⟨hi, hz⟩ m
 refine VIf.mk (fun hlt => ?_) (fun hge => ?_)
 ·have hlt := lt_of_dec hlt
  obtain ⟨ad', rfl, hpi⟩ := hrd M (Mem.le_refl _) i hlt
  refine VIdx.mk ad' i rfl rfl hlt ?_
  refine VReads.mk [.int .i64 (gp ps i).1, .int .i64 (gp ps i).2] rfl hpi ?_
  refine VFn.p (Place_fn _ _ _) ?_
  refine VIf.mk (fun hp => ?_) (fun hp => ?_)
  ·refine VFact.mk ⟨?_, rfl⟩ trivial
   rw [all_false hlt (bn1 hp)]
  ·refine VArith.ok (by first | omega | (simp only; omega)) (by first | omega | (simp only; omega)) ?_
   exact ⟨i + 1, ⟨hlt, stepI hz (bn2 hp)⟩, (by first | omega | (simp only; omega)), (Wk.mk' id (by repeat' constructor) (by repeat' constructor) (injOK_id _) rfl rfl rfl)⟩
 ·have := ge_of_dec hge
  have e : i = ps.length := by omega
  subst e
  refine VFact.mk ⟨?_, rfl⟩ trivial
  rw [all_true hz]
theorem ValidR_fn (v : Value) (ps : List Pt) (M : Mem) (hv : Pts M v ps) (_hi64 : i64P ps) : FnP Tryz.prog 79 [v] M [.bool (validR ps)] := by
 obtain ⟨ad, c, rfl⟩ := hv.shape
 obtain ⟨_, hm, hrd⟩ := hv.cellsOf
 unfold maxLen at hm
 refine Fn.of_vc cxOK Tryz.func79 rfl rfl rfl ?_
 have bad1 : ps.length < 1 → validR ps = false := fun h => by simp [validR]; omega
 have bad2 : 64 < ps.length → validR ps = false := fun h => by simp [validR]; omega
 refine VIf.mk (fun h1 => ?_) (fun h1 => ?_)
 ·repeat (first | refine VIf.tt ?_ | refine VIf.ff ?_)
  refine VFact.mk ⟨?_, rfl⟩ trivial
  rw [bad1 (by simp only [decide_eq_true_eq] at h1; omega)]
 repeat (first | refine VIf.tt ?_ | refine VIf.ff ?_)
 refine VIf.mk (fun h2 => ?_) (fun h2 => ?_)
 ·repeat (first | refine VIf.tt ?_ | refine VIf.ff ?_)
  refine VFact.mk ⟨?_, rfl⟩ trivial
  rw [bad2 (by simp at h2; omega)]
 repeat (first | refine VIf.tt ?_ | refine VIf.ff ?_)
 refine VFn.p (places_fn _ ps _ hv) ?_
 repeat (first | refine VIf.tt ?_ | refine VIf.ff ?_)
 refine VIf.mk (fun h3 => ?_) (fun h3 => ?_)
 ·refine VFact.mk ⟨?_, rfl⟩ trivial
  have := bn1 h3
  simp [validR, this]
 have hpl := all_iff.1 (bn2 h3)
 have hn1 : 1 ≤ ps.length := by simp only [decide_eq_false_iff_not] at h1; omega
 have hn64 : ps.length ≤ 64 := by simp only [decide_eq_false_iff_not] at h2; omega
 have hC : ∀ k, k < ps.length → isC (gp ps k).1 ∧ isC (gp ps k).2 := fun k hk => by
  have := hpl k hk
  simp only [placeB, Bool.and_eq_true] at this
  exact ⟨isCb_iff.1 this.1, isCb_iff.1 this.2⟩
 have rd : ∀ k, k < ps.length → _ := hrd M (Mem.le_refl _)
 obtain ⟨ad', rfl, hp0⟩ := rd 0 (by omega)
 refine VCode.loop cxOK Nat (fun i => ⟨[(0, .v (.slice (some ad') ps.length c)), (3, .v (.int .i64 ps.length)), (4, .v (.int .i64 (i + 1 : Nat)))], [], 0, M, 78, ⟨fun _ => none, none, fun _ => none⟩⟩)
  (fun i => i + 1 ≤ ps.length ∧ ∀ j, j < i + 1 → (j == 0 || lessB (gp ps 0) (gp ps j)) = true) (fun i => ps.length - i) 0 ⟨hn1, fun j hj => by simp; omega⟩ (Wk.mk' id (by repeat' constructor) (by repeat' constructor) (injOK_id _) rfl rfl rfl) ?_
 rintro i ⟨hi, hz⟩ m
 refine VIf.mk (fun hlt => ?_) (fun hge => ?_)
 ·have hlt := lt_of_dec hlt
  obtain ⟨_, he, hpi⟩ := rd (i + 1) hlt
  cases he
  refine VDraw.go (by kernel_rfl) ?_
  refine VIdx.mk ad' 0 rfl rfl (by omega) ?_
  refine VReads.mk [.int .i64 (gp ps 0).1, .int .i64 (gp ps 0).2] rfl hp0 ?_
  refine VIdx.mk ad' (i + 1) rfl rfl hlt ?_
  refine VReads.mk [.int .i64 (gp ps (i + 1)).1, .int .i64 (gp ps (i + 1)).2] rfl hpi ?_
  refine VFn.p (Less_fn _ _ _ _ _) ?_
  refine VIf.mk (fun hp => ?_) (fun hp => ?_)
  ·refine VFact.mk ⟨?_, rfl⟩ trivial
   have : (List.range ps.length).all (fun i => i == 0 || lessB (gp ps 0) (gp ps i)) = false := all_false hlt (by have := bn1 hp; simpa using this)
   simp [validR, this]
  ·refine VArith.ok (by first | omega | (simp only; omega)) (by first | omega | (simp only; omega)) ?_
   exact ⟨i + 1, ⟨by omega, stepI hz (by have := bn2 hp; simpa using this)⟩, (by first | omega | (simp only; omega)), (Wk.mk' id (by repeat' constructor) (by repeat' constructor) (injOK_id _) rfl rfl rfl)⟩
 ·have := ge_of_dec hge
  have e : i + 1 = ps.length := by omega
  have hall : (List.range ps.length).all (fun i => i == 0 || lessB (gp ps 0) (gp ps i)) = true := all_true (by rw [← e]; exact hz)
  have hplB : (List.range ps.length).all (fun i => placeB (gp ps i)) = true := bn2 h3
  refine VCode.loop cxOK Nat (fun i => ⟨[(0, .v (.slice (some ad') ps.length c)), (3, .v (.int .i64 ps.length)), (5, .v (.int .i64 i))], [], 0, M, 78, ⟨fun _ => none, none, fun _ => none⟩⟩)
   (fun i => i ≤ ps.length ∧ ∀ j, j < i → (List.range ps.length).all (r3B ps j) = true) (fun i => ps.length - i) 0 ⟨Nat.zero_le _, fun j hj => by omega⟩ (Wk.mk' id (by repeat' constructor) (by repeat' constructor) (injOK_id _) rfl rfl rfl) ?_
  rintro i ⟨hi, hz⟩ m
  refine VIf.mk (fun hlt => ?_) (fun hge => ?_)
  ·have hlt := lt_of_dec hlt
   repeat (first | refine VIf.tt ?_ | refine VIf.ff ?_)
   refine VIf.mk (fun h3n => ?_) (fun h3n => ?_)
   ·have h3n : ¬ ps.length < 3 := by simp only [decide_eq_true_eq] at h3n; omega
    obtain ⟨_, he, hpi⟩ := rd i hlt
    cases he
    have hs : (i + 1) % ps.length < ps.length := Nat.mod_lt _ (by omega)
    obtain ⟨_, he, hps⟩ := rd _ hs
    cases he
    refine VCode.loop cxOK Nat (fun k => ⟨[(0, .v (.slice (some ad') ps.length c)), (3, .v (.int .i64 ps.length)), (5, .v (.int .i64 i)), (6, .v (.int .i64 k))], [], 0, M, 78, ⟨fun _ => none, none, fun _ => none⟩⟩)
     (fun k => k ≤ ps.length ∧ ∀ j, j < k → r3B ps i j = true) (fun k => ps.length - k) 0 ⟨Nat.zero_le _, fun j hj => by omega⟩ (Wk.mk' id (by repeat' constructor) (by repeat' constructor) (injOK_id _) rfl rfl rfl) ?_
    rintro k ⟨hk, hzk⟩ m
    refine VIf.mk (fun hlk => ?_) (fun hgk => ?_)
    ·have hlk := lt_of_dec hlk
     obtain ⟨_, he, hpk⟩ := rd k hlk
     cases he
     refine VDraw.go (by kernel_rfl) ?_
     refine VIf.mk (fun hki => ?_) (fun hki => ?_)
     ·repeat (first | refine VIf.tt ?_ | refine VIf.ff ?_)
      refine VArith.ok (by first | omega | (simp only; omega)) (by first | omega | (simp only; omega)) ?_
      repeat (first | refine VIf.tt ?_ | refine VIf.ff ?_)
      refine VDiv.mk (by omega) ?_
      repeat (first | refine VIf.tt ?_ | refine VIf.ff ?_)
      have es : ((i : Int) + 1).tmod (ps.length : Int) = (((i + 1) % ps.length : Nat) : Int) := by
       rw [Int.tmod_eq_emod_of_nonneg (by omega)]; simp
      refine VIf.mk (fun hks => ?_) (fun hks => ?_)
      ·repeat (first | refine VIf.tt ?_ | refine VIf.ff ?_)
       refine VIdx.mk ad' i rfl rfl hlt ?_
       repeat (first | refine VIf.tt ?_ | refine VIf.ff ?_)
       refine VReads.mk [.int .i64 (gp ps i).1, .int .i64 (gp ps i).2] rfl hpi ?_
       repeat (first | refine VIf.tt ?_ | refine VIf.ff ?_)
       refine VArith.ok (by first | omega | (simp only; omega)) (by first | omega | (simp only; omega)) ?_
       repeat (first | refine VIf.tt ?_ | refine VIf.ff ?_)
       refine VDiv.mk (by omega) ?_
       repeat (first | refine VIf.tt ?_ | refine VIf.ff ?_)
       refine VIdx.mk ad' ((i + 1) % ps.length) rfl es hs ?_
       repeat (first | refine VIf.tt ?_ | refine VIf.ff ?_)
       refine VReads.mk [.int .i64 (gp ps ((i + 1) % ps.length)).1, .int .i64 (gp ps ((i + 1) % ps.length)).2] rfl hps ?_
       repeat (first | refine VIf.tt ?_ | refine VIf.ff ?_)
       refine VIdx.mk ad' k rfl rfl hlk ?_
       repeat (first | refine VIf.tt ?_ | refine VIf.ff ?_)
       refine VReads.mk [.int .i64 (gp ps k).1, .int .i64 (gp ps k).2] rfl hpk ?_
       repeat (first | refine VIf.tt ?_ | refine VIf.ff ?_)
       refine VFn.p (Cross_fn _ _ _ _ _ _ _ (hC i hlt).1 (hC i hlt).2 (hC _ hs).1 (hC _ hs).2 (hC k hlk).1 (hC k hlk).2) ?_
       repeat (first | refine VIf.tt ?_ | refine VIf.ff ?_)
       refine VIf.mk (fun hc => ?_) (fun hc => ?_)
       ·refine VFact.mk ⟨?_, rfl⟩ trivial
        have hc := of_decide_eq_true hc
        have h3 : r3B ps i k = false := by
         have e1 : k ≠ i := by simp at hki; omega
         have e2 : k ≠ (i + 1) % ps.length := by rw [es] at hks; exact ne_of_bne hks
         have hc : ¬ (0 < crossP (gp ps i) (gp ps ((i + 1) % ps.length)) (gp ps k)) := by unfold crossP; omega
         simp [r3B, e1, e2, hc]
        have h3' : ((List.range ps.length).all fun i => (List.range ps.length).all (r3B ps i)) = false := all_false hlt (all_false hlk h3)
        simp [validR, h3', h3n]
       ·refine VArith.ok (by first | omega | (simp only; omega)) (by first | omega | (simp only; omega)) ?_
        refine ⟨k + 1, ⟨hlk, stepI hzk ?_⟩, (by first | omega | (simp only; omega)), (Wk.mk' id (by repeat' constructor) (by repeat' constructor) (injOK_id _) rfl rfl rfl)⟩
        have hc := of_decide_eq_false hc
        have hc : 0 < crossP (gp ps i) (gp ps ((i + 1) % ps.length)) (gp ps k) := by unfold crossP; omega
        simp [r3B, hc]
      ·repeat (first | refine VIf.tt ?_ | refine VIf.ff ?_)
       refine VArith.ok (by first | omega | (simp only; omega)) (by first | omega | (simp only; omega)) ?_
       refine ⟨k + 1, ⟨hlk, stepI hzk ?_⟩, (by first | omega | (simp only; omega)), (Wk.mk' id (by repeat' constructor) (by repeat' constructor) (injOK_id _) rfl rfl rfl)⟩
       rw [es] at hks
       have : k = (i + 1) % ps.length := eq_of_bne hks
       simp [r3B, this]
     ·repeat (first | refine VIf.tt ?_ | refine VIf.ff ?_)
      refine VArith.ok (by first | omega | (simp only; omega)) (by first | omega | (simp only; omega)) ?_
      refine ⟨k + 1, ⟨hlk, stepI hzk ?_⟩, (by first | omega | (simp only; omega)), (Wk.mk' id (by repeat' constructor) (by repeat' constructor) (injOK_id _) rfl rfl rfl)⟩
      have : k = i := by simp at hki; omega
      simp [r3B, this]
    ·have : k = ps.length := by have := ge_of_dec hgk; omega
     subst this
     refine VArith.ok (by first | omega | (simp only; omega)) (by first | omega | (simp only; omega)) ?_
     exact ⟨i + 1, ⟨hlt, stepI hz (all_true hzk)⟩, (by first | omega | (simp only; omega)), (Wk.mk' id (by repeat' constructor) (by repeat' constructor) (injOK_id _) rfl rfl rfl)⟩
   ·refine VFact.mk ⟨?_, rfl⟩ trivial
    have : ps.length < 3 := by simp only [decide_eq_false_iff_not] at h3n; omega
    simp [validR, hplB, hall, this, hn1, hn64]
  ·repeat (first | refine VIf.tt ?_ | refine VIf.ff ?_)
   have : i = ps.length := by have := ge_of_dec hge; omega
   subst this
   refine VFact.mk ⟨?_, rfl⟩ trivial
   have := all_true hz
   simp [validR, hplB, hall, this, hn1, hn64]
end Go.Proofs.YtcdlplobniogpaaGreat
namespace Go.Proofs.YtcdlplobniogpaaGreat
open Go Go.V Go.RowKit
def allC (ps : List Pt) : Prop := ∀ k, k < ps.length → isC (gp ps k).1 ∧ isC (gp ps k).2
theorem allC_of {ps : List Pt} (h : validB ps = true) : allC ps := fun k hk => by
 simp only [validB, Bool.and_eq_true, all_iff, v1B, placeB] at h
 have := (h.1.2 k hk).1
 exact ⟨isCb_iff.1 this.1, isCb_iff.1 this.2⟩
theorem tmod_nat {i n : Nat} : ((i : Int) + 1).tmod (n : Int) = (((i + 1) % n : Nat) : Int) := by
 rw [Int.tmod_eq_emod_of_nonneg (by omega)]; simp
theorem Inside_fn (v : Value) (ps : List Pt) (x y : Int) (M : Mem) (hv : Pts M v ps) (hC : allC ps) (hx : isC x) (hy : isC y) : FnP Tryz.prog 46 [v, pt x y] M [.bool (hasB ps (x, y))] := by
 obtain ⟨ad, c, rfl⟩ := hv.shape
 obtain ⟨_, hm, hrd⟩ := hv.cellsOf
 unfold maxLen at hm
 refine Fn.of_vc cxOK Tryz.func46 rfl rfl rfl ?_
 have rd : ∀ k, k < ps.length → _ := hrd M (Mem.le_refl _)
 refine VIf.mk (fun h1 => ?_) (fun h1 => ?_)
 ·have h1 : ps.length = 1 := by simp at h1; omega
  obtain ⟨ad', rfl, hp0⟩ := rd 0 (by omega)
  refine VDraw.go (by kernel_rfl) ?_
  refine VIdx.mk ad' 0 rfl rfl (by omega) ?_
  refine VReads.mk [.int .i64 (gp ps 0).1, .int .i64 (gp ps 0).2] rfl hp0 ?_
  refine VFact.mk ⟨?_, rfl⟩ trivial
  simp only [hasB, h1, if_true]
  rfl
 have h1 : ps.length ≠ 1 := by simp at h1; omega
 refine VIf.mk (fun h2 => ?_) (fun h2 => ?_)
 ·have h2 : ps.length = 2 := by simp at h2; omega
  obtain ⟨ad', rfl, hp0⟩ := rd 0 (by omega)
  obtain ⟨_, he, hp1⟩ := rd 1 (by omega)
  cases he
  refine VDraw.go (by kernel_rfl) ?_
  refine VIdx.mk ad' 0 rfl rfl (by omega) ?_
  refine VReads.mk [.int .i64 (gp ps 0).1, .int .i64 (gp ps 0).2] rfl hp0 ?_
  refine VIdx.mk ad' 1 rfl rfl (by omega) ?_
  refine VReads.mk [.int .i64 (gp ps 1).1, .int .i64 (gp ps 1).2] rfl hp1 ?_
  refine VFn.p (Cross_fn _ _ _ _ _ _ _ (hC 0 (by omega)).1 (hC 0 (by omega)).2 (hC 1 (by omega)).1 (hC 1 (by omega)).2 hx hy) ?_
  refine VIf.mk (fun hc => ?_) (fun hc => ?_)
  ·repeat (first | refine VIf.tt ?_ | refine VIf.ff ?_)
   refine VIdx.mk ad' 0 rfl rfl (by omega) ?_
   repeat (first | refine VIf.tt ?_ | refine VIf.ff ?_)
   refine VReads.mk [.int .i64 (gp ps 0).1, .int .i64 (gp ps 0).2] rfl hp0 ?_
   repeat (first | refine VIf.tt ?_ | refine VIf.ff ?_)
   refine VIdx.mk ad' 1 rfl rfl (by omega) ?_
   repeat (first | refine VIf.tt ?_ | refine VIf.ff ?_)
   refine VReads.mk [.int .i64 (gp ps 1).1, .int .i64 (gp ps 1).2] rfl hp1 ?_
   repeat (first | refine VIf.tt ?_ | refine VIf.ff ?_)
   refine VFn.p (between_fn _ _ _ _ _ _ _) ?_
   repeat (first | refine VIf.tt ?_ | refine VIf.ff ?_)
   refine VFact.mk ⟨?_, rfl⟩ trivial
   have hc : crossP (gp ps 0) (gp ps 1) (x, y) = 0 := by simpa [crossP] using hc
   simp [hasB, h2, hc]
  ·repeat (first | refine VIf.tt ?_ | refine VIf.ff ?_)
   refine VFact.mk ⟨?_, rfl⟩ trivial
   have hc : ¬ crossP (gp ps 0) (gp ps 1) (x, y) = 0 := by simpa [crossP] using hc
   simp [hasB, h2, hc]
 have h2 : ps.length ≠ 2 := by simp at h2; omega
 refine VCode.loop cxOK Nat (fun i => ⟨[(0, .v (.slice ad ps.length c)), (3, .box 0 0), (5, .v (.int .i64 ps.length)), (6, .v (.int .i64 i))], [(0, some (.box 44 [.v (.int .i64 x), .v (.int .i64 y)]))], 1, M, 56, ⟨fun _ => none, none, fun _ => none⟩⟩)
  (fun i => i ≤ ps.length ∧ ∀ j, j < i → sideB ps (x, y) j = true) (fun i => ps.length - i) 0 ⟨Nat.zero_le _, fun j hj => by omega⟩ (Wk.mk' id (by repeat' constructor) (by repeat' constructor) (injOK_id _) rfl rfl rfl) ?_
 rintro i ⟨hi, hz⟩ m
 refine VIf.mk (fun hlt => ?_) (fun hge => ?_)
 ·have hlt := lt_of_dec hlt
  have hs : (i + 1) % ps.length < ps.length := Nat.mod_lt _ (by omega)
  obtain ⟨ad', rfl, hpi⟩ := rd i hlt
  obtain ⟨_, he, hps⟩ := rd _ hs
  cases he
  refine VDraw.go (by kernel_rfl) ?_
  refine VIdx.mk ad' i rfl rfl hlt ?_
  refine VReads.mk [.int .i64 (gp ps i).1, .int .i64 (gp ps i).2] rfl hpi ?_
  refine VArith.ok (by first | omega | (simp only; omega)) (by first | omega | (simp only; omega)) ?_
  refine VDiv.mk (by omega) ?_
  refine VIdx.mk ad' _ rfl tmod_nat hs ?_
  refine VReads.mk [.int .i64 (gp ps ((i + 1) % ps.length)).1, .int .i64 (gp ps ((i + 1) % ps.length)).2] rfl hps ?_
  refine VFn.p (Cross_fn _ _ _ _ _ _ _ (hC i hlt).1 (hC i hlt).2 (hC _ hs).1 (hC _ hs).2 hx hy) ?_
  refine VIf.mk (fun hc => ?_) (fun hc => ?_)
  ·refine VFact.mk ⟨?_, rfl⟩ trivial
   have hc := of_decide_eq_true hc
   have : sideB ps (x, y) i = false := decide_eq_false (Int.not_le.2 hc)
   simp [hasB, h1, h2, all_false hlt this]
  ·refine VArith.ok (by first | omega | (simp only; omega)) (by first | omega | (simp only; omega)) ?_
   have hc := of_decide_eq_false hc
   exact ⟨i + 1, ⟨hlt, stepI hz (decide_eq_true (Int.not_lt.1 hc))⟩, (by first | omega | (simp only; omega)), (Wk.mk' id (by repeat' constructor) (by repeat' constructor) (injOK_id _) rfl rfl rfl)⟩
 ·have : i = ps.length := by have := ge_of_dec hge; omega
  subst this
  refine VFact.mk ⟨?_, rfl⟩ trivial
  simp only [hasB, h1, h2, if_false, all_true hz]
def loB (g : Pt → Int) (ps : List Pt) : Int := ps.foldl (fun a p => min a (g p)) (g (gp ps 0))
def hiB (g : Pt → Int) (ps : List Pt) : Int := ps.foldl (fun a p => max a (g p)) (g (gp ps 0))
theorem take_step {α β : Type} (f : β → α → β) (b : β) (l : List α) (d : α) {i : Nat} (h : i < l.length) : (l.take (i + 1)).foldl f b = f ((l.take i).foldl f b) (l.getD i d) := by
 rw [List.take_add_one, List.foldl_append]
 simp [h]
theorem ends_fn (v : Value) (ps : List Pt) (fid : Nat) (g : Pt → Int) (M : Mem) (hv : Pts M v ps) (hn : 1 ≤ ps.length) (hg : ∀ i, i < ps.length → ∀ M', FnP Tryz.prog fid [ptv (gp ps i)] M' [.int .i64 (g (gp ps i))]) : FnP Tryz.prog 84 [v, .func (.func fid) #[] #[]] M [.int .i64 (loB g ps), .int .i64 (hiB g ps)] := by
 obtain ⟨ad, c, rfl⟩ := hv.shape
 obtain ⟨_, hm, hrd⟩ := hv.cellsOf
 unfold maxLen at hm
 refine Fn.of_vc cxOK Tryz.func84 rfl rfl rfl ?_
 have rd : ∀ k, k < ps.length → _ := hrd M (Mem.le_refl _)
 obtain ⟨ad', rfl, hp0⟩ := rd 0 (by omega)
 refine VDraw.go (by kernel_rfl) ?_
 refine VIdx.mk ad' 0 rfl rfl (by omega) ?_
 refine VReads.mk [.int .i64 (gp ps 0).1, .int .i64 (gp ps 0).2] rfl hp0 ?_
 refine VIdx.mk ad' 0 rfl rfl (by omega) ?_
 refine VReads.mk [.int .i64 (gp ps 0).1, .int .i64 (gp ps 0).2] rfl hp0 ?_
 refine VFn.p (hg 0 (by omega) _) ?_
 refine VFn.p (hg 0 (by omega) _) ?_
 refine VCode.loop cxOK Nat (fun i => ⟨[(1, .v (.func (.func fid) #[] #[])), (6, .v (.int .i64 ((ps.take i).foldl (fun a p => min a (g p)) (g (gp ps 0))))), (7, .v (.int .i64 ((ps.take i).foldl (fun a p => max a (g p)) (g (gp ps 0))))), (20, .v (.slice (some ad') ps.length c)), (21, .v (.int .i64 ps.length)), (22, .v (.int .i64 i))], [], 0, M, 39, ⟨fun _ => none, none, fun _ => none⟩⟩)
  (fun i => i ≤ ps.length) (fun i => ps.length - i) 0 (Nat.zero_le _) (Wk.mk' id (by repeat' constructor) (by repeat' constructor) (injOK_id _) rfl rfl rfl) ?_
 rintro i hi m
 refine VIf.mk (fun hlt => ?_) (fun hge => ?_)
 ·have hlt := lt_of_dec hlt
  obtain ⟨_, he, hpi⟩ := rd i hlt
  cases he
  refine VIdx.mk ad' i rfl rfl hlt ?_
  refine VReads.mk [.int .i64 (gp ps i).1, .int .i64 (gp ps i).2] rfl hpi ?_
  refine VDraw.go (by kernel_rfl) ?_
  refine VFn.p (hg i hlt _) ?_
  refine VFn.p (hg i hlt _) ?_
  refine VArith.ok (by first | omega | (simp only; omega)) (by first | omega | (simp only; omega)) ?_
  refine ⟨i + 1, hlt, (by first | omega | (simp only; omega)), ?_⟩
  dsimp only
  rw [take_step _ _ ps (0, 0) hlt, take_step _ _ ps (0, 0) hlt]
  exact (Wk.mk' id (by repeat' constructor) (by repeat' constructor) (injOK_id _) rfl rfl rfl)
 ·have : i = ps.length := by have := ge_of_dec hge; omega
  subst this
  refine VFact.mk ⟨?_, rfl⟩ trivial
  rw [List.take_length]
  rfl
theorem Box1_fn (p : Pt) (M : Mem) : FnP Tryz.prog 85 [ptv p] M [.int .i64 p.1] := by
 refine Fn.of_vc cxOK Tryz.func85 rfl rfl rfl ?_
 exact VFact.mk ⟨rfl, rfl⟩ trivial
theorem Box2_fn (p : Pt) (M : Mem) : FnP Tryz.prog 86 [ptv p] M [.int .i64 p.2] := by
 refine Fn.of_vc cxOK Tryz.func86 rfl rfl rfl ?_
 exact VFact.mk ⟨rfl, rfl⟩ trivial
def boxLo (ps : List Pt) : Pt := (loB (·.1) ps, loB (·.2) ps)
def boxHi (ps : List Pt) : Pt := (hiB (·.1) ps, hiB (·.2) ps)
theorem Box_fn (v : Value) (ps : List Pt) (M : Mem) (hv : Pts M v ps) (hi64 : i64P ps) : V.Fn Tryz.prog 53 [v] M fun rs _ => rs = if validB ps = true then [ptv (boxLo ps), ptv (boxHi ps), .int .i64 0] else [pt 0 0, pt 0 0, .int .i64 1] := by
 refine Fn.of_vc cxOK Tryz.func53 rfl rfl rfl ?_
 refine VFn.mk _ (Valid_fn v ps M hv hi64) ?_
 rintro rs M' hM rfl
 refine VIf.mk (fun hV => ?_) (fun hV => ?_)
 ·refine VDraw.go (by kernel_rfl) ?_
  have := bn1 hV
  refine VFact.mk rfl ?_
  refine VFact.mk ?_ trivial
  rw [this]; rfl
 ·have hV := bn2 hV
  have hn : 1 ≤ ps.length := by simp only [validB, Bool.and_eq_true, decide_eq_true_eq] at hV; omega
  refine VFn.p (ends_fn v ps _ (·.1) _ (hv.le hM) hn (fun i _ M' => Box1_fn _ M')) ?_
  refine VFn.p (ends_fn v ps _ (·.2) _ (hv.le hM) hn (fun i _ M' => Box2_fn _ M')) ?_
  refine VDraw.go (by kernel_rfl) ?_
  refine VFact.mk rfl ?_
  refine VFact.mk ?_ trivial
  rw [hV]; rfl
end Go.Proofs.YtcdlplobniogpaaGreat
namespace Go.Proofs.YtcdlplobniogpaaGreat
open Go Go.V Go.RowKit
theorem has_small (ps : List Pt) (hn : ps.length = 1 ∨ ps.length = 2) (x : Pt) :
  hasB ps x = (decide (crossP (gp ps 0) (gp ps (ps.length - 1)) x = 0) && decide ((boxLo ps).1 ≤ x.1) && decide (x.1 ≤ (boxHi ps).1) && decide ((boxLo ps).2 ≤ x.2) && decide (x.2 ≤ (boxHi ps).2)) := by
 match ps, hn with
 | [p], _ =>
  rw [Bool.eq_iff_iff]
  simp only [hasB, List.length_cons, List.length_nil, boxLo, boxHi, loB, hiB, gp, List.getD_cons_zero, List.foldl_cons, List.foldl_nil, Bool.and_eq_true, decide_eq_true_eq, if_true, beq_iff_eq]
  constructor
  ·rintro rfl; simp [crossP_self]
  ·rintro ⟨⟨⟨h1, h2⟩, h3⟩, h4⟩
   exact Prod.ext (by omega) (by omega)
 | [p, q], _ =>
  rw [Bool.eq_iff_iff]
  simp only [hasB, betwB, List.length_cons, List.length_nil, boxLo, boxHi, loB, hiB, gp, List.getD_cons_zero, List.getD_cons_succ, List.foldl_cons, List.foldl_nil, Bool.and_eq_true, decide_eq_true_eq, Nat.reduceAdd, Nat.reduceSub, Nat.reduceEqDiff, if_true, if_false]
  omega
 | [], h => simp at h
 | _ :: _ :: _ :: _, h => simp at h
set_option maxRecDepth 20000 in
theorem Has_fn (v : Value) (ps : List Pt) (x y : Int) (M : Mem) (hv : Pts M v ps) (hi64 : i64P ps) (hx : i64r x) (hy : i64r y) : V.Fn Tryz.prog 176 [v, pt x y] M fun rs _ => rs = if (validB ps && placeB (x, y)) = true then [.bool (hasB ps (x, y)), .int .i64 0] else [.bool false, .int .i64 1] := by
 obtain ⟨ad, c, rfl⟩ := hv.shape
 obtain ⟨_, hm, hrd⟩ := hv.cellsOf
 unfold maxLen at hm
 refine Fn.of_vc cxOK Tryz.func176 rfl rfl rfl ?_
 refine VFn.mk _ (Valid_fn _ ps M hv hi64) ?_
 rintro rs M1 hM1 rfl
 refine VIf.mk (fun hV => ?_) (fun hV => ?_)
 ·repeat (first | refine VIf.tt ?_ | refine VIf.ff ?_)
  refine VFact.mk ?_ trivial
  rw [bn1 hV]; rfl
 have hV := bn2 hV
 have hC := allC_of hV
 have hn1 : 1 ≤ ps.length := by simp only [validB, Bool.and_eq_true, decide_eq_true_eq] at hV; omega
 repeat (first | refine VIf.tt ?_ | refine VIf.ff ?_)
 refine VFn.p (isPlace_fn _ _ _ hx hy) ?_
 repeat (first | refine VIf.tt ?_ | refine VIf.ff ?_)
 refine VIf.mk (fun hP => ?_) (fun hP => ?_)
 ·refine VFact.mk ?_ trivial
  rw [show placeB (x, y) = false from bn1 hP, Bool.and_false]; rfl
 have hP : placeB (x, y) = true := bn2 hP
 have hxy : isC x ∧ isC y := by
  simp only [placeB, Bool.and_eq_true] at hP
  exact ⟨isCb_iff.1 hP.1, isCb_iff.1 hP.2⟩
 rw [hV, hP]
 refine VIf.mk (fun h3 => ?_) (fun h3 => ?_)
 ·have h3 : ps.length = 1 ∨ ps.length = 2 := by simp only [decide_eq_true_eq] at h3; omega
  refine VFn.mk _ (Box_fn _ ps M1 (hv.le hM1) hi64) ?_
  rintro rs M2 hM2 rfl
  rw [hV]
  have hs := has_small ps h3 (x, y)
  obtain ⟨lx, ly, hlo⟩ : ∃ lx ly, boxLo ps = (lx, ly) := ⟨_, _, rfl⟩
  obtain ⟨hx', hy', hhi⟩ : ∃ hx hy, boxHi ps = (hx, hy) := ⟨_, _, rfl⟩
  rw [hlo, hhi] at hs
  rw [hlo, hhi, hs]
  obtain ⟨ad', rfl, hp0⟩ := hrd M2 (hM1.trans hM2) 0 (by omega)
  obtain ⟨_, he, hp1⟩ := hrd M2 (hM1.trans hM2) (ps.length - 1) (by omega)
  cases he
  refine VDraw.go (by kernel_rfl) ?_
  refine VIdx.mk ad' 0 rfl rfl (by omega) ?_
  refine VReads.mk [.int .i64 (gp ps 0).1, .int .i64 (gp ps 0).2] rfl hp0 ?_
  refine VArith.ok (by first | omega | (simp only; omega)) (by first | omega | (simp only; omega)) ?_
  refine VIdx.mk ad' (ps.length - 1) rfl (by omega) (by omega) ?_
  refine VReads.mk [.int .i64 (gp ps (ps.length - 1)).1, .int .i64 (gp ps (ps.length - 1)).2] rfl hp1 ?_
  have htf := turn_fn _ _ _ _ _ _ M2 (hC 0 (by omega)).1 (hC 0 (by omega)).2 (hC (ps.length - 1) (by omega)).1 (hC (ps.length - 1) (by omega)).2 hxy.1 hxy.2
  have hcr : crossP (gp ps 0) (gp ps (ps.length - 1)) (x, y) = cross (gp ps 0).1 (gp ps 0).2 (gp ps (ps.length - 1)).1 (gp ps (ps.length - 1)).2 x y := rfl
  generalize cross (gp ps 0).1 (gp ps 0).2 (gp ps (ps.length - 1)).1 (gp ps (ps.length - 1)).2 x y = cr at htf hcr
  refine VFn.p htf ?_
  repeat' (first | refine VIf.tt ?_ | refine VIf.ff ?_ | refine VIf.mk (fun _ => ?_) (fun _ => ?_))
  all_goals (refine VFact.mk ?_ trivial)
  all_goals (show _ = _; rw [hcr]; refine congrArg (fun b => [Value.bool b, Value.int .i64 0]) ?_)
  all_goals simp_all
  all_goals omega
 ·have h3 : ¬ ps.length < 3 := by simp only [decide_eq_false_iff_not] at h3; omega
  refine VFn.mk _ (sides_fn _ _ _ _) ?_
  rintro rs M2 hM2 ⟨B, rfl, hB⟩
  have hM2' : M.le M2 := hM1.trans hM2
  refine VCode.rangeB cxOK rfl (sides_iter M2 B _ ps hB (hv.le hM2')) (fun x hx => ?_) [(3, .box 0 0), (4, .box 1 0), (5, .box 2 0)] rfl (by kernel_rfl) (by kernel_rfl) Unit
   (fun k s => ⟨[(3, .box 0 0), (4, .box 1 0), (5, .box 2 0)], [(2, some (.box 33 [.v (.int .i64 0)])), (1, some (.box 4 [.v (.bool false)])), (0, some (.box 44 [.v (.int .i64 x), .v (.int .i64 y)]))], 3, M2, 77, ⟨fun _ => none, none, fun _ => none⟩⟩)
   (fun k s => ∀ j, j < k → sideB ps (x, y) j = true) () (fun j hj => by omega) ?_ (fun k s => ⟨rfl, rfl⟩) ?_ ?_
  ·simp only [sidesL, List.mem_map] at hx
   obtain ⟨k, _, rfl⟩ := hx
   rfl
  ·exact (Wk.mk' id (by repeat' constructor) (by repeat' constructor) (injOK_id _) rfl rfl rfl)
  ·rintro k s args hz hxs m f
   obtain ⟨hk, rfl⟩ := sidesL_get hxs
   have hk' : (k + 1) % ps.length < ps.length := Nat.mod_lt _ (by omega)
   intro m'
   refine VFn.p (turn_fn _ _ _ _ _ _ _ (hC k hk).1 (hC k hk).2 (hC _ hk').1 (hC _ hk').2 hxy.1 hxy.2) ?_
   refine VIf.mk (fun ht => ?_) (fun ht => ?_)
   ·refine ⟨(⟨[(3, .box 0 0), (4, .box 1 0), (5, .box 2 0)], [(2, some (.box 33 [.v (.int .i64 0)])), (1, some (.box 4 [.v (.bool false)])), (0, some (.box 44 [.v (.int .i64 x), .v (.int .i64 y)]))], 3, M2, 77, ⟨fun _ => none, none, fun _ => none⟩⟩ : St), (Wk.mk' id (by repeat' constructor) (by repeat' constructor) (injOK_id _) rfl rfl rfl), rfl, rfl, fun m => ?_⟩
    refine VFact.mk ?_ trivial
    have ht := of_decide_eq_true ht
    have : sideB ps (x, y) k = false := decide_eq_false (Int.not_le.2 ht)
    simp [hasB, show ps.length ≠ 1 by omega, show ps.length ≠ 2 by omega, all_false hk this]
   ·have ht := of_decide_eq_false ht
    exact ⟨(), stepI hz (decide_eq_true (Int.not_lt.1 ht)), (Wk.mk' id (by repeat' constructor) (by repeat' constructor) (injOK_id _) rfl rfl rfl)⟩
  ·rintro s m hz
   refine VFact.mk ?_ trivial
   have : (List.range ps.length).all (sideB ps (x, y)) = true := all_true fun j hj => hz j (by simpa [sidesL] using hj)
   simp [hasB, show ps.length ≠ 1 by omega, show ps.length ≠ 2 by omega, this]
end Go.Proofs.YtcdlplobniogpaaGreat
namespace Go.Proofs.YtcdlplobniogpaaGreat
open Go Go.V Go.RowKit
end Go.Proofs.YtcdlplobniogpaaGreat
namespace Go.Proofs.YtcdlplobniogpaaGreat
open Go Go.V Go.RowKit
def small (l : List Int) : Prop := ∀ i, i < l.length → -1000000 ≤ gi l i ∧ gi l i ≤ 1000000
theorem cellAt {M : Mem} {B : Nat} {cs : Array Value} {t : TypeId} (h : M B = some (.cells cs t (0, 0))) (j : Nat) {v : Value} (hv : cs[j]? = some v) : M.cell ((⟨B, 0, none⟩ : Addr).add j) = some v := by
 unfold Mem.cell Addr.add
 by_cases e : j = 0
 ·subst e; simp only [if_true, h]; exact hv
 ·simp only [e, if_false, h, Nat.zero_add]; exact hv
end Go.Proofs.YtcdlplobniogpaaGreat
namespace Go.Proofs.YtcdlplobniogpaaGreat
open Go Go.V Go.RowKit
def gr (r : List (List Pt)) (i : Nat) : List Pt := r.getD i []
theorem any_getD {α : Type} (d : α) (g : α → Bool) (l : List α) {i : Nat} (hi : i < l.length) (h : g (l.getD i d) = true) : l.any g = true := by
 rw [List.any_eq_true]
 exact ⟨_, List.getElem_mem hi, by simpa [hi] using h⟩
theorem any_none {α : Type} (d : α) (g : α → Bool) (l : List α) (h : ∀ i, i < l.length → g (l.getD i d) = false) : l.any g = false := by
 rw [List.any_eq_false]
 intro x hx
 obtain ⟨i, hi, rfl⟩ := List.getElem_of_mem hx
 have := h i hi
 simp [hi] at this
 simp [this]
theorem all_getD {α : Type} (d : α) (g : α → Bool) (l : List α) (h : ∀ i, i < l.length → g (l.getD i d) = true) : l.all g = true := by
 rw [List.all_eq_true]
 intro x hx
 obtain ⟨i, hi, rfl⟩ := List.getElem_of_mem hx
 have := h i hi
 simpa [hi] using this
theorem all_getD' {α : Type} (d : α) (g : α → Bool) (l : List α) {i : Nat} (hi : i < l.length) (h : g (l.getD i d) = false) : l.all g = false := by
 cases hb : l.all g with
 | false => rfl
 | true =>
  have := List.all_eq_true.1 hb _ (List.getElem_mem hi)
  simp [hi] at h
  rw [h] at this; cases this
theorem IndexR0_fn (v : Value) (r : List (List Pt)) (fid : Nat) (g : List Pt → Bool) (M : Mem) (hv : RegV M v r) (hg : ∀ i, i < r.length → ∀ M', M.le M' → ∀ w, Pts M' w (gr r i) → i64P (gr r i) → V.Fn Tryz.prog fid [w] M' fun rs _ => rs = [.bool (g (gr r i))]) :
  V.Fn Tryz.prog 129 [v, .func (.func fid) #[] #[]] M fun rs _ => ∃ k : Int, rs = [.int .i64 k] ∧ (0 ≤ k ↔ r.any g = true) := by
 obtain ⟨ad, c, rfl, hm, hrd⟩ := hv.get
 refine Fn.of_vc cxOK Tryz.func129 rfl rfl rfl ?_
 refine VCode.loop cxOK (Nat × Mem) (fun s => ⟨[(0, .v (.slice ad r.length c)), (1, .v (.func (.func fid) #[] #[])), (7, .v (.int .i64 r.length)), (8, .v (.int .i64 s.1))], [], 0, s.2, 19, ⟨fun _ => none, none, fun _ => none⟩⟩)
  (fun s => M.le s.2 ∧ s.1 ≤ r.length ∧ ∀ j, j < s.1 → g (gr r j) = false) (fun s => r.length - s.1) (0, M) ⟨Mem.le_refl _, Nat.zero_le _, fun j hj => by simp at hj⟩ (Wk.mk' id (by repeat' constructor) (by repeat' constructor) (injOK_id _) rfl rfl rfl) ?_
 rintro ⟨i, M1⟩ ⟨hM1, hi, hz⟩ m
 have hM1 : M.le M1 := hM1
 refine VIf.mk (fun hlt => ?_) (fun hge => ?_)
 ·have hlt : i < r.length := lt_of_dec hlt
  obtain ⟨ad', w, rfl, hp, hp64, hc1⟩ := hrd M1 hM1 i hlt
  refine VIdx.mk ad' i rfl rfl hlt ?_
  refine VRead.mk _ hc1 ?_
  refine VFn.mk _ (hg i hlt M1 hM1 w hp hp64) ?_
  rintro rs M2 hM2 rfl
  refine VIf.mk (fun hc => ?_) (fun hc => ?_)
  ·refine VFact.mk ⟨i, rfl, ?_⟩ trivial
   have := any_getD [] g r hlt hc
   simp [this]
  ·refine VArith.ok (by first | omega | (simp only; omega)) (by first | omega | (simp only; omega)) ?_
   refine ⟨(i + 1, M2), ⟨hM1.trans hM2, hlt, fun j hj => ?_⟩, (by first | omega | (simp only; omega)), (Wk.mk' id (by repeat' constructor) (by repeat' constructor) (injOK_id _) rfl rfl rfl)⟩
   by_cases e : j = i
   ·subst e; exact hc
   ·exact hz j (by simp only at hj ⊢; omega)
 ·have : i = r.length := by have := ge_of_dec hge; have hi : i ≤ r.length := hi; omega
  subst this
  refine VFact.mk ⟨-1, rfl, ?_⟩ trivial
  have := any_none [] g r hz
  simp [this]
theorem ContainsR0_fn (v : Value) (r : List (List Pt)) (fid : Nat) (g : List Pt → Bool) (M : Mem) (hv : RegV M v r) (hg : ∀ i, i < r.length → ∀ M', M.le M' → ∀ w, Pts M' w (gr r i) → i64P (gr r i) → V.Fn Tryz.prog fid [w] M' fun rs _ => rs = [.bool (g (gr r i))]) :
  V.Fn Tryz.prog 80 [v, .func (.func fid) #[] #[]] M fun rs _ => rs = [.bool (r.any g)] := by
 obtain ⟨ad, c, rfl, hm, hrd⟩ := hv.get
 refine Fn.of_vc cxOK Tryz.func80 rfl rfl rfl ?_
 refine VFn.mk _ (IndexR0_fn _ r fid g M hv hg) ?_
 rintro rs M1 hM1 ⟨k, rfl, hk⟩
 refine VFact.mk (bool1 ?_) trivial
 rw [← hk]; simp
theorem invalid1_fn (w : Value) (ps : List Pt) (M : Mem) (hv : Pts M w ps) (hi : i64P ps) : V.Fn Tryz.prog 81 [w] M fun rs _ => rs = [.bool (!validB ps)] := by
 refine Fn.of_vc cxOK Tryz.func81 rfl rfl rfl ?_
 refine VFn.mk _ (Valid_fn w ps M hv hi) ?_
 rintro rs M1 hM1 rfl
 exact VFact.mk rfl trivial
theorem invalid_fn (v : Value) (r : List (List Pt)) (M : Mem) (hv : RegV M v r) : V.Fn Tryz.prog 50 [v] M fun rs _ => rs = [.bool (r.any fun p => !validB p)] := by
 obtain ⟨ad, c, rfl⟩ := hv.shape
 refine Fn.of_vc cxOK Tryz.func50 rfl rfl rfl ?_
 refine VFn.mk _ (ContainsR0_fn _ r _ (fun p => !validB p) M hv fun i _ M' _ w hw h64 => invalid1_fn w _ M' hw h64) ?_
 rintro rs M1 hM1 rfl
 exact VFact.mk rfl trivial
theorem not_any {α : Type} (g : α → Bool) : ∀ l : List α, (!l.any fun x => !g x) = l.all g
 | [] => rfl
 | x :: l => by
  have := not_any g l
  simp only [List.any_cons, List.all_cons, Bool.not_or, Bool.not_not, this]
theorem regValid_fn (v : Value) (r : List (List Pt)) (M : Mem) (hv : RegV M v r) : V.Fn Tryz.prog 35 [v] M fun rs _ => rs = [.bool (regionB r)] := by
 obtain ⟨ad, c, rfl⟩ := hv.shape
 refine Fn.of_vc cxOK Tryz.func35 rfl rfl rfl ?_
 refine VIf.mk (fun h1 => ?_) (fun h1 => ?_)
 ·repeat (first | refine VIf.tt ?_ | refine VIf.ff ?_)
  refine VFn.mk _ (invalid_fn _ r M hv) ?_
  rintro rs M1 hM1 rfl
  repeat (first | refine VIf.tt ?_ | refine VIf.ff ?_)
  refine VFact.mk ?_ trivial
  have h1 : r.length ≤ 32 := by have := of_decide_eq_true h1; omega
  rw [not_any]
  simp [regionB, h1]
 ·repeat (first | refine VIf.tt ?_ | refine VIf.ff ?_)
  refine VFact.mk ?_ trivial
  have h1 : ¬ r.length ≤ 32 := by have := of_decide_eq_false h1; omega
  simp [regionB, h1]
theorem polygonsR_fn (v : Value) (r : List (List Pt)) (M : Mem) (hv : RegV M v r) : FnP Tryz.prog 47 [v] M [.bool (r.all validB)] := by
 obtain ⟨ad, c, rfl, hm, hrd⟩ := hv.get
 refine Fn.of_vc cxOK Tryz.func47 rfl rfl rfl ?_
 refine VCode.loop cxOK Nat (fun i => ⟨[(0, .v (.slice ad r.length c)), (3, .v (.int .i64 i))], [], 0, M, 18, ⟨fun _ => none, none, fun _ => none⟩⟩)
  (fun i => i ≤ r.length ∧ ∀ j, j < i → validB (gr r j) = true) (fun i => r.length - i) 0 ⟨Nat.zero_le _, fun j hj => by omega⟩ (Wk.mk' id (by repeat' constructor) (by repeat' constructor) (injOK_id _) rfl rfl rfl) ?_
 rintro i ⟨hi, hz⟩ m
 refine VIf.mk (fun hlt => ?_) (fun hge => ?_)
 ·have hlt : i < r.length := lt_of_dec hlt
  obtain ⟨ad', w, rfl, hp, hp64, hc1⟩ := hrd M (Mem.le_refl _) i hlt
  refine VIdx.mk ad' i rfl rfl hlt ?_
  refine VRead.mk _ hc1 ?_
  refine VFn.p (ValidR_fn w _ M hp hp64) ?_
  rw [validR_eq]
  refine VIf.mk (fun hc => ?_) (fun hc => ?_)
  ·refine VFact.mk ⟨?_, rfl⟩ trivial
   rw [all_getD' [] validB r hlt (bn1 hc)]
  ·refine VArith.ok (by first | omega | (simp only; omega)) (by first | omega | (simp only; omega)) ?_
   exact ⟨i + 1, ⟨hlt, stepI hz (bn2 hc)⟩, (by first | omega | (simp only; omega)), (Wk.mk' id (by repeat' constructor) (by repeat' constructor) (injOK_id _) rfl rfl rfl)⟩
 ·have : i = r.length := by have := ge_of_dec hge; omega
  subst this
  refine VFact.mk ⟨?_, rfl⟩ trivial
  rw [all_getD [] validB r hz]
theorem regValidR_fn (v : Value) (r : List (List Pt)) (M : Mem) (hv : RegV M v r) : FnP Tryz.prog 22 [v] M [.bool (regionB r)] := by
 obtain ⟨ad, c, rfl⟩ := hv.shape
 refine Fn.of_vc cxOK Tryz.func22 rfl rfl rfl ?_
 refine VIf.mk (fun h1 => ?_) (fun h1 => ?_)
 ·repeat (first | refine VIf.tt ?_ | refine VIf.ff ?_)
  refine VFn.p (polygonsR_fn _ r M hv) ?_
  repeat (first | refine VIf.tt ?_ | refine VIf.ff ?_)
  refine VFact.mk ⟨?_, rfl⟩ trivial
  have h1 : r.length ≤ 32 := by have := of_decide_eq_true h1; omega
  simp [regionB, h1]
 ·repeat (first | refine VIf.tt ?_ | refine VIf.ff ?_)
  refine VFact.mk ⟨?_, rfl⟩ trivial
  have h1 : ¬ r.length ≤ 32 := by have := of_decide_eq_false h1; omega
  simp [regionB, h1]
end Go.Proofs.YtcdlplobniogpaaGreat
namespace Go.Proofs.YtcdlplobniogpaaGreat
open Go Go.V Go.RowKit
end Go.Proofs.YtcdlplobniogpaaGreat
