import Derived.Test.YtaobaeiohjgdcaaHa3
import Derived.Test.YtaobaeiohjgdcaaProg
import Derived.WalkKit
set_option linter.unusedVariables false
set_option linter.unusedSimpArgs false
/- The types of the translation, for the framework. Printed by gen_types.py. -/
namespace Go.Proofs.Ytaobaeiohjgdcaa
open Go Go.V

theorem ty1 : TyOK Try.prog 1 ⟨.sc, [.nilFunc], 8⟩ := .mk' (z := .nilFunc) (by kernel_rfl) rfl Try.underlying1 trivial
theorem ty2 : TyOK Try.prog 2 ⟨.int .i64, [.int .i64 0], 8⟩ := .mk' (z := .int .i64 0) (by kernel_rfl) rfl Try.underlying2 rfl
theorem ty3 : TyOK Try.prog 3 ⟨.int .i64, [.int .i64 0], 8⟩ := .mk' (z := .int .i64 0) (by kernel_rfl) rfl Try.underlying3 rfl
theorem ty4 : TyOK Try.prog 4 ⟨.bool, [.bool false], 1⟩ := .mk' (z := .bool false) (by kernel_rfl) rfl Try.underlying4 rfl
theorem ty5 : TyOK Try.prog 5 ⟨.int .u8, [.int .u8 0], 1⟩ := .mk' (z := .int .u8 0) (by kernel_rfl) rfl Try.underlying5 rfl
theorem ty6 : TyOK Try.prog 6 ⟨.int .u8, [.int .u8 0], 1⟩ := .mk' (z := .int .u8 0) (by kernel_rfl) rfl Try.underlying6 rfl
theorem ty7 : TyOK Try.prog 7 ⟨.st [(0, 2), (1, 3), (2, 4), (3, 6)], [.int .i64 0, .int .i64 0, .bool false, .int .u8 0], 24⟩ := .mk' (z := .agg #[.int .i64 0, .int .i64 0, .bool false, .int .u8 0]) (by kernel_rfl) rfl Try.underlying7 ⟨_, rfl, rfl⟩
theorem ty8 : TyOK Try.prog 8 ⟨.st [(0, 2), (1, 3), (2, 4), (3, 6)], [.int .i64 0, .int .i64 0, .bool false, .int .u8 0], 24⟩ := .mk' (z := .agg #[.int .i64 0, .int .i64 0, .bool false, .int .u8 0]) (by kernel_rfl) rfl Try.underlying8 ⟨_, rfl, rfl⟩
theorem ty9 : TyOK Try.prog 9 ⟨.sc, [.string ByteArray.empty], 16⟩ := .mk' (z := .string ByteArray.empty) (by kernel_rfl) rfl Try.underlying9 trivial
theorem ty10 : TyOK Try.prog 10 ⟨.sc, [.string ByteArray.empty], 16⟩ := .mk' (z := .string ByteArray.empty) (by kernel_rfl) rfl Try.underlying10 trivial
theorem ty11 : TyOK Try.prog 11 ⟨.sc, [.string ByteArray.empty], 16⟩ := .mk' (z := .string ByteArray.empty) (by kernel_rfl) rfl Try.underlying11 trivial
theorem ty12 : TyOK Try.prog 12 ⟨.int .u64, [.int .u64 0], 8⟩ := .mk' (z := .int .u64 0) (by kernel_rfl) rfl Try.underlying12 rfl
theorem ty13 : TyOK Try.prog 13 ⟨.st [(0, 9), (1, 12)], [.string ByteArray.empty, .int .u64 0], 24⟩ := .mk' (z := .agg #[.string ByteArray.empty, .int .u64 0]) (by kernel_rfl) rfl Try.underlying13 ⟨_, rfl, rfl⟩
theorem ty14 : TyOK Try.prog 14 ⟨.st [(0, 9), (1, 12)], [.string ByteArray.empty, .int .u64 0], 24⟩ := .mk' (z := .agg #[.string ByteArray.empty, .int .u64 0]) (by kernel_rfl) rfl Try.underlying14 ⟨_, rfl, rfl⟩
theorem ty15 : TyOK Try.prog 15 ⟨.sc, [.pointer none], 8⟩ := .mk' (z := .pointer none) (by kernel_rfl) rfl Try.underlying15 trivial
theorem ty16 : TyOK Try.prog 16 ⟨.sc, [.pointer none], 8⟩ := .mk' (z := .pointer none) (by kernel_rfl) rfl Try.underlying16 trivial
theorem ty17 : TyOK Try.prog 17 ⟨.sc, [.pointer none], 8⟩ := .mk' (z := .pointer none) (by kernel_rfl) rfl Try.underlying17 trivial
theorem ty18 : TyOK Try.prog 18 ⟨.st [(0, 17)], [.pointer none], 8⟩ := .mk' (z := .agg #[.pointer none]) (by kernel_rfl) rfl Try.underlying18 ⟨_, rfl, rfl⟩
theorem ty19 : TyOK Try.prog 19 ⟨.st [(0, 17)], [.pointer none], 8⟩ := .mk' (z := .agg #[.pointer none]) (by kernel_rfl) rfl Try.underlying19 ⟨_, rfl, rfl⟩
theorem ty21 : TyOK Try.prog 21 ⟨.int .i32, [.int .i32 0], 4⟩ := .mk' (z := .int .i32 0) (by kernel_rfl) rfl Try.underlying21 rfl
theorem ty22 : TyOK Try.prog 22 ⟨.sl 46, [.slice none 0 0], 24⟩ := .mk' (z := .slice none 0 0) (by kernel_rfl) rfl Try.underlying22 rfl
theorem ty23 : TyOK Try.prog 23 ⟨.sl 36, [.slice none 0 0], 24⟩ := .mk' (z := .slice none 0 0) (by kernel_rfl) rfl Try.underlying23 rfl
theorem ty24 : TyOK Try.prog 24 ⟨.sl 39, [.slice none 0 0], 24⟩ := .mk' (z := .slice none 0 0) (by kernel_rfl) rfl Try.underlying24 rfl
theorem ty25 : TyOK Try.prog 25 ⟨.sc, [.nilFunc], 8⟩ := .mk' (z := .nilFunc) (by kernel_rfl) rfl Try.underlying25 trivial
theorem ty26 : TyOK Try.prog 26 ⟨.sc, [.nilFunc], 8⟩ := .mk' (z := .nilFunc) (by kernel_rfl) rfl Try.underlying26 trivial
theorem ty27 : TyOK Try.prog 27 ⟨.sc, [.nilFunc], 8⟩ := .mk' (z := .nilFunc) (by kernel_rfl) rfl Try.underlying27 trivial
theorem ty28 : TyOK Try.prog 28 ⟨.sc, [.nilFunc], 8⟩ := .mk' (z := .nilFunc) (by kernel_rfl) rfl Try.underlying28 trivial
theorem ty29 : TyOK Try.prog 29 ⟨.int .i64, [.int .i64 0], 8⟩ := .mk' (z := .int .i64 0) (by kernel_rfl) rfl Try.underlying29 rfl
theorem ty31 : TyOK Try.prog 31 ⟨.sc, [.nilFunc], 8⟩ := .mk' (z := .nilFunc) (by kernel_rfl) rfl Try.underlying31 trivial
theorem ty33 : TyOK Try.prog 33 ⟨.sc, [.nilFunc], 8⟩ := .mk' (z := .nilFunc) (by kernel_rfl) rfl Try.underlying33 trivial
theorem ty34 : TyOK Try.prog 34 ⟨.sc, [.nilFunc], 8⟩ := .mk' (z := .nilFunc) (by kernel_rfl) rfl Try.underlying34 trivial
theorem ty35 : TyOK Try.prog 35 ⟨.st [(0, 3), (1, 22)], [.int .i64 0, .slice none 0 0], 32⟩ := .mk' (z := .agg #[.int .i64 0, .slice none 0 0]) (by kernel_rfl) rfl Try.underlying35 ⟨_, rfl, rfl⟩
theorem ty36 : TyOK Try.prog 36 ⟨.st [(0, 3), (1, 22)], [.int .i64 0, .slice none 0 0], 32⟩ := .mk' (z := .agg #[.int .i64 0, .slice none 0 0]) (by kernel_rfl) rfl Try.underlying36 ⟨_, rfl, rfl⟩
theorem ty37 : TyOK Try.prog 37 ⟨.sc, [.nilFunc], 8⟩ := .mk' (z := .nilFunc) (by kernel_rfl) rfl Try.underlying37 trivial
theorem ty38 : TyOK Try.prog 38 ⟨.st [(0, 3), (1, 3)], [.int .i64 0, .int .i64 0], 16⟩ := .mk' (z := .agg #[.int .i64 0, .int .i64 0]) (by kernel_rfl) rfl Try.underlying38 ⟨_, rfl, rfl⟩
theorem ty39 : TyOK Try.prog 39 ⟨.st [(0, 3), (1, 3)], [.int .i64 0, .int .i64 0], 16⟩ := .mk' (z := .agg #[.int .i64 0, .int .i64 0]) (by kernel_rfl) rfl Try.underlying39 ⟨_, rfl, rfl⟩
theorem ty40 : TyOK Try.prog 40 ⟨.sc, [.nilFunc], 8⟩ := .mk' (z := .nilFunc) (by kernel_rfl) rfl Try.underlying40 trivial
theorem ty42 : TyOK Try.prog 42 ⟨.sc, [.nilFunc], 8⟩ := .mk' (z := .nilFunc) (by kernel_rfl) rfl Try.underlying42 trivial
theorem ty43 : TyOK Try.prog 43 ⟨.sl 3, [.slice none 0 0], 24⟩ := .mk' (z := .slice none 0 0) (by kernel_rfl) rfl Try.underlying43 rfl
theorem ty44 : TyOK Try.prog 44 ⟨.sl 24, [.slice none 0 0], 24⟩ := .mk' (z := .slice none 0 0) (by kernel_rfl) rfl Try.underlying44 rfl
theorem ty45 : TyOK Try.prog 45 ⟨.st [(0, 43), (1, 43), (2, 44)], [.slice none 0 0, .slice none 0 0, .slice none 0 0], 72⟩ := .mk' (z := .agg #[.slice none 0 0, .slice none 0 0, .slice none 0 0]) (by kernel_rfl) rfl Try.underlying45 ⟨_, rfl, rfl⟩
theorem ty46 : TyOK Try.prog 46 ⟨.st [(0, 43), (1, 43), (2, 44)], [.slice none 0 0, .slice none 0 0, .slice none 0 0], 72⟩ := .mk' (z := .agg #[.slice none 0 0, .slice none 0 0, .slice none 0 0]) (by kernel_rfl) rfl Try.underlying46 ⟨_, rfl, rfl⟩
theorem ty47 : TyOK Try.prog 47 ⟨.sc, [.nilFunc], 8⟩ := .mk' (z := .nilFunc) (by kernel_rfl) rfl Try.underlying47 trivial
theorem ty48 : TyOK Try.prog 48 ⟨.sc, [.nilFunc], 8⟩ := .mk' (z := .nilFunc) (by kernel_rfl) rfl Try.underlying48 trivial
theorem ty50 : TyOK Try.prog 50 ⟨.sc, [.nilFunc], 8⟩ := .mk' (z := .nilFunc) (by kernel_rfl) rfl Try.underlying50 trivial
theorem ty51 : TyOK Try.prog 51 ⟨.sc, [.nilFunc], 8⟩ := .mk' (z := .nilFunc) (by kernel_rfl) rfl Try.underlying51 trivial
theorem ty53 : TyOK Try.prog 53 ⟨.sc, [.nilFunc], 8⟩ := .mk' (z := .nilFunc) (by kernel_rfl) rfl Try.underlying53 trivial
theorem ty54 : TyOK Try.prog 54 ⟨.sc, [.nilFunc], 8⟩ := .mk' (z := .nilFunc) (by kernel_rfl) rfl Try.underlying54 trivial
theorem ty55 : TyOK Try.prog 55 ⟨.sc, [.nilFunc], 8⟩ := .mk' (z := .nilFunc) (by kernel_rfl) rfl Try.underlying55 trivial
theorem ty56 : TyOK Try.prog 56 ⟨.sc, [.nilFunc], 8⟩ := .mk' (z := .nilFunc) (by kernel_rfl) rfl Try.underlying56 trivial
theorem ty57 : TyOK Try.prog 57 ⟨.sl 5, [.slice none 0 0], 24⟩ := .mk' (z := .slice none 0 0) (by kernel_rfl) rfl Try.underlying57 rfl
theorem ty58 : TyOK Try.prog 58 ⟨.sc, [.nilFunc], 8⟩ := .mk' (z := .nilFunc) (by kernel_rfl) rfl Try.underlying58 trivial
theorem ty59 : TyOK Try.prog 59 ⟨.sc, [.nilFunc], 8⟩ := .mk' (z := .nilFunc) (by kernel_rfl) rfl Try.underlying59 trivial
theorem ty60 : TyOK Try.prog 60 ⟨.sc, [.nilFunc], 8⟩ := .mk' (z := .nilFunc) (by kernel_rfl) rfl Try.underlying60 trivial
theorem ty61 : TyOK Try.prog 61 ⟨.sc, [.nilFunc], 8⟩ := .mk' (z := .nilFunc) (by kernel_rfl) rfl Try.underlying61 trivial
theorem ty62 : TyOK Try.prog 62 ⟨.int .u64, [.int .u64 0], 8⟩ := .mk' (z := .int .u64 0) (by kernel_rfl) rfl Try.underlying62 rfl
theorem ty63 : TyOK Try.prog 63 ⟨.sc, [.nilFunc], 8⟩ := .mk' (z := .nilFunc) (by kernel_rfl) rfl Try.underlying63 trivial
theorem ty64 : TyOK Try.prog 64 ⟨.sc, [.nilFunc], 8⟩ := .mk' (z := .nilFunc) (by kernel_rfl) rfl Try.underlying64 trivial
theorem ty65 : TyOK Try.prog 65 ⟨.sc, [.nilFunc], 8⟩ := .mk' (z := .nilFunc) (by kernel_rfl) rfl Try.underlying65 trivial
theorem ty66 : TyOK Try.prog 66 ⟨.sc, [.nilFunc], 8⟩ := .mk' (z := .nilFunc) (by kernel_rfl) rfl Try.underlying66 trivial
theorem ty67 : TyOK Try.prog 67 ⟨.sc, [.nilFunc], 8⟩ := .mk' (z := .nilFunc) (by kernel_rfl) rfl Try.underlying67 trivial
theorem ty68 : TyOK Try.prog 68 ⟨.sc, [.nilFunc], 8⟩ := .mk' (z := .nilFunc) (by kernel_rfl) rfl Try.underlying68 trivial
theorem ty69 : TyOK Try.prog 69 ⟨.sc, [.nilFunc], 8⟩ := .mk' (z := .nilFunc) (by kernel_rfl) rfl Try.underlying69 trivial
theorem ty70 : TyOK Try.prog 70 ⟨.sc, [.nilFunc], 8⟩ := .mk' (z := .nilFunc) (by kernel_rfl) rfl Try.underlying70 trivial
theorem ty71 : TyOK Try.prog 71 ⟨.sc, [.nilFunc], 8⟩ := .mk' (z := .nilFunc) (by kernel_rfl) rfl Try.underlying71 trivial
theorem ty72 : TyOK Try.prog 72 ⟨.sc, [.nilFunc], 8⟩ := .mk' (z := .nilFunc) (by kernel_rfl) rfl Try.underlying72 trivial
theorem ty73 : TyOK Try.prog 73 ⟨.sc, [.nilFunc], 8⟩ := .mk' (z := .nilFunc) (by kernel_rfl) rfl Try.underlying73 trivial
theorem ty74 : TyOK Try.prog 74 ⟨.sc, [.nilFunc], 8⟩ := .mk' (z := .nilFunc) (by kernel_rfl) rfl Try.underlying74 trivial
theorem ty75 : TyOK Try.prog 75 ⟨.sc, [.nilFunc], 8⟩ := .mk' (z := .nilFunc) (by kernel_rfl) rfl Try.underlying75 trivial
theorem ty76 : TyOK Try.prog 76 ⟨.sc, [.nilFunc], 8⟩ := .mk' (z := .nilFunc) (by kernel_rfl) rfl Try.underlying76 trivial
theorem ty77 : TyOK Try.prog 77 ⟨.sc, [.nilFunc], 8⟩ := .mk' (z := .nilFunc) (by kernel_rfl) rfl Try.underlying77 trivial
theorem ty79 : TyOK Try.prog 79 ⟨.sc, [.nilFunc], 8⟩ := .mk' (z := .nilFunc) (by kernel_rfl) rfl Try.underlying79 trivial
theorem ty80 : TyOK Try.prog 80 ⟨.sc, [.nilFunc], 8⟩ := .mk' (z := .nilFunc) (by kernel_rfl) rfl Try.underlying80 trivial
theorem ty82 : TyOK Try.prog 82 ⟨.sc, [.nilFunc], 8⟩ := .mk' (z := .nilFunc) (by kernel_rfl) rfl Try.underlying82 trivial
theorem ty83 : TyOK Try.prog 83 ⟨.sc, [.nilFunc], 8⟩ := .mk' (z := .nilFunc) (by kernel_rfl) rfl Try.underlying83 trivial
theorem ty84 : TyOK Try.prog 84 ⟨.sc, [.nilFunc], 8⟩ := .mk' (z := .nilFunc) (by kernel_rfl) rfl Try.underlying84 trivial
theorem ty85 : TyOK Try.prog 85 ⟨.sc, [.nilFunc], 8⟩ := .mk' (z := .nilFunc) (by kernel_rfl) rfl Try.underlying85 trivial
theorem ty86 : TyOK Try.prog 86 ⟨.sc, [.nilFunc], 8⟩ := .mk' (z := .nilFunc) (by kernel_rfl) rfl Try.underlying86 trivial
theorem ty87 : TyOK Try.prog 87 ⟨.sc, [.nilFunc], 8⟩ := .mk' (z := .nilFunc) (by kernel_rfl) rfl Try.underlying87 trivial
theorem ty88 : TyOK Try.prog 88 ⟨.sc, [.nilFunc], 8⟩ := .mk' (z := .nilFunc) (by kernel_rfl) rfl Try.underlying88 trivial
theorem ty89 : TyOK Try.prog 89 ⟨.sc, [.nilFunc], 8⟩ := .mk' (z := .nilFunc) (by kernel_rfl) rfl Try.underlying89 trivial
theorem ty90 : TyOK Try.prog 90 ⟨.sc, [.nilFunc], 8⟩ := .mk' (z := .nilFunc) (by kernel_rfl) rfl Try.underlying90 trivial
theorem ty91 : TyOK Try.prog 91 ⟨.sc, [.nilFunc], 8⟩ := .mk' (z := .nilFunc) (by kernel_rfl) rfl Try.underlying91 trivial
theorem ty92 : TyOK Try.prog 92 ⟨.sc, [.nilFunc], 8⟩ := .mk' (z := .nilFunc) (by kernel_rfl) rfl Try.underlying92 trivial
theorem ty93 : TyOK Try.prog 93 ⟨.sc, [.nilFunc], 8⟩ := .mk' (z := .nilFunc) (by kernel_rfl) rfl Try.underlying93 trivial
theorem ty94 : TyOK Try.prog 94 ⟨.sc, [.nilFunc], 8⟩ := .mk' (z := .nilFunc) (by kernel_rfl) rfl Try.underlying94 trivial
theorem ty95 : TyOK Try.prog 95 ⟨.sc, [.nilFunc], 8⟩ := .mk' (z := .nilFunc) (by kernel_rfl) rfl Try.underlying95 trivial
theorem ty96 : TyOK Try.prog 96 ⟨.sc, [.nilFunc], 8⟩ := .mk' (z := .nilFunc) (by kernel_rfl) rfl Try.underlying96 trivial
theorem ty97 : TyOK Try.prog 97 ⟨.sc, [.nilFunc], 8⟩ := .mk' (z := .nilFunc) (by kernel_rfl) rfl Try.underlying97 trivial
theorem ty98 : TyOK Try.prog 98 ⟨.sc, [.nilFunc], 8⟩ := .mk' (z := .nilFunc) (by kernel_rfl) rfl Try.underlying98 trivial
theorem ty99 : TyOK Try.prog 99 ⟨.sl 39, [.slice none 0 0], 24⟩ := .mk' (z := .slice none 0 0) (by kernel_rfl) rfl Try.underlying99 rfl
theorem ty100 : TyOK Try.prog 100 ⟨.sc, [.nilFunc], 8⟩ := .mk' (z := .nilFunc) (by kernel_rfl) rfl Try.underlying100 trivial
theorem ty101 : TyOK Try.prog 101 ⟨.sc, [.nilFunc], 8⟩ := .mk' (z := .nilFunc) (by kernel_rfl) rfl Try.underlying101 trivial
theorem ty102 : TyOK Try.prog 102 ⟨.sc, [.nilFunc], 8⟩ := .mk' (z := .nilFunc) (by kernel_rfl) rfl Try.underlying102 trivial
theorem ty103 : TyOK Try.prog 103 ⟨.sc, [.nilFunc], 8⟩ := .mk' (z := .nilFunc) (by kernel_rfl) rfl Try.underlying103 trivial
theorem ty104 : TyOK Try.prog 104 ⟨.sc, [.nilFunc], 8⟩ := .mk' (z := .nilFunc) (by kernel_rfl) rfl Try.underlying104 trivial
theorem ty105 : TyOK Try.prog 105 ⟨.sc, [.nilFunc], 8⟩ := .mk' (z := .nilFunc) (by kernel_rfl) rfl Try.underlying105 trivial
theorem ty106 : TyOK Try.prog 106 ⟨.sc, [.nilFunc], 8⟩ := .mk' (z := .nilFunc) (by kernel_rfl) rfl Try.underlying106 trivial
theorem ty107 : TyOK Try.prog 107 ⟨.sc, [.nilFunc], 8⟩ := .mk' (z := .nilFunc) (by kernel_rfl) rfl Try.underlying107 trivial
theorem ty108 : TyOK Try.prog 108 ⟨.sl 107, [.slice none 0 0], 24⟩ := .mk' (z := .slice none 0 0) (by kernel_rfl) rfl Try.underlying108 rfl
theorem ty109 : TyOK Try.prog 109 ⟨.sc, [.nilFunc], 8⟩ := .mk' (z := .nilFunc) (by kernel_rfl) rfl Try.underlying109 trivial
theorem ty110 : TyOK Try.prog 110 ⟨.sc, [.nilFunc], 8⟩ := .mk' (z := .nilFunc) (by kernel_rfl) rfl Try.underlying110 trivial
theorem ty111 : TyOK Try.prog 111 ⟨.sc, [.nilFunc], 8⟩ := .mk' (z := .nilFunc) (by kernel_rfl) rfl Try.underlying111 trivial
theorem ty112 : TyOK Try.prog 112 ⟨.sc, [.nilFunc], 8⟩ := .mk' (z := .nilFunc) (by kernel_rfl) rfl Try.underlying112 trivial
theorem ty113 : TyOK Try.prog 113 ⟨.int .u64, [.int .u64 0], 8⟩ := .mk' (z := .int .u64 0) (by kernel_rfl) rfl Try.underlying113 rfl
theorem ty114 : TyOK Try.prog 114 ⟨.sc, [.pointer none], 8⟩ := .mk' (z := .pointer none) (by kernel_rfl) rfl Try.underlying114 trivial
theorem ty115 : TyOK Try.prog 115 ⟨.sc, [.nilFunc], 8⟩ := .mk' (z := .nilFunc) (by kernel_rfl) rfl Try.underlying115 trivial
theorem ty116 : TyOK Try.prog 116 ⟨.sc, [.nilFunc], 8⟩ := .mk' (z := .nilFunc) (by kernel_rfl) rfl Try.underlying116 trivial
theorem ty117 : TyOK Try.prog 117 ⟨.int .i64, [.int .i64 0], 8⟩ := .mk' (z := .int .i64 0) (by kernel_rfl) rfl Try.underlying117 rfl
theorem ty119 : TyOK Try.prog 119 ⟨.sc, [.nilFunc], 8⟩ := .mk' (z := .nilFunc) (by kernel_rfl) rfl Try.underlying119 trivial
theorem ty120 : TyOK Try.prog 120 ⟨.sc, [.nilFunc], 8⟩ := .mk' (z := .nilFunc) (by kernel_rfl) rfl Try.underlying120 trivial
theorem ty121 : TyOK Try.prog 121 ⟨.sc, [.nilFunc], 8⟩ := .mk' (z := .nilFunc) (by kernel_rfl) rfl Try.underlying121 trivial
theorem ty123 : TyOK Try.prog 123 ⟨.sc, [.nilFunc], 8⟩ := .mk' (z := .nilFunc) (by kernel_rfl) rfl Try.underlying123 trivial
theorem ty124 : TyOK Try.prog 124 ⟨.sc, [.nilFunc], 8⟩ := .mk' (z := .nilFunc) (by kernel_rfl) rfl Try.underlying124 trivial
theorem ty125 : TyOK Try.prog 125 ⟨.int .u32, [.int .u32 0], 4⟩ := .mk' (z := .int .u32 0) (by kernel_rfl) rfl Try.underlying125 rfl
theorem ty126 : TyOK Try.prog 126 ⟨.sc, [.nilFunc], 8⟩ := .mk' (z := .nilFunc) (by kernel_rfl) rfl Try.underlying126 trivial
theorem ty127 : TyOK Try.prog 127 ⟨.int .u64, [.int .u64 0], 8⟩ := .mk' (z := .int .u64 0) (by kernel_rfl) rfl Try.underlying127 rfl
theorem ty128 : TyOK Try.prog 128 ⟨.sc, [.nilFunc], 8⟩ := .mk' (z := .nilFunc) (by kernel_rfl) rfl Try.underlying128 trivial
theorem ty129 : TyOK Try.prog 129 ⟨.sc, [.nilFunc], 8⟩ := .mk' (z := .nilFunc) (by kernel_rfl) rfl Try.underlying129 trivial
theorem ty130 : TyOK Try.prog 130 ⟨.sc, [.nilFunc], 8⟩ := .mk' (z := .nilFunc) (by kernel_rfl) rfl Try.underlying130 trivial
theorem ty131 : TyOK Try.prog 131 ⟨.sc, [.pointer none], 8⟩ := .mk' (z := .pointer none) (by kernel_rfl) rfl Try.underlying131 trivial
theorem ty132 : TyOK Try.prog 132 ⟨.sc, [.nilFunc], 8⟩ := .mk' (z := .nilFunc) (by kernel_rfl) rfl Try.underlying132 trivial
theorem ty133 : TyOK Try.prog 133 ⟨.sc, [.pointer none], 8⟩ := .mk' (z := .pointer none) (by kernel_rfl) rfl Try.underlying133 trivial
theorem ty134 : TyOK Try.prog 134 ⟨.sc, [.nilFunc], 8⟩ := .mk' (z := .nilFunc) (by kernel_rfl) rfl Try.underlying134 trivial
theorem ty135 : TyOK Try.prog 135 ⟨.sc, [.nilFunc], 8⟩ := .mk' (z := .nilFunc) (by kernel_rfl) rfl Try.underlying135 trivial
theorem ty136 : TyOK Try.prog 136 ⟨.st [(0, 17), (1, 17), (2, 17), (3, 9)], [.pointer none, .pointer none, .pointer none, .string ByteArray.empty], 40⟩ := .mk' (z := .agg #[.pointer none, .pointer none, .pointer none, .string ByteArray.empty]) (by kernel_rfl) rfl Try.underlying136 ⟨_, rfl, rfl⟩
theorem ty137 : TyOK Try.prog 137 ⟨.st [(0, 17), (1, 17), (2, 17), (3, 9)], [.pointer none, .pointer none, .pointer none, .string ByteArray.empty], 40⟩ := .mk' (z := .agg #[.pointer none, .pointer none, .pointer none, .string ByteArray.empty]) (by kernel_rfl) rfl Try.underlying137 ⟨_, rfl, rfl⟩
theorem ty138 : TyOK Try.prog 138 ⟨.ar 0 16, [], 0⟩ := .mk' (z := .agg #[]) (by kernel_rfl) rfl Try.underlying138 rfl
theorem ty139 : TyOK Try.prog 139 ⟨.st [(0, 138)], [], 0⟩ := .mk' (z := .agg #[]) (by kernel_rfl) rfl Try.underlying139 ⟨_, rfl, rfl⟩
theorem ty140 : TyOK Try.prog 140 ⟨.st [(0, 138)], [], 0⟩ := .mk' (z := .agg #[]) (by kernel_rfl) rfl Try.underlying140 ⟨_, rfl, rfl⟩
theorem ty141 : TyOK Try.prog 141 ⟨.int .u8, [.int .u8 0], 1⟩ := .mk' (z := .int .u8 0) (by kernel_rfl) rfl Try.underlying141 rfl
theorem ty142 : TyOK Try.prog 142 ⟨.int .u8, [.int .u8 0], 1⟩ := .mk' (z := .int .u8 0) (by kernel_rfl) rfl Try.underlying142 rfl
theorem ty143 : TyOK Try.prog 143 ⟨.sc, [.nilFunc], 8⟩ := .mk' (z := .nilFunc) (by kernel_rfl) rfl Try.underlying143 trivial
theorem ty144 : TyOK Try.prog 144 ⟨.sc, [.pointer none], 8⟩ := .mk' (z := .pointer none) (by kernel_rfl) rfl Try.underlying144 trivial
theorem ty145 : TyOK Try.prog 145 ⟨.int .i32, [.int .i32 0], 4⟩ := .mk' (z := .int .i32 0) (by kernel_rfl) rfl Try.underlying145 rfl
theorem ty146 : TyOK Try.prog 146 ⟨.int .i32, [.int .i32 0], 4⟩ := .mk' (z := .int .i32 0) (by kernel_rfl) rfl Try.underlying146 rfl
theorem ty147 : TyOK Try.prog 147 ⟨.st [(0, 12), (1, 12), (2, 125), (3, 141), (4, 5), (5, 5), (6, 142), (7, 143), (8, 144), (9, 145), (10, 146)], [.int .u64 0, .int .u64 0, .int .u32 0, .int .u8 0, .int .u8 0, .int .u8 0, .int .u8 0, .nilFunc, .pointer none, .int .i32 0, .int .i32 0], 48⟩ := .mk' (z := .agg #[.int .u64 0, .int .u64 0, .int .u32 0, .int .u8 0, .int .u8 0, .int .u8 0, .int .u8 0, .nilFunc, .pointer none, .int .i32 0, .int .i32 0]) (by kernel_rfl) rfl Try.underlying147 ⟨_, rfl, rfl⟩
theorem ty148 : TyOK Try.prog 148 ⟨.st [(0, 12), (1, 12), (2, 125), (3, 141), (4, 5), (5, 5), (6, 142), (7, 143), (8, 144), (9, 145), (10, 146)], [.int .u64 0, .int .u64 0, .int .u32 0, .int .u8 0, .int .u8 0, .int .u8 0, .int .u8 0, .nilFunc, .pointer none, .int .i32 0, .int .i32 0], 48⟩ := .mk' (z := .agg #[.int .u64 0, .int .u64 0, .int .u32 0, .int .u8 0, .int .u8 0, .int .u8 0, .int .u8 0, .nilFunc, .pointer none, .int .i32 0, .int .i32 0]) (by kernel_rfl) rfl Try.underlying148 ⟨_, rfl, rfl⟩
theorem ty149 : TyOK Try.prog 149 ⟨.sc, [.pointer none], 8⟩ := .mk' (z := .pointer none) (by kernel_rfl) rfl Try.underlying149 trivial

def te : List (Nat × TI) := [(1, ⟨.sc, [.nilFunc], 8⟩),
  (2, ⟨.int .i64, [.int .i64 0], 8⟩),
  (3, ⟨.int .i64, [.int .i64 0], 8⟩),
  (4, ⟨.bool, [.bool false], 1⟩),
  (5, ⟨.int .u8, [.int .u8 0], 1⟩),
  (6, ⟨.int .u8, [.int .u8 0], 1⟩),
  (7, ⟨.st [(0, 2), (1, 3), (2, 4), (3, 6)], [.int .i64 0, .int .i64 0, .bool false, .int .u8 0], 24⟩),
  (8, ⟨.st [(0, 2), (1, 3), (2, 4), (3, 6)], [.int .i64 0, .int .i64 0, .bool false, .int .u8 0], 24⟩),
  (9, ⟨.sc, [.string ByteArray.empty], 16⟩),
  (10, ⟨.sc, [.string ByteArray.empty], 16⟩),
  (11, ⟨.sc, [.string ByteArray.empty], 16⟩),
  (12, ⟨.int .u64, [.int .u64 0], 8⟩),
  (13, ⟨.st [(0, 9), (1, 12)], [.string ByteArray.empty, .int .u64 0], 24⟩),
  (14, ⟨.st [(0, 9), (1, 12)], [.string ByteArray.empty, .int .u64 0], 24⟩),
  (15, ⟨.sc, [.pointer none], 8⟩),
  (16, ⟨.sc, [.pointer none], 8⟩),
  (17, ⟨.sc, [.pointer none], 8⟩),
  (18, ⟨.st [(0, 17)], [.pointer none], 8⟩),
  (19, ⟨.st [(0, 17)], [.pointer none], 8⟩),
  (21, ⟨.int .i32, [.int .i32 0], 4⟩),
  (22, ⟨.sl 46, [.slice none 0 0], 24⟩),
  (23, ⟨.sl 36, [.slice none 0 0], 24⟩),
  (24, ⟨.sl 39, [.slice none 0 0], 24⟩),
  (25, ⟨.sc, [.nilFunc], 8⟩),
  (26, ⟨.sc, [.nilFunc], 8⟩),
  (27, ⟨.sc, [.nilFunc], 8⟩),
  (28, ⟨.sc, [.nilFunc], 8⟩),
  (29, ⟨.int .i64, [.int .i64 0], 8⟩),
  (31, ⟨.sc, [.nilFunc], 8⟩),
  (33, ⟨.sc, [.nilFunc], 8⟩),
  (34, ⟨.sc, [.nilFunc], 8⟩),
  (35, ⟨.st [(0, 3), (1, 22)], [.int .i64 0, .slice none 0 0], 32⟩),
  (36, ⟨.st [(0, 3), (1, 22)], [.int .i64 0, .slice none 0 0], 32⟩),
  (37, ⟨.sc, [.nilFunc], 8⟩),
  (38, ⟨.st [(0, 3), (1, 3)], [.int .i64 0, .int .i64 0], 16⟩),
  (39, ⟨.st [(0, 3), (1, 3)], [.int .i64 0, .int .i64 0], 16⟩),
  (40, ⟨.sc, [.nilFunc], 8⟩),
  (42, ⟨.sc, [.nilFunc], 8⟩),
  (43, ⟨.sl 3, [.slice none 0 0], 24⟩),
  (44, ⟨.sl 24, [.slice none 0 0], 24⟩),
  (45, ⟨.st [(0, 43), (1, 43), (2, 44)], [.slice none 0 0, .slice none 0 0, .slice none 0 0], 72⟩),
  (46, ⟨.st [(0, 43), (1, 43), (2, 44)], [.slice none 0 0, .slice none 0 0, .slice none 0 0], 72⟩),
  (47, ⟨.sc, [.nilFunc], 8⟩),
  (48, ⟨.sc, [.nilFunc], 8⟩),
  (50, ⟨.sc, [.nilFunc], 8⟩),
  (51, ⟨.sc, [.nilFunc], 8⟩),
  (53, ⟨.sc, [.nilFunc], 8⟩),
  (54, ⟨.sc, [.nilFunc], 8⟩),
  (55, ⟨.sc, [.nilFunc], 8⟩),
  (56, ⟨.sc, [.nilFunc], 8⟩),
  (57, ⟨.sl 5, [.slice none 0 0], 24⟩),
  (58, ⟨.sc, [.nilFunc], 8⟩),
  (59, ⟨.sc, [.nilFunc], 8⟩),
  (60, ⟨.sc, [.nilFunc], 8⟩),
  (61, ⟨.sc, [.nilFunc], 8⟩),
  (62, ⟨.int .u64, [.int .u64 0], 8⟩),
  (63, ⟨.sc, [.nilFunc], 8⟩),
  (64, ⟨.sc, [.nilFunc], 8⟩),
  (65, ⟨.sc, [.nilFunc], 8⟩),
  (66, ⟨.sc, [.nilFunc], 8⟩),
  (67, ⟨.sc, [.nilFunc], 8⟩),
  (68, ⟨.sc, [.nilFunc], 8⟩),
  (69, ⟨.sc, [.nilFunc], 8⟩),
  (70, ⟨.sc, [.nilFunc], 8⟩),
  (71, ⟨.sc, [.nilFunc], 8⟩),
  (72, ⟨.sc, [.nilFunc], 8⟩),
  (73, ⟨.sc, [.nilFunc], 8⟩),
  (74, ⟨.sc, [.nilFunc], 8⟩),
  (75, ⟨.sc, [.nilFunc], 8⟩),
  (76, ⟨.sc, [.nilFunc], 8⟩),
  (77, ⟨.sc, [.nilFunc], 8⟩),
  (79, ⟨.sc, [.nilFunc], 8⟩),
  (80, ⟨.sc, [.nilFunc], 8⟩),
  (82, ⟨.sc, [.nilFunc], 8⟩),
  (83, ⟨.sc, [.nilFunc], 8⟩),
  (84, ⟨.sc, [.nilFunc], 8⟩),
  (85, ⟨.sc, [.nilFunc], 8⟩),
  (86, ⟨.sc, [.nilFunc], 8⟩),
  (87, ⟨.sc, [.nilFunc], 8⟩),
  (88, ⟨.sc, [.nilFunc], 8⟩),
  (89, ⟨.sc, [.nilFunc], 8⟩),
  (90, ⟨.sc, [.nilFunc], 8⟩),
  (91, ⟨.sc, [.nilFunc], 8⟩),
  (92, ⟨.sc, [.nilFunc], 8⟩),
  (93, ⟨.sc, [.nilFunc], 8⟩),
  (94, ⟨.sc, [.nilFunc], 8⟩),
  (95, ⟨.sc, [.nilFunc], 8⟩),
  (96, ⟨.sc, [.nilFunc], 8⟩),
  (97, ⟨.sc, [.nilFunc], 8⟩),
  (98, ⟨.sc, [.nilFunc], 8⟩),
  (99, ⟨.sl 39, [.slice none 0 0], 24⟩),
  (100, ⟨.sc, [.nilFunc], 8⟩),
  (101, ⟨.sc, [.nilFunc], 8⟩),
  (102, ⟨.sc, [.nilFunc], 8⟩),
  (103, ⟨.sc, [.nilFunc], 8⟩),
  (104, ⟨.sc, [.nilFunc], 8⟩),
  (105, ⟨.sc, [.nilFunc], 8⟩),
  (106, ⟨.sc, [.nilFunc], 8⟩),
  (107, ⟨.sc, [.nilFunc], 8⟩),
  (108, ⟨.sl 107, [.slice none 0 0], 24⟩),
  (109, ⟨.sc, [.nilFunc], 8⟩),
  (110, ⟨.sc, [.nilFunc], 8⟩),
  (111, ⟨.sc, [.nilFunc], 8⟩),
  (112, ⟨.sc, [.nilFunc], 8⟩),
  (113, ⟨.int .u64, [.int .u64 0], 8⟩),
  (114, ⟨.sc, [.pointer none], 8⟩),
  (115, ⟨.sc, [.nilFunc], 8⟩),
  (116, ⟨.sc, [.nilFunc], 8⟩),
  (117, ⟨.int .i64, [.int .i64 0], 8⟩),
  (119, ⟨.sc, [.nilFunc], 8⟩),
  (120, ⟨.sc, [.nilFunc], 8⟩),
  (121, ⟨.sc, [.nilFunc], 8⟩),
  (123, ⟨.sc, [.nilFunc], 8⟩),
  (124, ⟨.sc, [.nilFunc], 8⟩),
  (125, ⟨.int .u32, [.int .u32 0], 4⟩),
  (126, ⟨.sc, [.nilFunc], 8⟩),
  (127, ⟨.int .u64, [.int .u64 0], 8⟩),
  (128, ⟨.sc, [.nilFunc], 8⟩),
  (129, ⟨.sc, [.nilFunc], 8⟩),
  (130, ⟨.sc, [.nilFunc], 8⟩),
  (131, ⟨.sc, [.pointer none], 8⟩),
  (132, ⟨.sc, [.nilFunc], 8⟩),
  (133, ⟨.sc, [.pointer none], 8⟩),
  (134, ⟨.sc, [.nilFunc], 8⟩),
  (135, ⟨.sc, [.nilFunc], 8⟩),
  (136, ⟨.st [(0, 17), (1, 17), (2, 17), (3, 9)], [.pointer none, .pointer none, .pointer none, .string ByteArray.empty], 40⟩),
  (137, ⟨.st [(0, 17), (1, 17), (2, 17), (3, 9)], [.pointer none, .pointer none, .pointer none, .string ByteArray.empty], 40⟩),
  (138, ⟨.ar 0 16, [], 0⟩),
  (139, ⟨.st [(0, 138)], [], 0⟩),
  (140, ⟨.st [(0, 138)], [], 0⟩),
  (141, ⟨.int .u8, [.int .u8 0], 1⟩),
  (142, ⟨.int .u8, [.int .u8 0], 1⟩),
  (143, ⟨.sc, [.nilFunc], 8⟩),
  (144, ⟨.sc, [.pointer none], 8⟩),
  (145, ⟨.int .i32, [.int .i32 0], 4⟩),
  (146, ⟨.int .i32, [.int .i32 0], 4⟩),
  (147, ⟨.st [(0, 12), (1, 12), (2, 125), (3, 141), (4, 5), (5, 5), (6, 142), (7, 143), (8, 144), (9, 145), (10, 146)], [.int .u64 0, .int .u64 0, .int .u32 0, .int .u8 0, .int .u8 0, .int .u8 0, .int .u8 0, .nilFunc, .pointer none, .int .i32 0, .int .i32 0], 48⟩),
  (148, ⟨.st [(0, 12), (1, 12), (2, 125), (3, 141), (4, 5), (5, 5), (6, 142), (7, 143), (8, 144), (9, 145), (10, 146)], [.int .u64 0, .int .u64 0, .int .u32 0, .int .u8 0, .int .u8 0, .int .u8 0, .int .u8 0, .nilFunc, .pointer none, .int .i32 0, .int .i32 0], 48⟩),
  (149, ⟨.sc, [.pointer none], 8⟩)]
theorem teOK : TEOK Try.prog te :=
  teOK_cons ty1 (
  teOK_cons ty2 (
  teOK_cons ty3 (
  teOK_cons ty4 (
  teOK_cons ty5 (
  teOK_cons ty6 (
  teOK_cons ty7 (
  teOK_cons ty8 (
  teOK_cons ty9 (
  teOK_cons ty10 (
  teOK_cons ty11 (
  teOK_cons ty12 (
  teOK_cons ty13 (
  teOK_cons ty14 (
  teOK_cons ty15 (
  teOK_cons ty16 (
  teOK_cons ty17 (
  teOK_cons ty18 (
  teOK_cons ty19 (
  teOK_cons ty21 (
  teOK_cons ty22 (
  teOK_cons ty23 (
  teOK_cons ty24 (
  teOK_cons ty25 (
  teOK_cons ty26 (
  teOK_cons ty27 (
  teOK_cons ty28 (
  teOK_cons ty29 (
  teOK_cons ty31 (
  teOK_cons ty33 (
  teOK_cons ty34 (
  teOK_cons ty35 (
  teOK_cons ty36 (
  teOK_cons ty37 (
  teOK_cons ty38 (
  teOK_cons ty39 (
  teOK_cons ty40 (
  teOK_cons ty42 (
  teOK_cons ty43 (
  teOK_cons ty44 (
  teOK_cons ty45 (
  teOK_cons ty46 (
  teOK_cons ty47 (
  teOK_cons ty48 (
  teOK_cons ty50 (
  teOK_cons ty51 (
  teOK_cons ty53 (
  teOK_cons ty54 (
  teOK_cons ty55 (
  teOK_cons ty56 (
  teOK_cons ty57 (
  teOK_cons ty58 (
  teOK_cons ty59 (
  teOK_cons ty60 (
  teOK_cons ty61 (
  teOK_cons ty62 (
  teOK_cons ty63 (
  teOK_cons ty64 (
  teOK_cons ty65 (
  teOK_cons ty66 (
  teOK_cons ty67 (
  teOK_cons ty68 (
  teOK_cons ty69 (
  teOK_cons ty70 (
  teOK_cons ty71 (
  teOK_cons ty72 (
  teOK_cons ty73 (
  teOK_cons ty74 (
  teOK_cons ty75 (
  teOK_cons ty76 (
  teOK_cons ty77 (
  teOK_cons ty79 (
  teOK_cons ty80 (
  teOK_cons ty82 (
  teOK_cons ty83 (
  teOK_cons ty84 (
  teOK_cons ty85 (
  teOK_cons ty86 (
  teOK_cons ty87 (
  teOK_cons ty88 (
  teOK_cons ty89 (
  teOK_cons ty90 (
  teOK_cons ty91 (
  teOK_cons ty92 (
  teOK_cons ty93 (
  teOK_cons ty94 (
  teOK_cons ty95 (
  teOK_cons ty96 (
  teOK_cons ty97 (
  teOK_cons ty98 (
  teOK_cons ty99 (
  teOK_cons ty100 (
  teOK_cons ty101 (
  teOK_cons ty102 (
  teOK_cons ty103 (
  teOK_cons ty104 (
  teOK_cons ty105 (
  teOK_cons ty106 (
  teOK_cons ty107 (
  teOK_cons ty108 (
  teOK_cons ty109 (
  teOK_cons ty110 (
  teOK_cons ty111 (
  teOK_cons ty112 (
  teOK_cons ty113 (
  teOK_cons ty114 (
  teOK_cons ty115 (
  teOK_cons ty116 (
  teOK_cons ty117 (
  teOK_cons ty119 (
  teOK_cons ty120 (
  teOK_cons ty121 (
  teOK_cons ty123 (
  teOK_cons ty124 (
  teOK_cons ty125 (
  teOK_cons ty126 (
  teOK_cons ty127 (
  teOK_cons ty128 (
  teOK_cons ty129 (
  teOK_cons ty130 (
  teOK_cons ty131 (
  teOK_cons ty132 (
  teOK_cons ty133 (
  teOK_cons ty134 (
  teOK_cons ty135 (
  teOK_cons ty136 (
  teOK_cons ty137 (
  teOK_cons ty138 (
  teOK_cons ty139 (
  teOK_cons ty140 (
  teOK_cons ty141 (
  teOK_cons ty142 (
  teOK_cons ty143 (
  teOK_cons ty144 (
  teOK_cons ty145 (
  teOK_cons ty146 (
  teOK_cons ty147 (
  teOK_cons ty148 (
  teOK_cons ty149 (
  teOK_nil)))))))))))))))))))))))))))))))))))))))))))))))))))))))))))))))))))))))))))))))))))))))))))))))))))))))))))))))))))))))))))))))))))))))))))
theorem eq38 : ∀ (op : BinOp) (x y x' y' : Int) (W : World), (op = .eql ∨ op = .neq) → ∀ (u v : Operand), (do eqGuard op 38 u v (.agg #[.int .i64 x, .int .i64 y]) (.agg #[.int .i64 x', .int .i64 y']); binOp op 38 (.agg #[.int .i64 x, .int .i64 y]) (.agg #[.int .i64 x', .int .i64 y']) : Sem Value).run Try.prog W = .ok (.bool (eqRes op (x == x' && y == y'))) W :=
  eq2_of Try.underlying38 rfl rfl rfl rfl Try.underlying3 Try.underlying3 (by kernel_rfl) (by kernel_rfl)
theorem eq39 : ∀ (op : BinOp) (x y x' y' : Int) (W : World), (op = .eql ∨ op = .neq) → ∀ (u v : Operand), (do eqGuard op 39 u v (.agg #[.int .i64 x, .int .i64 y]) (.agg #[.int .i64 x', .int .i64 y']); binOp op 39 (.agg #[.int .i64 x, .int .i64 y]) (.agg #[.int .i64 x', .int .i64 y']) : Sem Value).run Try.prog W = .ok (.bool (eqRes op (x == x' && y == y'))) W :=
  eq2_of Try.underlying39 rfl rfl rfl rfl Try.underlying3 Try.underlying3 (by kernel_rfl) (by kernel_rfl)
def cx : VX := { te := te, eq2 := [38, 39], eqN := [], inl := false }
theorem cxOK : VXOK Try.prog cx := ⟨fun tn ht => by
  simp [cx] at ht,
  teOK, fun t ht => by
  simp only [cx, List.mem_cons, List.not_mem_nil, or_false] at ht
  rcases ht with rfl | rfl
  · exact eq38
  · exact eq39, by kernel_rfl⟩
/-- The same, where a call may be walked where it stands. -/
def cxI : VX := { cx with inl := true }
theorem cxIOK : VXOK Try.prog cxI := ⟨cxOK.eqN, cxOK.te, cxOK.eq2, cxOK.mixed⟩
end Go.Proofs.Ytaobaeiohjgdcaa

/- The plain law of polygons, cases and alarms: no program in sight. -/
namespace Go.Proofs.Ytaobaeiohjgdcaa
open Go
abbrev Pt := Int × Int
def cross (ax ay bx by' cx cy : Int) : Int := (bx - ax) * (cy - ay) - (by' - ay) * (cx - ax)
def isC (x : Int) : Prop := -500000 ≤ x ∧ x ≤ 500000
def isCb (x : Int) : Bool := decide (-500000 ≤ x ∧ x ≤ 500000)
def i64r (x : Int) : Prop := -9223372036854775808 ≤ x ∧ x ≤ 9223372036854775807
theorem isCb_iff {x : Int} : isCb x = true ↔ isC x := by simp [isCb, isC]
def cmpI (x y : Int) : Int := if x < y then -1 else if y < x then 1 else 0
def orL : List Int → Int
  | [] => 0
  | x :: r => if x ≠ 0 then x else orL r
theorem orL_drop : ∀ (xs : List Int) (i : Nat), (∀ j, j < i → xs.getD j 0 = 0) → orL (xs.drop i) = orL xs
  | xs, 0, _ => by simp
  | [], i + 1, _ => by simp
  | x :: xs, i + 1, h => by
    have h0 := h 0 (by omega)
    simp at h0
    subst h0
    rw [List.drop_succ_cons, orL_drop xs i (fun j hj => by have := h (j + 1) (by omega); simpa using this)]
    simp [orL]
def cmpP (ax ay bx by' : Int) : Int := if cmpI ax bx ≠ 0 then cmpI ax bx else cmpI ay by'
def gp (ps : List Pt) (i : Nat) : Pt := ps.getD i (0, 0)
def placeB (p : Pt) : Bool := isCb p.1 && isCb p.2
def crossP (a b c : Pt) : Int := cross a.1 a.2 b.1 b.2 c.1 c.2
def cmpPt (a b : Pt) : Int := cmpP a.1 a.2 b.1 b.2
def v1B (ps : List Pt) (i : Nat) : Bool := placeB (gp ps i) && (i == 0 || decide (cmpPt (gp ps 0) (gp ps i) < 0))
def v2B (a b x : Pt) : Bool := x == a || x == b || decide (0 < crossP a b x)
def v3B (ps : List Pt) (i : Nat) : Bool := (List.range ps.length).all fun k => v2B (gp ps i) (gp ps ((i + 1) % ps.length)) (gp ps k)
def validB (ps : List Pt) : Bool := decide (1 ≤ ps.length) && decide (ps.length ≤ 64) && (List.range ps.length).all (v1B ps) && (decide (ps.length < 3) || (List.range ps.length).all (v3B ps))
def i64P (ps : List Pt) : Prop := ∀ i, i < ps.length → i64r (gp ps i).1 ∧ i64r (gp ps i).2
theorem all_false {n : Nat} {f : Nat → Bool} {i : Nat} (hi : i < n) (h : f i = false) : (List.range n).all f = false := by
  cases hb : (List.range n).all f with
  | false => rfl
  | true => have := List.all_eq_true.1 hb i (List.mem_range.2 hi); rw [h] at this; cases this
theorem all_true {n : Nat} {f : Nat → Bool} (h : ∀ i, i < n → f i = true) : (List.range n).all f = true := List.all_eq_true.2 fun i hi => h i (List.mem_range.1 hi)
theorem all_iff {n : Nat} {f : Nat → Bool} : (List.range n).all f = true ↔ ∀ i, i < n → f i = true := ⟨fun h i hi => List.all_eq_true.1 h i (List.mem_range.2 hi), all_true⟩

/- The reference's law of polygons. -/
def lessB (a b : Pt) : Bool := decide (a.1 < b.1) || (a.1 == b.1 && decide (a.2 < b.2))
theorem lessB_iff (a b : Pt) : lessB a b = decide (cmpPt a b < 0) := by
  obtain ⟨a1, a2⟩ := a
  obtain ⟨b1, b2⟩ := b
  rw [Bool.eq_iff_iff]
  simp only [lessB, cmpPt, cmpP, cmpI, Bool.or_eq_true, Bool.and_eq_true, decide_eq_true_eq, beq_iff_eq]
  repeat' split
  all_goals omega
def r3B (ps : List Pt) (i k : Nat) : Bool := k == i || k == (i + 1) % ps.length || decide (0 < crossP (gp ps i) (gp ps ((i + 1) % ps.length)) (gp ps k))
def validR (ps : List Pt) : Bool := decide (1 ≤ ps.length) && decide (ps.length ≤ 64) && (List.range ps.length).all (fun i => placeB (gp ps i)) && (List.range ps.length).all (fun i => i == 0 || lessB (gp ps 0) (gp ps i)) && (decide (ps.length < 3) || (List.range ps.length).all fun i => (List.range ps.length).all (r3B ps i))

theorem crossP_self (a c : Pt) : crossP a a c = 0 := by simp [crossP, cross]
theorem crossP_swap (a b c : Pt) : crossP a c b = - crossP a b c := by
  simp only [crossP, cross]
  rw [Int.mul_comm (c.1 - a.1), Int.mul_comm (c.2 - a.2)]
  omega
theorem lt_ne {a b : Pt} (h : cmpPt a b < 0) : b ≠ a := by
  intro e; subst e
  simp [cmpPt, cmpP, cmpI] at h
/-- The corners of a polygon differ. -/
theorem corners_ne {n : Nat} {g : Nat → Pt} (h0 : ∀ i, 0 < i → i < n → g i ≠ g 0)
    (hB : ∀ i, i < n → ∀ k, k < n → g k = g i ∨ g k = g ((i + 1) % n) ∨ 0 < crossP (g i) (g ((i + 1) % n)) (g k)) :
    ∀ a b, a < b → b < n → g a ≠ g b := by
  have hz : ∀ i, 0 < i → i < n → g ((i + 1) % n) ≠ g i := by
    intro i hi hn e
    have := hB i hn 0 (by omega)
    rw [e, crossP_self] at this
    rcases this with h | h | h
    · exact h0 i hi hn h.symm
    · exact h0 i hi hn h.symm
    · omega
  have step : ∀ i j, 0 < i → i < j → j < n → g i = g j → g (i + 1) = g ((j + 1) % n) := by
    intro i j hi hij hj e
    have hsi : (i + 1) % n = i + 1 := Nat.mod_eq_of_lt (by omega)
    have b1 := hB i (by omega) ((j + 1) % n) (Nat.mod_lt _ (by omega))
    have b2 := hB j hj (i + 1) (by omega)
    have z1 := hz i hi (by omega)
    have z2 := hz j (by omega) hj
    rw [hsi] at b1 z1
    rw [← e] at b2 z2
    rcases b1 with b1 | b1 | b1
    · exact absurd b1 z2
    · exact b1.symm
    rcases b2 with b2 | b2 | b2
    · exact absurd b2 z1
    · exact b2
    · rw [crossP_swap] at b2; omega
  intro a b hab hb e
  by_cases ha : a = 0
  · subst ha; exact h0 b hab hb e.symm
  have run : ∀ d, b + d < n → g (a + d) = g (b + d) := by
    intro d
    induction d with
    | zero => intro _; exact e
    | succ d ih =>
      intro h
      have := step (a + d) (b + d) (by omega) (by omega) (by omega) (ih (by omega))
      rw [Nat.mod_eq_of_lt (by omega)] at this
      exact this
  have hlast := step (a + (n - 1 - b)) (b + (n - 1 - b)) (by omega) (by omega) (by omega) (run _ (by omega))
  rw [show (b + (n - 1 - b) + 1) % n = 0 by rw [show b + (n - 1 - b) + 1 = n by omega]; exact Nat.mod_self n] at hlast
  exact h0 _ (by omega) (by omega) hlast

theorem validR_eq (ps : List Pt) : validR ps = validB ps := by
  rw [Bool.eq_iff_iff]
  simp only [validR, validB, Bool.and_eq_true, Bool.or_eq_true, decide_eq_true_eq, all_iff, v1B, v3B, v2B, r3B, lessB_iff, beq_iff_eq]
  constructor
  · rintro ⟨⟨⟨h1, h2⟩, h3⟩, h4⟩
    refine ⟨⟨h1, fun i hi => ⟨h2 i hi, h3 i hi⟩⟩, ?_⟩
    rcases h4 with h4 | h4
    · exact .inl h4
    · refine .inr fun i hi k hk => ?_
      rcases h4 i hi k hk with (h | h) | h
      · exact .inl (.inl (by rw [h]))
      · exact .inl (.inr (by rw [h]))
      · exact .inr h
  · rintro ⟨⟨h1, h2⟩, h4⟩
    refine ⟨⟨⟨h1, fun i hi => (h2 i hi).1⟩, fun i hi => (h2 i hi).2⟩, ?_⟩
    rcases h4 with h4 | h4
    · exact .inl h4
    · refine .inr fun i hi k hk => ?_
      have hne := corners_ne (n := ps.length) (g := gp ps) (fun i hi0 hi => lt_ne (by rcases (h2 i hi).2 with h | h; omega; exact h))
        (fun i hi k hk => by rcases h4 i hi k hk with (h | h) | h; exact .inl h; exact .inr (.inl h); exact .inr (.inr h))
      have inj : ∀ a b, a < ps.length → b < ps.length → gp ps a = gp ps b → a = b := by
        intro a b ha hb e
        rcases Nat.lt_trichotomy a b with h | h | h
        · exact absurd e (hne a b h hb)
        · exact h
        · exact absurd e.symm (hne b a h ha)
      rcases h4 i hi k hk with (h | h) | h
      · exact .inl (.inl (inj _ _ hk hi h))
      · exact .inl (.inr (inj _ _ hk (Nat.mod_lt _ (by omega)) h))
      · exact .inr h

/- Has, within. -/
def betwB (a b x : Pt) : Bool := decide (min a.1 b.1 ≤ x.1 ∧ x.1 ≤ max a.1 b.1 ∧ min a.2 b.2 ≤ x.2 ∧ x.2 ≤ max a.2 b.2)
def sideB (ps : List Pt) (x : Pt) (i : Nat) : Bool := decide (0 ≤ crossP (gp ps i) (gp ps ((i + 1) % ps.length)) x)
def hasB (ps : List Pt) (x : Pt) : Bool :=
  if ps.length = 1 then gp ps 0 == x
  else if ps.length = 2 then decide (crossP (gp ps 0) (gp ps 1) x = 0) && betwB (gp ps 0) (gp ps 1) x
  else (List.range ps.length).all (sideB ps x)
def withinB (p q : List Pt) : Bool := p.all (hasB q)
theorem filter_len {α : Type} (f : α → Bool) : ∀ l : List α, decide ((l.filter f).length = l.length) = l.all f
  | [] => rfl
  | x :: l => by
    have ih := filter_len f l
    have := List.length_filter_le f l
    by_cases h : f x = true
    · rw [List.filter_cons_of_pos h, List.all_cons, h, ← ih]; simp
    · rw [List.filter_cons_of_neg h, List.all_cons]
      simp only [Bool.not_eq_true] at h
      rw [h]
      simp only [Bool.false_and, decide_eq_false_iff_not, List.length_cons]
      omega

/- Cases. -/
structure CaseS where
  sn : List Int
  cl : List Int
  st : List (List Pt)
structure BelS where
  t : Int
  cs : List CaseS
def gi (l : List Int) (i : Nat) : Int := l.getD i 0
def rise1 (lo hi : Int) (l : List Int) (i : Nat) : Bool := decide (lo ≤ gi l i ∧ gi l i ≤ hi) && (i == 0 || decide (gi l (i - 1) < gi l i))
def risingB (lo hi : Int) (l : List Int) : Bool := (List.range l.length).all (rise1 lo hi l)
def regionB (r : List (List Pt)) : Bool := decide (r.length ≤ 32) && r.all validB
/-- Where two lists differ first: the comparison of the elements. -/
def lexB : List Int → List Int → Int
  | x :: a, y :: b => if cmpI x y ≠ 0 then cmpI x y else lexB a b
  | [], [] => 0
  | [], _ :: _ => -1
  | _ :: _, [] => 1
def listsC (a b : List Int) : Int := if cmpI a.length b.length ≠ 0 then cmpI a.length b.length else lexB a b
def caseC (a b : CaseS) : Int := if listsC a.sn b.sn ≠ 0 then listsC a.sn b.sn else listsC a.cl b.cl
/-- The reference's comparison. -/
def diffB : List Int → List Int → Int
  | x :: a, y :: b => if x ≠ y then x - y else diffB a b
  | _, _ => 0
def listsR (a b : List Int) : Int := if a.length ≠ b.length then (a.length : Int) - b.length else diffB a b
def caseR (a b : CaseS) : Int := if listsR a.sn b.sn ≠ 0 then listsR a.sn b.sn else listsR a.cl b.cl
theorem cmpI_sgn (x y : Int) : (cmpI x y < 0 ↔ x < y) ∧ (cmpI x y = 0 ↔ x = y) := by
  unfold cmpI
  repeat' split
  all_goals omega
theorem diff_sgn : ∀ a b : List Int, a.length = b.length → (diffB a b < 0 ↔ lexB a b < 0) ∧ (diffB a b = 0 ↔ lexB a b = 0)
  | [], [], _ => by simp [diffB, lexB]
  | [], _ :: _, h => by simp at h
  | _ :: _, [], h => by simp at h
  | x :: a, y :: b, h => by
    have ih := diff_sgn a b (by simpa using h)
    have hs := cmpI_sgn x y
    simp only [diffB, lexB]
    by_cases e : x = y
    · simp [e, (cmpI_sgn y y).2]; exact ih
    · have h0 : cmpI x y ≠ 0 := fun h => e (hs.2.1 h)
      rw [if_pos e, if_pos h0]
      exact ⟨by omega, ⟨fun h => absurd (by omega) e, fun h => absurd h h0⟩⟩
theorem listsR_sgn (a b : List Int) : (listsR a b < 0 ↔ listsC a b < 0) ∧ (listsR a b = 0 ↔ listsC a b = 0) := by
  have hs := cmpI_sgn a.length b.length
  unfold listsR listsC
  by_cases e : a.length = b.length
  · have : cmpI (a.length : Int) b.length = 0 := hs.2.2 (by omega)
    simp [e, (cmpI_sgn (b.length : Int) b.length).2]
    exact diff_sgn a b e
  · have h0 : cmpI (a.length : Int) b.length ≠ 0 := fun h => e (by have := hs.2.1 h; omega)
    rw [if_pos e, if_pos h0]
    exact ⟨by omega, ⟨fun h => absurd (by omega) e, fun h => absurd h h0⟩⟩
theorem caseR_sgn (a b : CaseS) : (caseR a b < 0 ↔ caseC a b < 0) ∧ (caseR a b = 0 ↔ caseC a b = 0) := by
  have h1 := listsR_sgn a.sn b.sn
  have h2 := listsR_sgn a.cl b.cl
  unfold caseR caseC
  by_cases e : listsC a.sn b.sn = 0
  · simp [e, h1.2.2 e, h2]
  · have : listsR a.sn b.sn ≠ 0 := fun h => e (h1.2.1 h)
    simp [e, this, h1]
def case1 (c : CaseS) : Bool := decide (c.st ≠ []) && regionB c.st && risingB 1 8 c.sn && risingB 0 3999 c.cl
def gc (cs : List CaseS) (i : Nat) : CaseS := cs.getD i ⟨[], [], []⟩
def caseV (cs : List CaseS) (i : Nat) : Bool := case1 (gc cs i) && (i == 0 || decide (caseC (gc cs (i - 1)) (gc cs i) < 0))
def casesB (cs : List CaseS) : Bool := decide (cs.length ≤ 200) && (List.range cs.length).all (caseV cs)
def leftB (cs : List CaseS) (q : List Pt) : Bool := cs.any fun c => c.st.any fun p => !withinB p q
def kindB (cs : List CaseS) (q : List Pt) : Int := if cs = [] then 1 else if leftB cs q = true then 2 else 0
def raiseB (cs : List CaseS) (q : List Pt) : Int × Int := if casesB cs && validB q then (kindB cs q, 0) else (0, 1)
def gb (bs : List BelS) (i : Nat) : BelS := bs.getD i ⟨0, []⟩
def lastT (bs : List BelS) : Nat → Int
  | 0 => 0
  | i + 1 => (gb bs i).t
def belV (bs : List BelS) (i : Nat) : Bool := decide (lastT bs i ≤ (gb bs i).t ∧ (gb bs i).t ≤ 1000000000) && casesB (gb bs i).cs
def belB (bs : List BelS) : Bool := (List.range bs.length).all (belV bs)
/-- The first alarm. -/
def fstB (q : List Pt) : List BelS → Int × Int
  | [] => (0, 0)
  | b :: bs => if kindB b.cs q ≠ 0 then (0, kindB b.cs q) else ((fstB q bs).1 + 1, (fstB q bs).2)
theorem fst_drop (q : List Pt) : ∀ (bs : List BelS) (i : Nat), i ≤ bs.length → (∀ j, j < i → kindB (gb bs j).cs q = 0) → fstB q bs = ((fstB q (bs.drop i)).1 + i, (fstB q (bs.drop i)).2)
  | _, 0, _, _ => by simp
  | [], i + 1, h, _ => by simp at h
  | b :: bs, i + 1, h, hk => by
    have h0 : kindB b.cs q = 0 := by have := hk 0 (by omega); simpa [gb] using this
    rw [List.drop_succ_cons, fstB, if_neg (fun h => h h0), fst_drop q bs i (by simpa using h) (fun j hj => by have := hk (j + 1) (by omega); simpa [gb] using this)]
    refine Prod.ext ?_ rfl
    show _ + _ + 1 = _ + ((i + 1 : Nat) : Int)
    omega
theorem fst_here {q : List Pt} {bs : List BelS} {i : Nat} (hi : i < bs.length) (hk : ∀ j, j < i → kindB (gb bs j).cs q = 0) (h : kindB (gb bs i).cs q ≠ 0) : fstB q bs = ((i : Int), kindB (gb bs i).cs q) := by
  rw [fst_drop q bs i (by omega) hk, List.drop_eq_getElem_cons hi]
  have e : bs[i] = gb bs i := by simp [gb, hi]
  rw [e, fstB, if_pos h]; simp
theorem fst_none {q : List Pt} {bs : List BelS} (hk : ∀ j, j < bs.length → kindB (gb bs j).cs q = 0) : fstB q bs = ((bs.length : Int), 0) := by
  rw [fst_drop q bs bs.length (Nat.le_refl _) hk, List.drop_length]; simp [fstB]
def firstB (bs : List BelS) (q : List Pt) : Int × Int × Int :=
  if 2001 < bs.length then (0, 0, 2) else if belB bs && validB q then ((fstB q bs).1, (fstB q bs).2, 0) else (0, 0, 1)
end Go.Proofs.Ytaobaeiohjgdcaa

/- Contracts of the leaf functions of hull and of the reference: part a. -/
namespace Go.Proofs.Ytaobaeiohjgdcaa
open Go Go.V Go.RowKit
def pt (x y : Int) : Value := .agg #[.int .i64 x, .int .i64 y]
theorem mul_bd {a b : Int} (M N : Int) (h1 : -M ≤ a) (h2 : a ≤ M) (h3 : -N ≤ b) (h4 : b ≤ N) (hM : 0 ≤ M) (hN : 0 ≤ N) : -(M * N) ≤ a * b ∧ a * b ≤ M * N := by
  have key : ∀ {a b : Int}, -M ≤ a → a ≤ M → -N ≤ b → b ≤ N → a * b ≤ M * N := by
    intro a b h1 h2 h3 h4
    by_cases ha : 0 ≤ a
    · by_cases hb : 0 ≤ b
      · exact Int.mul_le_mul h2 h4 hb hM
      · have : a * b ≤ 0 := Int.mul_nonpos_of_nonneg_of_nonpos ha (by omega)
        have := Int.mul_nonneg hM hN
        omega
    · by_cases hb : 0 ≤ b
      · have : a * b ≤ 0 := Int.mul_nonpos_of_nonpos_of_nonneg (by omega) hb
        have := Int.mul_nonneg hM hN
        omega
      · have := Int.mul_le_mul (a := -a) (b := -b) (c := M) (d := N) (by omega) (by omega) (by omega) hM
        rw [Int.neg_mul_neg] at this
        exact this
  have e1 := key h1 h2 h3 h4
  have e2 := key (a := -a) (b := b) (by omega) (by omega) h3 h4
  rw [Int.neg_mul] at e2
  omega
theorem bd12 {a b : Int} (h1 : -1000000 ≤ a) (h2 : a ≤ 1000000) (h3 : -1000000 ≤ b) (h4 : b ≤ 1000000) : -1000000000000 ≤ a * b ∧ a * b ≤ 1000000000000 := by
  have := mul_bd 1000000 1000000 h1 h2 h3 h4 (by omega) (by omega)
  omega

theorem turn_fn (ax ay bx by' cx' cy : Int) (M : Mem) (h1 : isC ax) (h2 : isC ay) (h3 : isC bx) (h4 : isC by') (h5 : isC cx') (h6 : isC cy) :
    FnP Try.prog 57 [pt ax ay, pt bx by', pt cx' cy] M [.int .i64 (cross ax ay bx by' cx' cy)] := by
  unfold isC at *
  have p1 := bd12 (a := bx - ax) (b := cy - ay) (by omega) (by omega) (by omega) (by omega)
  have p2 := bd12 (a := by' - ay) (b := cx' - ax) (by omega) (by omega) (by omega) (by omega)
  refine Fn.of_vc cxOK Try.func57 rfl rfl rfl ?_
  repeat (first | refine VIf.tt ?_ | refine VIf.ff ?_)
  refine VArith.ok (by omega) (by omega) ?_
  repeat (first | refine VIf.tt ?_ | refine VIf.ff ?_)
  refine VArith.ok (by omega) (by omega) ?_
  repeat (first | refine VIf.tt ?_ | refine VIf.ff ?_)
  refine VArith.ok (by omega) (by omega) ?_
  repeat (first | refine VIf.tt ?_ | refine VIf.ff ?_)
  refine VArith.ok (by omega) (by omega) ?_
  repeat (first | refine VIf.tt ?_ | refine VIf.ff ?_)
  refine VArith.ok (by omega) (by omega) ?_
  repeat (first | refine VIf.tt ?_ | refine VIf.ff ?_)
  refine VArith.ok (by omega) (by omega) ?_
  repeat (first | refine VIf.tt ?_ | refine VIf.ff ?_)
  refine VArith.ok (by omega) (by omega) ?_
  repeat (first | refine VIf.tt ?_ | refine VIf.ff ?_)
  exact VFact.mk ⟨rfl, rfl⟩ trivial
end Go.Proofs.Ytaobaeiohjgdcaa

/- Data in memory; the iterator over the sides. -/
namespace Go.Proofs.Ytaobaeiohjgdcaa
open Go Go.V Go.RowKit
def cellsP (ps : List Pt) : List Value := ps.flatMap fun p => [.int .i64 p.1, .int .i64 p.2]
def Pts (M : Mem) (v : Value) (ps : List Pt) : Prop := SlAt M 2 v ps.length (cellsP ps)
def ptv (p : Pt) : Value := pt p.1 p.2
def sidesL (ps : List Pt) : List (List Value) := (List.range ps.length).map fun i => [ptv (ps.getD i (0,0)), ptv (ps.getD ((i + 1) % ps.length) (0,0))]
theorem cellsP_get : ∀ (ps : List Pt) (i : Nat), i < ps.length → (cellsP ps)[2 * i]? = some (.int .i64 (ps.getD i (0,0)).1) ∧ (cellsP ps)[2 * i + 1]? = some (.int .i64 (ps.getD i (0,0)).2)
  | [], i, h => by cases h
  | p :: ps, 0, _ => ⟨rfl, rfl⟩
  | p :: ps, i + 1, h => by
    have := cellsP_get ps i (by simpa using h)
    have e1 : 2 * (i + 1) = 2 * i + 1 + 1 := by omega
    rw [e1]
    simpa [cellsP] using this
theorem box1 {M : Mem} {B : Nat} {v : Value} {t : TypeId} (h : M B = some (.cells #[v] t (0, 0))) : M.cell ⟨B, 0, none⟩ = some v := by
  simp [Mem.cell, h]

theorem sides_iter (M : Mem) (B : Nat) (v : Value) (ps : List Pt) (hB : M B = some (.cells #[v] 24 (0, 0))) (hv : Pts M v ps) :
    Iter Try.prog 91 #[.pointer (some ⟨B, 0, none⟩)] M (sidesL ps) := by
  obtain ⟨ad, c, rfl, hc, hm, hl, h1, hcell⟩ := hv
  refine Iter.of_vc cxOK Try.func91 rfl rfl rfl rfl fun l => ?_
  repeat (first | refine VIf.tt ?_ | refine VIf.ff ?_)
  refine VRead.mk _ (box1 hB) ?_
  repeat (first | refine VIf.tt ?_ | refine VIf.ff ?_)
  refine VCode.loopG cxOK (fun m => m = fun _ => none) rfl Nat
    (fun i => ⟨[(0, .v (.func (.yield l) #[] #[])), (1, .v (.pointer (some ⟨B, 0, none⟩))), (5, .v (.slice ad ps.length c)), (6, .v (.int .i64 ps.length)), (7, .v (.int .i64 i))], [], 0, M, 25, ⟨fun _ => none, some (l, (sidesL ps).drop i), fun _ => none⟩⟩)
    (fun i => i ≤ ps.length) (fun i => ps.length - i) 0 (Nat.zero_le _) ?_ ?_
  · exact Wk.mk' id ⟨⟨rfl, rfl⟩, ⟨rfl, rfl⟩, ⟨rfl, rfl⟩, ⟨rfl, rfl⟩, ⟨rfl, rfl⟩, trivial⟩ trivial trivial rfl rfl rfl
  rintro i hi m rfl
  repeat (first | refine VIf.tt ?_ | refine VIf.ff ?_)
  refine VIf.mk (fun hlt => ?_) (fun hge => ?_)
  · have hlt : i < ps.length := by simpa using hlt
    obtain ⟨ad', rfl, hrd⟩ := hcell (by omega)
    have hpt : ∀ k, k < ps.length → ∀ j v, [Value.int .i64 (ps.getD k (0,0)).1, .int .i64 (ps.getD k (0,0)).2][j]? = some v → M.cell ((ad'.add (k * 2)).add j) = some v := by
      intro k hk j v hj
      obtain ⟨g1, g2⟩ := cellsP_get ps k hk
      rw [show (ad'.add (k * 2)).add j = ad'.add (2 * k + j) by rw [Addr.add_add]; congr 1; omega]
      refine hrd _ _ ?_
      match j, hj with
      | 0, hj => rw [← hj]; exact g1
      | 1, hj => rw [← hj]; exact g2
      | j + 2, hj => simp at hj
    repeat (first | refine VIf.tt ?_ | refine VIf.ff ?_)
    refine VIdx.mk ad' i rfl rfl hlt ?_
    repeat (first | refine VIf.tt ?_ | refine VIf.ff ?_)
    refine VReads.mk [.int .i64 (ps.getD i (0,0)).1, .int .i64 (ps.getD i (0,0)).2] rfl (hpt i hlt) ?_
    repeat (first | refine VIf.tt ?_ | refine VIf.ff ?_)
    refine VDraw.go (by kernel_rfl) ?_
    have hmod : (i + 1) % ps.length < ps.length := Nat.mod_lt _ (by omega)
    repeat (first | refine VIf.tt ?_ | refine VIf.ff ?_)
    refine VRead.mk _ (box1 hB) ?_
    conv => whnf
    repeat (first | refine VIf.tt ?_ | refine VIf.ff ?_)
    refine VArith.ok (by omega) (by unfold maxLen at hm; omega) ?_
    repeat (first | refine VIf.tt ?_ | refine VIf.ff ?_)
    refine VRead.mk _ (box1 hB) ?_
    conv => whnf
    repeat (first | refine VIf.tt ?_ | refine VIf.ff ?_)
    refine VDiv.mk (by omega) ?_
    repeat (first | refine VIf.tt ?_ | refine VIf.ff ?_)
    refine VIdx.mk ad' ((i + 1) % ps.length) rfl ?_ hmod ?_
    · rw [Int.tmod_eq_emod_of_nonneg (by omega)]; simp
    repeat (first | refine VIf.tt ?_ | refine VIf.ff ?_)
    refine VReads.mk [.int .i64 (ps.getD ((i + 1) % ps.length) (0,0)).1, .int .i64 (ps.getD ((i + 1) % ps.length) (0,0)).2] rfl (hpt _ hmod) ?_
    repeat (first | refine VIf.tt ?_ | refine VIf.ff ?_)
    refine VYield.mk ((sidesL ps).drop (i + 1)) ?_ ?_ ?_
    · simp only [Gh.mk.injEq, and_true, true_and, Option.some.injEq, Prod.mk.injEq]
      rw [List.drop_eq_getElem_cons (by simpa [sidesL] using hlt)]
      simp [sidesL, ptv, pt]
    · refine VIf.ff ?_
      repeat (first | refine VIf.tt ?_ | refine VIf.ff ?_)
      refine VArith.ok (by omega) (by unfold maxLen at hm; omega) ?_
      exact ⟨rfl, i + 1, hlt, by omega, Wk.mk' id ⟨⟨rfl, rfl⟩, ⟨rfl, rfl⟩, ⟨rfl, rfl⟩, ⟨rfl, rfl⟩, ⟨rfl, rfl⟩, trivial⟩ trivial trivial rfl rfl rfl⟩
    · refine VIf.tt ?_
      exact VEnd.stop rfl
  · have hge : i = ps.length := by
      have : ¬ ((i : Int) < (ps.length : Int)) := by simpa using hge
      omega
    subst hge
    exact VEnd.all (by simp [sidesL])
end Go.Proofs.Ytaobaeiohjgdcaa

/- Contracts: places, comparisons. -/
namespace Go.Proofs.Ytaobaeiohjgdcaa
open Go Go.V Go.RowKit
theorem bool1 {a b : Bool} (h : a = true ↔ b = true) : [Value.bool a] = [.bool b] := by
  cases a <;> cases b <;> simp_all
theorem Place_fn (x y : Int) (M : Mem) : FnP Try.prog 23 [pt x y] M [.bool (isCb x && isCb y)] := by
  refine Fn.of_vc cxOK Try.func23 rfl rfl rfl ?_
  repeat' (first | refine VIf.tt ?_ | refine VIf.ff ?_ | refine VIf.mk (fun _ => ?_) (fun _ => ?_) | refine VFact.mk ?_ trivial)
  all_goals (refine ⟨bool1 ?_, rfl⟩; simp only [isCb, Bool.and_eq_true, decide_eq_true_eq, decide_eq_false_iff_not, Bool.false_eq_true, false_iff] at *; omega)

theorem isPlace_fn (x y : Int) (M : Mem) (hx : i64r x) (hy : i64r y) : FnP Try.prog 54 [pt x y] M [.bool (isCb x && isCb y)] := by
  unfold i64r at *
  have wmin : IntKind.wrap .i64 (- -9223372036854775808) = -9223372036854775808 := by decide
  refine Fn.of_vc cxOK Try.func54 rfl rfl rfl ?_
  have neg : ∀ (z : Int) (K : Int → Prop), -9223372036854775808 ≤ z → z ≤ 9223372036854775807 → (z ≠ -9223372036854775808 → K (-z)) → (z = -9223372036854775808 → K (-9223372036854775808)) → VArith (-9223372036854775808) 9223372036854775807 .i64 (-z) K := by
    intro z K h1 h2 h3 h4
    by_cases hz : z = -9223372036854775808
    · repeat (first | refine VIf.tt ?_ | refine VIf.ff ?_)
      refine VArith.wr ?_
      rw [hz, wmin]; exact h4 hz
    · repeat (first | refine VIf.tt ?_ | refine VIf.ff ?_)
      exact VArith.ok (by omega) (by omega) (h3 hz)
  repeat' (first | refine neg _ _ (by omega) (by omega) (fun _ => ?_) (fun _ => ?_) | refine VIf.tt ?_ | refine VIf.ff ?_ | refine VIf.mk (fun _ => ?_) (fun _ => ?_) | refine VFact.mk ?_ trivial)
  all_goals (refine ⟨bool1 ?_, rfl⟩; simp only [isCb, Bool.and_eq_true, decide_eq_true_eq, decide_eq_false_iff_not, Bool.false_eq_true, false_iff] at *; simp only [List.foldl] at *; omega)

theorem isNaN_fn (x : Int) (M : Mem) : FnP Try.prog 111 [.int .i64 x] M [.bool false] := by
  refine Fn.of_vc cxOK Try.func111 rfl rfl rfl ?_
  repeat (first | refine VIf.tt ?_ | refine VIf.ff ?_)
  refine VFact.mk ⟨?_, rfl⟩ trivial
  simp
theorem Compare_fn (x y : Int) (M : Mem) : FnP Try.prog 90 [.int .i64 x, .int .i64 y] M [.int .i64 (cmpI x y)] := by
  refine Fn.of_vc cxOK Try.func90 rfl rfl rfl ?_
  repeat' (first | refine VFn.p (isNaN_fn _ _) ?_ | refine VIf.tt ?_ | refine VIf.ff ?_ | refine VIf.mk (fun _ => ?_) (fun _ => ?_) | refine VFact.mk ?_ trivial)
  all_goals (refine ⟨?_, rfl⟩; simp_all [cmpI] <;> omega)
theorem Cross_fn (ax ay bx by' cx cy : Int) (M : Mem) (h1 : isC ax) (h2 : isC ay) (h3 : isC bx) (h4 : isC by') (h5 : isC cx) (h6 : isC cy) :
    FnP Try.prog 43 [pt ax ay, pt bx by', pt cx cy] M [.int .i64 (cross ax ay bx by' cx cy)] := by
  unfold isC at *
  have p1 := bd12 (a := bx - ax) (b := cy - ay) (by omega) (by omega) (by omega) (by omega)
  have p2 := bd12 (a := by' - ay) (b := cx - ax) (by omega) (by omega) (by omega) (by omega)
  refine Fn.of_vc cxOK Try.func43 rfl rfl rfl ?_
  repeat' (first | refine VArith.ok (by omega) (by omega) ?_)
  repeat (first | refine VIf.tt ?_ | refine VIf.ff ?_)
  exact VFact.mk ⟨rfl, rfl⟩ trivial
end Go.Proofs.Ytaobaeiohjgdcaa

/- Contracts: cmp.Or, hull.compare, hull.sides. -/
namespace Go.Proofs.Ytaobaeiohjgdcaa
open Go Go.V Go.RowKit
def Ints (M : Mem) (v : Value) (xs : List Int) : Prop := SlAt M 1 v xs.length (xs.map (Value.int .i64))

theorem Or_fn (v : Value) (xs : List Int) (M : Mem) (hv : Ints M v xs) : FnP Try.prog 89 [v] M [.int .i64 (orL xs)] := by
  obtain ⟨ad, c, rfl, hc, hm, hl, h1, hcell⟩ := hv
  refine Fn.of_vc cxOK Try.func89 rfl rfl rfl ?_
  repeat (first | refine VIf.tt ?_ | refine VIf.ff ?_)
  refine VCode.loop cxOK Nat
    (fun i => ⟨[(3, .v (.int .i64 0)), (6, .v (.slice ad xs.length c)), (7, .v (.int .i64 xs.length)), (8, .v (.int .i64 i))], [], 0, M, 18, ⟨fun _ => none, none, fun _ => none⟩⟩)
    (fun i => i ≤ xs.length ∧ ∀ j, j < i → xs.getD j 0 = 0) (fun i => xs.length - i) 0 ⟨Nat.zero_le _, fun j hj => by omega⟩ ?_ ?_
  · exact Wk.mk' id ⟨⟨rfl, rfl⟩, ⟨rfl, rfl⟩, ⟨rfl, rfl⟩, ⟨rfl, rfl⟩, trivial⟩ trivial trivial rfl rfl rfl
  rintro i ⟨hi, hz⟩ m
  repeat (first | refine VIf.tt ?_ | refine VIf.ff ?_)
  refine VIf.mk (fun hlt => ?_) (fun hge => ?_)
  · have hlt : i < xs.length := by simpa using hlt
    obtain ⟨ad', rfl, hrd⟩ := hcell (by omega)
    repeat (first | refine VIf.tt ?_ | refine VIf.ff ?_)
    refine VIdx.mk ad' i rfl rfl hlt ?_
    repeat (first | refine VIf.tt ?_ | refine VIf.ff ?_)
    refine VRead.mk (.int .i64 (xs.getD i 0)) ?_ ?_
    · have := hrd i (.int .i64 (xs.getD i 0)) (by simp [hlt])
      simpa using this
    repeat (first | refine VIf.tt ?_ | refine VIf.ff ?_)
    refine VIf.mk (fun hne => ?_) (fun heq => ?_)
    · repeat (first | refine VIf.tt ?_ | refine VIf.ff ?_)
      refine VFact.mk ⟨?_, rfl⟩ trivial
      rw [← orL_drop xs i hz, List.drop_eq_getElem_cons hlt]
      have : xs.getD i 0 ≠ 0 := by simpa using hne
      have e : xs.getD i 0 = xs[i] := by simp [hlt]
      rw [e] at this ⊢
      simp [orL, this]
    · repeat (first | refine VIf.tt ?_ | refine VIf.ff ?_)
      refine VArith.ok (by omega) (by unfold maxLen at hm; omega) ?_
      refine ⟨i + 1, ⟨hlt, fun j hj => ?_⟩, by omega, Wk.mk' id ⟨⟨rfl, rfl⟩, ⟨rfl, rfl⟩, ⟨rfl, rfl⟩, ⟨rfl, rfl⟩, trivial⟩ trivial trivial rfl rfl rfl⟩
      by_cases hji : j = i
      · subst hji; simpa using heq
      · exact hz j (by omega)
  · have hge : i = xs.length := by
      have : ¬ ((i : Int) < (xs.length : Int)) := by simpa using hge
      omega
    subst hge
    repeat (first | refine VIf.tt ?_ | refine VIf.ff ?_)
    refine VFact.mk ⟨?_, rfl⟩ trivial
    rw [← orL_drop xs _ hz]
    simp [orL]

theorem sides_fn (ad : Option Addr) (n c : Nat) (M : Mem) : V.Fn Try.prog 56 [.slice ad n c] M fun rs M' => ∃ B, rs = [.func (.func 91) #[] #[.pointer (some ⟨B, 0, none⟩)]] ∧ M' B = some (.cells #[.slice ad n c] 24 (0, 0)) := by
  refine Fn.of_vc cxOK Try.func56 rfl rfl rfl ?_
  repeat (first | refine VIf.tt ?_ | refine VIf.ff ?_)
  refine VFzB.mk fun x B M' hle hB => ?_
  repeat (first | refine VIf.tt ?_ | refine VIf.ff ?_)
  exact VFact.mk ⟨B, rfl, hB⟩ trivial

theorem compare_fn (ax ay bx by' : Int) (M : Mem) : V.Fn Try.prog 55 [pt ax ay, pt bx by'] M fun rs _ => rs = [.int .i64 (cmpP ax ay bx by')] := by
  refine Fn.of_vc cxOK Try.func55 rfl rfl rfl ?_
  repeat (first | refine VIf.tt ?_ | refine VIf.ff ?_)
  refine VDraw.go (by kernel_rfl) ?_
  repeat (first | refine VIf.tt ?_ | refine VIf.ff ?_)
  refine VFn.p (Compare_fn _ _ _) ?_
  repeat (first | refine VIf.tt ?_ | refine VIf.ff ?_)
  refine VFn.p (Compare_fn _ _ _) ?_
  repeat (first | refine VIf.tt ?_ | refine VIf.ff ?_)
  refine VFz.mk fun x B M' hle hx => ?_
  repeat (first | refine VIf.tt ?_ | refine VIf.ff ?_)
  refine VFn.p (Or_fn x [cmpI ax bx, cmpI ay by'] _ hx) ?_
  repeat (first | refine VIf.tt ?_ | refine VIf.ff ?_)
  refine VFact.mk ?_ trivial
  simp [orL, cmpP]
  by_cases h : cmpI ax bx = 0 <;> by_cases h' : cmpI ay by' = 0 <;> simp [h, h']
end Go.Proofs.Ytaobaeiohjgdcaa

/- Contracts: hull.Valid. -/
namespace Go.Proofs.Ytaobaeiohjgdcaa
open Go Go.V Go.RowKit
/-- A point of a list, read. -/
theorem Pts.read {M : Mem} {ad : Addr} {ps : List Pt} (hrd : ∀ (j : Nat) (v : Value), (cellsP ps)[j]? = some v → M.cell (ad.add j) = some v) {k : Nat} (hk : k < ps.length) :
    ∀ j v, [Value.int .i64 (gp ps k).1, .int .i64 (gp ps k).2][j]? = some v → M.cell ((ad.add (k * 2)).add j) = some v := by
  intro j v hj
  obtain ⟨g1, g2⟩ := cellsP_get ps k hk
  rw [show (ad.add (k * 2)).add j = ad.add (2 * k + j) by rw [Addr.add_add]; congr 1; omega]
  refine hrd _ _ ?_
  match j, hj with
  | 0, hj => rw [← hj]; exact g1
  | 1, hj => rw [← hj]; exact g2
  | j + 2, hj => simp at hj

theorem injOK_id : ∀ (l : List (Nat × Option OE)), injOK id l
  | [] => trivial
  | (i, _) :: l => ⟨fun j _ => by by_cases h : i = j; exact .inl h; exact .inr h, injOK_id l⟩
/-- What the cells of a slice of points say, in whatever memory comes. -/
theorem Pts.cellsOf {M : Mem} {ad : Option Addr} {n c : Nat} {ps : List Pt} (h : Pts M (.slice ad n c) ps) : n = ps.length ∧ n ≤ maxLen ∧ ∀ M', M.le M' → ∀ k, k < ps.length → ∃ ad', ad = some ad' ∧ ∀ j v, [Value.int .i64 (gp ps k).1, .int .i64 (gp ps k).2][j]? = some v → M'.cell ((ad'.add (k * 2)).add j) = some v := by
  obtain ⟨ad, c, he, hc, hm, hl, h1, hcell⟩ := h
  cases he
  refine ⟨rfl, by omega, fun M' hM k hk => ?_⟩
  obtain ⟨ad', rfl, hrd⟩ := hcell (by omega)
  exact ⟨ad', rfl, fun j v hj => Mem.cell_le hM (Pts.read hrd hk j v hj)⟩
theorem Pts.shape {M : Mem} {v : Value} {ps : List Pt} (h : Pts M v ps) : ∃ ad c, v = .slice ad ps.length c := let ⟨ad, c, he, _⟩ := h; ⟨ad, c, he⟩

theorem sidesL_get {ps : List Pt} {k : Nat} {args : List Value} (h : (sidesL ps)[k]? = some args) : k < ps.length ∧ args = [ptv (gp ps k), ptv (gp ps ((k + 1) % ps.length))] := by
  simp only [sidesL, List.getElem?_map] at h
  cases hr : (List.range ps.length)[k]? with
  | none => rw [hr] at h; cases h
  | some i =>
    rw [hr] at h
    simp only [Option.map_some, Option.some.injEq] at h
    obtain ⟨h1, h2⟩ := List.getElem?_eq_some_iff.1 hr
    simp at h1 h2
    subst h2
    exact ⟨h1, h.symm⟩
theorem Valid_fn (v : Value) (ps : List Pt) (M : Mem) (hv : Pts M v ps) (hi64 : i64P ps) : V.Fn Try.prog 25 [v] M fun rs _ => rs = [.bool (validB ps)] := by
  obtain ⟨ad, c, rfl⟩ := hv.shape
  obtain ⟨_, hm, hrd⟩ := hv.cellsOf
  unfold maxLen at hm
  refine Fn.of_vc cxOK Try.func25 rfl rfl rfl ?_
  repeat (first | refine VIf.tt ?_ | refine VIf.ff ?_)
  refine VIf.mk (fun hlt => ?_) (fun hge0 => ?_)
  · repeat (first | refine VIf.tt ?_ | refine VIf.ff ?_)
    repeat (first | refine VIf.tt ?_ | refine VIf.ff ?_)
    refine VFact.mk ?_ trivial
    have : ps.length = 0 := by simp at hlt; omega
    simp [validB, this]
  repeat (first | refine VIf.tt ?_ | refine VIf.ff ?_)
  repeat (first | refine VIf.tt ?_ | refine VIf.ff ?_)
  refine VIf.mk (fun hgt => ?_) (fun hle => ?_)
  · repeat (first | refine VIf.tt ?_ | refine VIf.ff ?_)
    repeat (first | refine VIf.tt ?_ | refine VIf.ff ?_)
    refine VFact.mk ?_ trivial
    have : 64 < ps.length := by simp at hgt; omega
    simp [validB]; omega
  repeat (first | refine VIf.tt ?_ | refine VIf.ff ?_)
  repeat (first | refine VIf.tt ?_ | refine VIf.ff ?_)
  refine VCode.loop cxOK (Nat × Mem)
    (fun s => ⟨[(1, .box 0 0), (2, .box 1 0), (17, .v (.slice ad ps.length c)), (18, .v (.int .i64 ps.length)), (19, .v (.int .i64 s.1))], [(1, some (.box 4 [.v (.bool false)])), (0, some (.box 24 [.v (.slice ad ps.length c)]))], 2, s.2, 69, ⟨fun _ => none, none, fun _ => none⟩⟩)
    (fun s => M.le s.2 ∧ s.1 ≤ ps.length ∧ ∀ j, j < s.1 → v1B ps j = true) (fun s => ps.length - s.1) (0, M) ⟨Mem.le_refl _, Nat.zero_le _, fun j hj => by omega⟩ ?_ ?_
  · exact Wk.mk' id ⟨⟨rfl, rfl⟩, ⟨rfl, rfl⟩, ⟨rfl, rfl⟩, ⟨rfl, rfl⟩, ⟨rfl, rfl⟩, trivial⟩ ⟨⟨rfl, rfl, ⟨rfl, rfl⟩, trivial⟩, ⟨rfl, rfl, ⟨rfl, rfl⟩, trivial⟩, trivial⟩ (injOK_id _) rfl rfl rfl
  rintro ⟨i, M1⟩ ⟨hM1, hi, hz⟩ m
  repeat (first | refine VIf.tt ?_ | refine VIf.ff ?_)
  refine VIf.mk (fun hlt => ?_) (fun hge => ?_)
  · have hlt : i < ps.length := by simpa using hlt
    obtain ⟨ad', rfl, hpi⟩ := hrd M1 hM1 i hlt
    repeat (first | refine VIf.tt ?_ | refine VIf.ff ?_)
    refine VIdx.mk ad' i rfl rfl hlt ?_
    repeat (first | refine VIf.tt ?_ | refine VIf.ff ?_)
    refine VReads.mk [.int .i64 (gp ps i).1, .int .i64 (gp ps i).2] rfl hpi ?_
    repeat (first | refine VIf.tt ?_ | refine VIf.ff ?_)
    refine VDraw.go (by kernel_rfl) ?_
    repeat (first | refine VIf.tt ?_ | refine VIf.ff ?_)
    refine VFn.p (isPlace_fn _ _ _ (hi64 i hlt).1 (hi64 i hlt).2) ?_
    repeat (first | refine VIf.tt ?_ | refine VIf.ff ?_)
    refine VIf.mk (fun hnp => ?_) (fun hp => ?_)
    · repeat (first | refine VIf.tt ?_ | refine VIf.ff ?_)
      repeat (first | refine VIf.tt ?_ | refine VIf.ff ?_)
      refine VFact.mk ?_ trivial
      have : v1B ps i = false := by simp [v1B, placeB] at hnp ⊢; intro a b; simp_all
      simp [validB, all_false hlt this]
    have hp : placeB (gp ps i) = true := by simpa [placeB] using hp
    repeat (first | refine VIf.tt ?_ | refine VIf.ff ?_)
    repeat (first | refine VIf.tt ?_ | refine VIf.ff ?_)
    refine VIf.mk (fun hi0 => ?_) (fun hi0 => ?_)
    · have hi0 : 0 < i := by simp at hi0; omega
      repeat (first | refine VIf.tt ?_ | refine VIf.ff ?_)
      obtain ⟨ad2, he2, hp0⟩ := hrd M1 hM1 0 (by omega)
      cases he2
      repeat (first | refine VIf.tt ?_ | refine VIf.ff ?_)
      refine VIdx.mk ad' 0 rfl rfl (by omega) ?_
      repeat (first | refine VIf.tt ?_ | refine VIf.ff ?_)
      repeat (first | refine VIf.tt ?_ | refine VIf.ff ?_)
      refine VReads.mk [.int .i64 (gp ps 0).1, .int .i64 (gp ps 0).2] rfl hp0 ?_
      repeat (first | refine VIf.tt ?_ | refine VIf.ff ?_)
      repeat (first | refine VIf.tt ?_ | refine VIf.ff ?_)
      refine VFn.mk _ (compare_fn _ _ _ _ _) ?_
      rintro rs M' hM rfl
      repeat (first | refine VIf.tt ?_ | refine VIf.ff ?_)
      repeat (first | refine VIf.tt ?_ | refine VIf.ff ?_)
      refine VIf.mk (fun hc => ?_) (fun hc => ?_)
      · repeat (first | refine VIf.tt ?_ | refine VIf.ff ?_)
        repeat (first | refine VIf.tt ?_ | refine VIf.ff ?_)
        refine VFact.mk ?_ trivial
        have hcc : ¬ cmpPt (gp ps 0) (gp ps i) < 0 := by simp [cmpPt] at hc ⊢; exact hc
        have : v1B ps i = false := by simp [v1B, hcc, Nat.ne_of_gt hi0]
        simp [validB, all_false hlt this]
      · repeat (first | refine VIf.tt ?_ | refine VIf.ff ?_)
        repeat (first | refine VIf.tt ?_ | refine VIf.ff ?_)
        refine VArith.ok (by simp only; omega) (by simp only; omega) ?_
        refine ⟨(i + 1, M'), ⟨hM1.trans hM, hlt, fun j hj => ?_⟩, by simp only; omega, Wk.mk' id ⟨⟨rfl, rfl⟩, ⟨rfl, rfl⟩, ⟨rfl, rfl⟩, ⟨rfl, rfl⟩, ⟨rfl, rfl⟩, trivial⟩ ⟨⟨rfl, rfl, ⟨rfl, rfl⟩, trivial⟩, ⟨rfl, rfl, ⟨rfl, rfl⟩, trivial⟩, trivial⟩ (injOK_id _) rfl rfl rfl⟩
        by_cases hji : j = i
        · subst hji
          have hcc : cmpPt (gp ps 0) (gp ps j) < 0 := by simp [cmpPt] at hc ⊢; exact hc
          simp [v1B, hp, hcc]
        · exact hz j (by simp only at hj ⊢; omega)
    · repeat (first | refine VIf.tt ?_ | refine VIf.ff ?_)
      repeat (first | refine VIf.tt ?_ | refine VIf.ff ?_)
      refine VArith.ok (by simp only; omega) (by simp only; omega) ?_
      refine ⟨(i + 1, M1), ⟨hM1, hlt, fun j hj => ?_⟩, by simp only; omega, Wk.mk' id ⟨⟨rfl, rfl⟩, ⟨rfl, rfl⟩, ⟨rfl, rfl⟩, ⟨rfl, rfl⟩, ⟨rfl, rfl⟩, trivial⟩ ⟨⟨rfl, rfl, ⟨rfl, rfl⟩, trivial⟩, ⟨rfl, rfl, ⟨rfl, rfl⟩, trivial⟩, trivial⟩ (injOK_id _) rfl rfl rfl⟩
      by_cases hji : j = i
      · subst hji
        have : j = 0 := by simp at hi0; omega
        simp only [v1B, hp, Bool.true_and, Bool.or_eq_true, beq_iff_eq]
        exact .inl this
      · exact hz j (by simp only at hj ⊢; omega)
  have hin : i = ps.length := by
    have : ¬ ((i : Int) < (ps.length : Int)) := by simpa using hge
    simp only at hi
    omega
  subst hin
  have hall : (List.range ps.length).all (v1B ps) = true := all_true hz
  have hC : ∀ k, k < ps.length → isC (gp ps k).1 ∧ isC (gp ps k).2 := fun k hk => by
    have := hz k hk
    simp only [v1B, placeB, Bool.and_eq_true] at this
    exact ⟨isCb_iff.1 this.1.1, isCb_iff.1 this.1.2⟩
  have hn1 : 1 ≤ ps.length := by simp at hge0; omega
  have hn64 : ps.length ≤ 64 := by simp at hle; omega
  repeat (first | refine VIf.tt ?_ | refine VIf.ff ?_)
  refine VIf.mk (fun h3 => ?_) (fun h3 => ?_)
  · repeat (first | refine VIf.tt ?_ | refine VIf.ff ?_)
    repeat (first | refine VIf.tt ?_ | refine VIf.ff ?_)
    refine VFact.mk ?_ trivial
    have : ps.length < 3 := by simp at h3; omega
    simp [validB, hall, hn1, hn64, this]
  repeat (first | refine VIf.tt ?_ | refine VIf.ff ?_)
  have h3 : ¬ ps.length < 3 := by simp at h3; omega
  repeat (first | refine VIf.tt ?_ | refine VIf.ff ?_)
  refine VFn.mk _ (sides_fn _ _ _ _) ?_
  rintro rs M2 hM2 ⟨B, rfl, hB⟩
  have hM2 : M.le M2 := hM1.trans hM2
  repeat (first | refine VIf.tt ?_ | refine VIf.ff ?_)
  refine VCode.rangeB cxOK rfl (sides_iter M2 B _ ps hB (hv.le hM2)) (fun x hx => ?_) [(1, .box 0 0), (2, .box 1 0)] rfl (by kernel_rfl) (by kernel_rfl) Mem
    (fun k s => ⟨[(1, .box 0 0), (2, .box 1 0)], [(1, some (.box 4 [.v (.bool false)])), (0, some (.box 24 [.v (.slice ad ps.length c)]))], 2, s, 69, ⟨fun _ => none, none, fun _ => none⟩⟩)
    (fun k s => M2.le s ∧ ∀ j, j < k → v3B ps j = true) M2 ⟨Mem.le_refl _, fun j hj => by omega⟩ ?_ (fun k s => ⟨rfl, rfl⟩) ?_ ?_
  · simp only [sidesL, List.mem_map] at hx
    obtain ⟨k, _, rfl⟩ := hx
    rfl
  · exact Wk.mk' id ⟨⟨rfl, rfl⟩, ⟨rfl, rfl⟩, trivial⟩ ⟨⟨rfl, rfl, ⟨rfl, rfl⟩, trivial⟩, ⟨rfl, rfl, ⟨rfl, rfl⟩, trivial⟩, trivial⟩ (injOK_id _) rfl rfl rfl
  · rintro k M3 args ⟨hM3, hz3⟩ hxs m f
    obtain ⟨hk, rfl⟩ := sidesL_get hxs
    have hM3' : M2.le M3 := hM3
    have hM3 : M.le M3 := hM2.trans hM3
    have hk' : (k + 1) % ps.length < ps.length := Nat.mod_lt _ (by omega)
    intro m'
    repeat (first | refine VIf.tt ?_ | refine VIf.ff ?_)
    refine VCode.loop cxOK (Nat × Mem)
      (fun s => ⟨[(1, .box 0 0), (2, .box 1 0), (5, .box 2 0), (6, .box 3 0), (47, .v (.slice ad ps.length c)), (48, .v (.int .i64 ps.length)), (49, .v (.int .i64 s.1))],
        [(3, some (.box 39 [.v (.int .i64 (gp ps ((k + 1) % ps.length)).1), .v (.int .i64 (gp ps ((k + 1) % ps.length)).2)])), (2, some (.box 39 [.v (.int .i64 (gp ps k).1), .v (.int .i64 (gp ps k).2)])), (1, some (.box 4 [.v (.bool false)])), (0, some (.box 24 [.v (.slice ad ps.length c)]))], 4, s.2, 69, ⟨fun _ => none, none, fun _ => none⟩⟩)
      (fun s => M3.le s.2 ∧ s.1 ≤ ps.length ∧ ∀ j, j < s.1 → v2B (gp ps k) (gp ps ((k + 1) % ps.length)) (gp ps j) = true) (fun s => ps.length - s.1) (0, M3) ⟨Mem.le_refl _, Nat.zero_le _, fun j hj => by omega⟩ ?_ ?_
    · exact Wk.mk' id ⟨⟨rfl, rfl⟩, ⟨rfl, rfl⟩, ⟨rfl, rfl⟩, ⟨rfl, rfl⟩, ⟨rfl, rfl⟩, ⟨rfl, rfl⟩, ⟨rfl, rfl⟩, trivial⟩ ⟨⟨rfl, rfl, ⟨rfl, rfl⟩, ⟨rfl, rfl⟩, trivial⟩, ⟨rfl, rfl, ⟨rfl, rfl⟩, ⟨rfl, rfl⟩, trivial⟩, ⟨rfl, rfl, ⟨rfl, rfl⟩, trivial⟩, ⟨rfl, rfl, ⟨rfl, rfl⟩, trivial⟩, trivial⟩ (injOK_id _) rfl rfl rfl
    rintro ⟨i, M4⟩ ⟨hM4, hi4, hz4⟩ m4
    have hM4' : M3.le M4 := hM4
    have hM4 : M.le M4 := hM3.trans hM4
    have step : ∀ {f : Nat → Bool} (i : Nat), (∀ j, j < i → f j = true) → f i = true → ∀ j, j < i + 1 → f j = true := fun i h hi j hj => by
      by_cases e : j = i
      · rw [e]; exact hi
      · exact h j (by omega)
    repeat (first | refine VIf.tt ?_ | refine VIf.ff ?_)
    refine VIf.mk (fun hlt => ?_) (fun hge => ?_)
    · have hlt : i < ps.length := by simpa using hlt
      obtain ⟨ad', rfl, hpi⟩ := hrd M4 hM4 i hlt
      repeat (first | refine VIf.tt ?_ | refine VIf.ff ?_)
      refine VIdx.mk ad' i rfl rfl hlt ?_
      repeat (first | refine VIf.tt ?_ | refine VIf.ff ?_)
      refine VReads.mk [.int .i64 (gp ps i).1, .int .i64 (gp ps i).2] rfl hpi ?_
      conv => whnf
      repeat (first | refine VIf.tt ?_ | refine VIf.ff ?_)
      refine VIf.mk (fun hxa => ?_) (fun hxa => ?_)
      · repeat (first | refine VIf.tt ?_ | refine VIf.ff ?_)
        repeat (first | refine VIf.tt ?_ | refine VIf.ff ?_)
        refine VIf.mk (fun hxb => ?_) (fun hxb => ?_)
        · repeat (first | refine VIf.tt ?_ | refine VIf.ff ?_)
          repeat (first | refine VIf.tt ?_ | refine VIf.ff ?_)
          refine VFn.p (turn_fn _ _ _ _ _ _ _ (hC k hk).1 (hC k hk).2 (hC _ hk').1 (hC _ hk').2 (hC i hlt).1 (hC i hlt).2) ?_
          repeat (first | refine VIf.tt ?_ | refine VIf.ff ?_)
          repeat (first | refine VIf.tt ?_ | refine VIf.ff ?_)
          refine VIf.mk (fun ht => ?_) (fun ht => ?_)
          · repeat (first | refine VIf.tt ?_ | refine VIf.ff ?_)
            refine ⟨(⟨[(1, .box 0 0), (2, .box 1 0)], [(1, some (.box 4 [.v (.bool false)])), (0, some (.box 24 [.v (.slice (some ad') ps.length c)]))], 2, M4, 69, ⟨fun _ => none, none, fun _ => none⟩⟩ : St), (Wk.mk' id (by repeat' constructor) (by repeat' constructor) (injOK_id _) rfl rfl rfl), rfl, rfl, fun m => ?_⟩
            repeat (first | refine VIf.tt ?_ | refine VIf.ff ?_)
            refine VFact.mk ?_ trivial
            have h2 : v2B (gp ps k) (gp ps ((k + 1) % ps.length)) (gp ps i) = false := by
              have hx := of_decide_eq_true ht
              have hc : ¬ (0 < crossP (gp ps k) (gp ps ((k + 1) % ps.length)) (gp ps i)) := by unfold crossP; omega
              simp only [Bool.not_eq_true', Bool.and_eq_false_iff, beq_eq_false_iff_ne] at hxa hxb
              simp only [v2B, Bool.or_eq_false_iff, beq_eq_false_iff_ne, decide_eq_false_iff_not]
              exact ⟨⟨fun e => by rw [e] at hxa; simp at hxa, fun e => by rw [e] at hxb; simp at hxb⟩, hc⟩
            have h3' : (List.range ps.length).all (v3B ps) = false := all_false hk (all_false hlt h2)
            simp [validB, h3', h3]
          · repeat (first | refine VIf.tt ?_ | refine VIf.ff ?_)
            repeat (first | refine VIf.tt ?_ | refine VIf.ff ?_)
            refine VArith.ok (by simp only; omega) (by simp only; omega) ?_
            refine ⟨(i + 1, M4), ⟨hM4', hlt, step i hz4 ?_⟩, by simp only; omega, (Wk.mk' id (by repeat' constructor) (by repeat' constructor) (injOK_id _) rfl rfl rfl)⟩
            have hx := of_decide_eq_false ht
            have hc : 0 < crossP (gp ps k) (gp ps ((k + 1) % ps.length)) (gp ps i) := by unfold crossP; omega
            simp [v2B, hc]
        · repeat (first | refine VIf.tt ?_ | refine VIf.ff ?_)
          repeat (first | refine VIf.tt ?_ | refine VIf.ff ?_)
          refine VArith.ok (by simp only; omega) (by simp only; omega) ?_
          refine ⟨(i + 1, M4), ⟨hM4', hlt, step i hz4 ?_⟩, by simp only; omega, (Wk.mk' id (by repeat' constructor) (by repeat' constructor) (injOK_id _) rfl rfl rfl)⟩
          have e : gp ps i = gp ps ((k + 1) % ps.length) := by
            simp only [Bool.not_eq_false', Bool.and_eq_true, beq_iff_eq] at hxb
            exact Prod.ext hxb.1 hxb.2
          simp [v2B, e]
      · repeat (first | refine VIf.tt ?_ | refine VIf.ff ?_)
        repeat (first | refine VIf.tt ?_ | refine VIf.ff ?_)
        refine VArith.ok (by simp only; omega) (by simp only; omega) ?_
        refine ⟨(i + 1, M4), ⟨hM4', hlt, step i hz4 ?_⟩, by simp only; omega, (Wk.mk' id (by repeat' constructor) (by repeat' constructor) (injOK_id _) rfl rfl rfl)⟩
        have e : gp ps i = gp ps k := by
          simp only [Bool.not_eq_false', Bool.and_eq_true, beq_iff_eq] at hxa
          exact Prod.ext hxa.1 hxa.2
        simp [v2B, e]
    · have hin : i = ps.length := by
        have : ¬ ((i : Int) < (ps.length : Int)) := by simpa using hge
        simp only at hi4
        omega
      subst hin
      refine ⟨M4, ⟨hM3'.trans hM4', step k hz3 (all_true hz4)⟩, (Wk.mk' id (by repeat' constructor) (by repeat' constructor) (injOK_id _) rfl rfl rfl)⟩
  · rintro M3 m ⟨hM3, hz3⟩
    repeat (first | refine VIf.tt ?_ | refine VIf.ff ?_)
    refine VFact.mk ?_ trivial
    have : (List.range ps.length).all (v3B ps) = true := all_true fun j hj => hz3 j (by simpa [sidesL] using hj)
    simp [validB, hall, hn1, hn64, this]
end Go.Proofs.Ytaobaeiohjgdcaa

/- Data in memory: lists of integers, polygons, regions, cases, beliefs. -/
namespace Go.Proofs.Ytaobaeiohjgdcaa
open Go Go.V Go.RowKit
/-- A slice whose elements say the elements of a list. -/
def Arr {α : Type} (D : Mem → α → List Value → Prop) (M : Mem) (k : Nat) (v : Value) (l : List α) : Prop :=
  ∃ rows : List (List Value), rows.length = l.length ∧ (∀ r ∈ rows, r.length = k) ∧ SlAt M k v l.length rows.flatten ∧ ∀ (i : Nat) (x : α) (r : List Value), l[i]? = some x → rows[i]? = some r → D M x r
theorem Arr.le {α : Type} {D : Mem → α → List Value → Prop} (hD : ∀ M M' x r, M.le M' → D M x r → D M' x r) {M M' : Mem} {k : Nat} {v : Value} {l : List α} (h : Arr D M k v l) (hM : M.le M') : Arr D M' k v l :=
  let ⟨rows, h1, h2, h3, h4⟩ := h
  ⟨rows, h1, h2, h3.le hM, fun i x r hx hr => hD _ _ _ _ hM (h4 i x r hx hr)⟩
theorem flat_get {k : Nat} : ∀ (rows : List (List Value)) (i : Nat) (r : List Value), (∀ r ∈ rows, r.length = k) → rows[i]? = some r → ∀ j x, r[j]? = some x → rows.flatten[i * k + j]? = some x
  | [], i, r, _, h, _, _, _ => by simp at h
  | r0 :: rows, 0, r, hk, h, j, x, hx => by
    simp at h; subst h
    rw [List.flatten_cons, Nat.zero_mul, Nat.zero_add, List.getElem?_append_left (List.getElem?_eq_some_iff.1 hx).1]
    exact hx
  | r0 :: rows, i + 1, r, hk, h, j, x, hx => by
    have h0 := hk r0 (List.mem_cons_self)
    rw [List.flatten_cons, List.getElem?_append_right (by rw [h0, Nat.add_mul]; omega)]
    rw [show (i + 1) * k + j - r0.length = i * k + j by rw [h0, Nat.add_mul]; omega]
    exact flat_get rows i r (fun r hr => hk r (List.mem_cons_of_mem _ hr)) (by simpa using h) j x hx
/-- What a slice's elements are. -/
theorem Arr.get {α : Type} {D : Mem → α → List Value → Prop} {M : Mem} {k : Nat} {v : Value} {l : List α} (h : Arr D M k v l) :
    ∃ ad c, v = .slice ad l.length c ∧ l.length ≤ 9223372036854775807 ∧ ∀ i x, l[i]? = some x → ∃ ad' r, ad = some ad' ∧ r.length = k ∧ D M x r ∧ ∀ M', M.le M' → ∀ j y, r[j]? = some y → M'.cell ((ad'.add (i * k)).add j) = some y := by
  obtain ⟨rows, h1, h2, ⟨ad, c, rfl, hc, hm, hl, ho, hcell⟩, h4⟩ := h
  refine ⟨ad, c, rfl, ?_, fun i x hx => ?_⟩
  · unfold maxLen at hm; omega
  have hi := (List.getElem?_eq_some_iff.1 hx).1
  obtain ⟨ad', rfl, hrd⟩ := hcell (by omega)
  have hr : rows[i]? = some (rows[i]'(by omega)) := List.getElem?_eq_getElem (by omega)
  refine ⟨ad', _, rfl, h2 _ (List.getElem_mem _), h4 i x _ hx hr, fun M' hM j y hy => ?_⟩
  rw [Addr.add_add]
  exact Mem.cell_le hM (hrd _ _ (flat_get rows i _ h2 hr j y hy))
theorem add0 (a : Addr) : a.add 0 = a := by simp [Addr.add]
def IntD (_ : Mem) (n : Int) (r : List Value) : Prop := r = [.int .i64 n] ∧ i64r n
def PolyD (M : Mem) (ps : List Pt) (r : List Value) : Prop := ∃ v, r = [v] ∧ Pts M v ps ∧ i64P ps
def IntsV (M : Mem) (v : Value) (l : List Int) : Prop := Arr IntD M 1 v l
def RegV (M : Mem) (v : Value) (l : List (List Pt)) : Prop := Arr PolyD M 1 v l
def CaseD (M : Mem) (c : CaseS) (r : List Value) : Prop := ∃ a b s, r = [a, b, s] ∧ IntsV M a c.sn ∧ IntsV M b c.cl ∧ RegV M s c.st
def CasV (M : Mem) (v : Value) (l : List CaseS) : Prop := Arr CaseD M 3 v l
def BelD (M : Mem) (b : BelS) (r : List Value) : Prop := ∃ v, r = [.int .i64 b.t, v] ∧ i64r b.t ∧ CasV M v b.cs
def BelsV (M : Mem) (v : Value) (l : List BelS) : Prop := Arr BelD M 2 v l
theorem IntsV.le {M M' : Mem} {v : Value} {l : List Int} (h : IntsV M v l) (hM : M.le M') : IntsV M' v l := Arr.le (fun _ _ _ _ _ h => h) h hM
theorem RegV.le {M M' : Mem} {v : Value} {l : List (List Pt)} (h : RegV M v l) (hM : M.le M') : RegV M' v l :=
  Arr.le (fun _ _ _ _ hM ⟨v, h1, h2, h3⟩ => ⟨v, h1, SlAt.le hM h2, h3⟩) h hM
theorem CasV.le {M M' : Mem} {v : Value} {l : List CaseS} (h : CasV M v l) (hM : M.le M') : CasV M' v l :=
  Arr.le (fun _ _ _ _ hM ⟨a, b, s, h1, h2, h3, h4⟩ => ⟨a, b, s, h1, h2.le hM, h3.le hM, h4.le hM⟩) h hM
theorem BelsV.le {M M' : Mem} {v : Value} {l : List BelS} (h : BelsV M v l) (hM : M.le M') : BelsV M' v l :=
  Arr.le (fun _ _ _ _ hM ⟨v, h1, h2, h3⟩ => ⟨v, h1, h2, h3.le hM⟩) h hM
theorem getD_get {α : Type} {l : List α} {i : Nat} (d : α) (h : i < l.length) : l[i]? = some (l.getD i d) := by simp [h]
/-- A slice of integers. -/
theorem IntsV.get {M : Mem} {v : Value} {l : List Int} (h : IntsV M v l) : ∃ ad c, v = .slice ad l.length c ∧ l.length ≤ 9223372036854775807 ∧ ∀ M', M.le M' → ∀ i, i < l.length → ∃ ad', ad = some ad' ∧ i64r (gi l i) ∧ M'.cell (ad'.add (i * 1)) = some (.int .i64 (gi l i)) := by
  obtain ⟨ad, c, h1, h2, h3⟩ := Arr.get h
  refine ⟨ad, c, h1, h2, fun M' hM i hi => ?_⟩
  obtain ⟨ad', r, h4, _, ⟨rfl, h5⟩, h6⟩ := h3 i _ (getD_get 0 hi)
  exact ⟨ad', h4, h5, by have := h6 M' hM 0 _ rfl; rw [add0] at this; exact this⟩
theorem RegV.get {M : Mem} {v : Value} {l : List (List Pt)} (h : RegV M v l) : ∃ ad c, v = .slice ad l.length c ∧ l.length ≤ 9223372036854775807 ∧ ∀ M', M.le M' → ∀ i, i < l.length → ∃ ad' w, ad = some ad' ∧ Pts M' w (l.getD i []) ∧ i64P (l.getD i []) ∧ M'.cell (ad'.add (i * 1)) = some w := by
  obtain ⟨ad, c, h1, h2, h3⟩ := Arr.get h
  refine ⟨ad, c, h1, h2, fun M' hM i hi => ?_⟩
  obtain ⟨ad', r, h4, _, ⟨w, rfl, h5, h5'⟩, h6⟩ := h3 i _ (getD_get [] hi)
  exact ⟨ad', w, h4, SlAt.le hM h5, h5', by have := h6 M' hM 0 _ rfl; rw [add0] at this; exact this⟩
theorem CasV.get {M : Mem} {v : Value} {l : List CaseS} (h : CasV M v l) : ∃ ad c, v = .slice ad l.length c ∧ l.length ≤ 9223372036854775807 ∧ ∀ M', M.le M' → ∀ i, i < l.length → ∃ ad' a b s, ad = some ad' ∧ IntsV M' a (gc l i).sn ∧ IntsV M' b (gc l i).cl ∧ RegV M' s (gc l i).st ∧ ∀ j y, [a, b, s][j]? = some y → M'.cell ((ad'.add (i * 3)).add j) = some y := by
  obtain ⟨ad, c, h1, h2, h3⟩ := Arr.get h
  refine ⟨ad, c, h1, h2, fun M' hM i hi => ?_⟩
  obtain ⟨ad', r, h4, _, ⟨a, b, s, rfl, h5, h5', h5''⟩, h6⟩ := h3 i _ (getD_get ⟨[], [], []⟩ hi)
  exact ⟨ad', a, b, s, h4, h5.le hM, h5'.le hM, h5''.le hM, h6 M' hM⟩
theorem BelsV.get {M : Mem} {v : Value} {l : List BelS} (h : BelsV M v l) : ∃ ad c, v = .slice ad l.length c ∧ l.length ≤ 9223372036854775807 ∧ ∀ M', M.le M' → ∀ i, i < l.length → ∃ ad' w, ad = some ad' ∧ i64r (gb l i).t ∧ CasV M' w (gb l i).cs ∧ ∀ j y, [.int .i64 (gb l i).t, w][j]? = some y → M'.cell ((ad'.add (i * 2)).add j) = some y := by
  obtain ⟨ad, c, h1, h2, h3⟩ := Arr.get h
  refine ⟨ad, c, h1, h2, fun M' hM i hi => ?_⟩
  obtain ⟨ad', r, h4, _, ⟨w, rfl, h5, h5'⟩, h6⟩ := h3 i _ (getD_get ⟨0, []⟩ hi)
  exact ⟨ad', w, h4, h5, h5'.le hM, h6 M' hM⟩
theorem RegV.shape {M : Mem} {v : Value} {l : List (List Pt)} (h : RegV M v l) : ∃ ad c, v = .slice ad l.length c := let ⟨ad, c, he, _⟩ := h.get; ⟨ad, c, he⟩
end Go.Proofs.Ytaobaeiohjgdcaa

/- Contracts: the reference's Less, places, between. -/
namespace Go.Proofs.Ytaobaeiohjgdcaa
open Go Go.V Go.RowKit
theorem stepI {f : Nat → Bool} {i : Nat} (h : ∀ j, j < i → f j = true) (hi : f i = true) : ∀ j, j < i + 1 → f j = true := fun j hj => by
  by_cases e : j = i
  · rw [e]; exact hi
  · exact h j (by omega)
theorem lt_of_dec {a b : Nat} (h : decide ((a : Int) < (b : Int)) = true) : a < b := by simpa using h
theorem ge_of_dec {a b : Nat} (h : decide ((a : Int) < (b : Int)) = false) : b ≤ a := by simpa using h
theorem eq_of_bne {a b : Nat} (h : ((a : Int) != (b : Int)) = false) : a = b := by have := (bne_eq_false_iff_eq).1 h; omega
theorem ne_of_bne {a b : Nat} (h : ((a : Int) != (b : Int)) = true) : a ≠ b := by have := bne_iff_ne.1 h; omega
theorem bn1 {b : Bool} (h : (!b) = true) : b = false := by simpa using h
theorem bn2 {b : Bool} (h : (!b) = false) : b = true := by simpa using h
theorem FnP.cast {P : Program} {f : Nat} {args : List Value} {M : Mem} {vs ws : List Value} (h : FnP P f args M vs) (e : vs = ws) : FnP P f args M ws := e ▸ h
theorem Less_fn (ax ay bx by' : Int) (M : Mem) : FnP Try.prog 67 [pt ax ay, pt bx by'] M [.bool (lessB (ax, ay) (bx, by'))] := by
  refine Fn.of_vc cxOK Try.func67 rfl rfl rfl ?_
  repeat' (first | refine VIf.tt ?_ | refine VIf.ff ?_ | refine VIf.mk (fun _ => ?_) (fun _ => ?_) | refine VFact.mk ?_ trivial)
  all_goals (refine ⟨bool1 ?_, rfl⟩; simp only [lessB, Bool.or_eq_true, Bool.and_eq_true, decide_eq_true_eq, decide_eq_false_iff_not, beq_iff_eq, beq_eq_false_iff_ne, Bool.false_eq_true, false_iff, true_iff, eq_self] at *; omega)
theorem between_fn (ax ay bx by' cx' cy : Int) (M : Mem) : FnP Try.prog 75 [pt ax ay, pt bx by', pt cx' cy] M [.bool (betwB (ax, ay) (bx, by') (cx', cy))] := by
  refine Fn.of_vc cxOK Try.func75 rfl rfl rfl ?_
  repeat' (first | refine VIf.tt ?_ | refine VIf.ff ?_ | refine VIf.mk (fun _ => ?_) (fun _ => ?_) | refine VFact.mk ?_ trivial)
  all_goals (refine ⟨bool1 ?_, rfl⟩; simp only [betwB, decide_eq_true_eq, decide_eq_false_iff_not, Bool.false_eq_true, false_iff] at *; simp only [List.foldl] at *; omega)
theorem places_fn (v : Value) (ps : List Pt) (M : Mem) (hv : Pts M v ps) : FnP Try.prog 65 [v] M [.bool ((List.range ps.length).all fun i => placeB (gp ps i))] := by
  obtain ⟨ad, c, rfl⟩ := hv.shape
  obtain ⟨_, hm, hrd⟩ := hv.cellsOf
  unfold maxLen at hm
  refine Fn.of_vc cxOK Try.func65 rfl rfl rfl ?_
  repeat (first | refine VIf.tt ?_ | refine VIf.ff ?_)
  refine VCode.loop cxOK Nat (fun i => ⟨[(0, .v (.slice ad ps.length c)), (3, .v (.int .i64 i))], [], 0, M, 16, ⟨fun _ => none, none, fun _ => none⟩⟩)
    (fun i => i ≤ ps.length ∧ ∀ j, j < i → placeB (gp ps j) = true) (fun i => ps.length - i) 0 ⟨Nat.zero_le _, fun j hj => by omega⟩ (Wk.mk' id (by repeat' constructor) (by repeat' constructor) (injOK_id _) rfl rfl rfl) ?_
  rintro i ⟨hi, hz⟩ m
  repeat (first | refine VIf.tt ?_ | refine VIf.ff ?_)
  refine VIf.mk (fun hlt => ?_) (fun hge => ?_)
  · have hlt := lt_of_dec hlt
    obtain ⟨ad', rfl, hpi⟩ := hrd M (Mem.le_refl _) i hlt
    repeat (first | refine VIf.tt ?_ | refine VIf.ff ?_)
    refine VIdx.mk ad' i rfl rfl hlt ?_
    repeat (first | refine VIf.tt ?_ | refine VIf.ff ?_)
    refine VReads.mk [.int .i64 (gp ps i).1, .int .i64 (gp ps i).2] rfl hpi ?_
    repeat (first | refine VIf.tt ?_ | refine VIf.ff ?_)
    refine VFn.p (Place_fn _ _ _) ?_
    repeat (first | refine VIf.tt ?_ | refine VIf.ff ?_)
    refine VIf.mk (fun hp => ?_) (fun hp => ?_)
    · repeat (first | refine VIf.tt ?_ | refine VIf.ff ?_)
      refine VFact.mk ⟨?_, rfl⟩ trivial
      rw [all_false hlt (bn1 hp)]
    · repeat (first | refine VIf.tt ?_ | refine VIf.ff ?_)
      refine VArith.ok (by first | omega | (simp only; omega)) (by first | omega | (simp only; omega)) ?_
      exact ⟨i + 1, ⟨hlt, stepI hz (bn2 hp)⟩, (by first | omega | (simp only; omega)), (Wk.mk' id (by repeat' constructor) (by repeat' constructor) (injOK_id _) rfl rfl rfl)⟩
  · have := ge_of_dec hge
    have e : i = ps.length := by omega
    subst e
    repeat (first | refine VIf.tt ?_ | refine VIf.ff ?_)
    refine VFact.mk ⟨?_, rfl⟩ trivial
    rw [all_true hz]
theorem ValidR_fn (v : Value) (ps : List Pt) (M : Mem) (hv : Pts M v ps) (_hi64 : i64P ps) : FnP Try.prog 32 [v] M [.bool (validR ps)] := by
  obtain ⟨ad, c, rfl⟩ := hv.shape
  obtain ⟨_, hm, hrd⟩ := hv.cellsOf
  unfold maxLen at hm
  refine Fn.of_vc cxOK Try.func32 rfl rfl rfl ?_
  have bad1 : ps.length < 1 → validR ps = false := fun h => by simp [validR]; omega
  have bad2 : 64 < ps.length → validR ps = false := fun h => by simp [validR]; omega
  repeat (first | refine VIf.tt ?_ | refine VIf.ff ?_)
  refine VIf.mk (fun h1 => ?_) (fun h1 => ?_)
  · repeat (first | refine VIf.tt ?_ | refine VIf.ff ?_)
    repeat (first | refine VIf.tt ?_ | refine VIf.ff ?_)
    refine VFact.mk ⟨?_, rfl⟩ trivial
    rw [bad1 (by simp only [decide_eq_true_eq] at h1; omega)]
  repeat (first | refine VIf.tt ?_ | refine VIf.ff ?_)
  refine VIf.mk (fun h2 => ?_) (fun h2 => ?_)
  · repeat (first | refine VIf.tt ?_ | refine VIf.ff ?_)
    repeat (first | refine VIf.tt ?_ | refine VIf.ff ?_)
    refine VFact.mk ⟨?_, rfl⟩ trivial
    rw [bad2 (by simp at h2; omega)]
  repeat (first | refine VIf.tt ?_ | refine VIf.ff ?_)
  refine VFn.p (places_fn _ ps _ hv) ?_
  repeat (first | refine VIf.tt ?_ | refine VIf.ff ?_)
  refine VIf.mk (fun h3 => ?_) (fun h3 => ?_)
  · repeat (first | refine VIf.tt ?_ | refine VIf.ff ?_)
    repeat (first | refine VIf.tt ?_ | refine VIf.ff ?_)
    refine VFact.mk ⟨?_, rfl⟩ trivial
    have := bn1 h3
    simp [validR, this]
  repeat (first | refine VIf.tt ?_ | refine VIf.ff ?_)
  have hpl := all_iff.1 (bn2 h3)
  have hn1 : 1 ≤ ps.length := by simp only [decide_eq_false_iff_not] at h1; omega
  have hn64 : ps.length ≤ 64 := by simp only [decide_eq_false_iff_not] at h2; omega
  have hC : ∀ k, k < ps.length → isC (gp ps k).1 ∧ isC (gp ps k).2 := fun k hk => by
    have := hpl k hk
    simp only [placeB, Bool.and_eq_true] at this
    exact ⟨isCb_iff.1 this.1, isCb_iff.1 this.2⟩
  have rd : ∀ k, k < ps.length → _ := hrd M (Mem.le_refl _)
  obtain ⟨ad', rfl, hp0⟩ := rd 0 (by omega)
  repeat (first | refine VIf.tt ?_ | refine VIf.ff ?_)
  refine VCode.loop cxOK Nat (fun i => ⟨[(0, .v (.slice (some ad') ps.length c)), (3, .v (.int .i64 ps.length)), (4, .v (.int .i64 (i + 1 : Nat)))], [], 0, M, 78, ⟨fun _ => none, none, fun _ => none⟩⟩)
    (fun i => i + 1 ≤ ps.length ∧ ∀ j, j < i + 1 → (j == 0 || lessB (gp ps 0) (gp ps j)) = true) (fun i => ps.length - i) 0 ⟨hn1, fun j hj => by simp; omega⟩ (Wk.mk' id (by repeat' constructor) (by repeat' constructor) (injOK_id _) rfl rfl rfl) ?_
  rintro i ⟨hi, hz⟩ m
  repeat (first | refine VIf.tt ?_ | refine VIf.ff ?_)
  refine VIf.mk (fun hlt => ?_) (fun hge => ?_)
  · have hlt := lt_of_dec hlt
    obtain ⟨_, he, hpi⟩ := rd (i + 1) hlt
    cases he
    repeat (first | refine VIf.tt ?_ | refine VIf.ff ?_)
    refine VDraw.go (by kernel_rfl) ?_
    repeat (first | refine VIf.tt ?_ | refine VIf.ff ?_)
    refine VIdx.mk ad' 0 rfl rfl (by omega) ?_
    repeat (first | refine VIf.tt ?_ | refine VIf.ff ?_)
    refine VReads.mk [.int .i64 (gp ps 0).1, .int .i64 (gp ps 0).2] rfl hp0 ?_
    repeat (first | refine VIf.tt ?_ | refine VIf.ff ?_)
    refine VIdx.mk ad' (i + 1) rfl rfl hlt ?_
    repeat (first | refine VIf.tt ?_ | refine VIf.ff ?_)
    refine VReads.mk [.int .i64 (gp ps (i + 1)).1, .int .i64 (gp ps (i + 1)).2] rfl hpi ?_
    repeat (first | refine VIf.tt ?_ | refine VIf.ff ?_)
    refine VFn.p (Less_fn _ _ _ _ _) ?_
    repeat (first | refine VIf.tt ?_ | refine VIf.ff ?_)
    refine VIf.mk (fun hp => ?_) (fun hp => ?_)
    · repeat (first | refine VIf.tt ?_ | refine VIf.ff ?_)
      refine VFact.mk ⟨?_, rfl⟩ trivial
      have : (List.range ps.length).all (fun i => i == 0 || lessB (gp ps 0) (gp ps i)) = false := all_false hlt (by have := bn1 hp; simpa using this)
      simp [validR, this]
    · repeat (first | refine VIf.tt ?_ | refine VIf.ff ?_)
      refine VArith.ok (by first | omega | (simp only; omega)) (by first | omega | (simp only; omega)) ?_
      exact ⟨i + 1, ⟨by omega, stepI hz (by have := bn2 hp; simpa using this)⟩, (by first | omega | (simp only; omega)), (Wk.mk' id (by repeat' constructor) (by repeat' constructor) (injOK_id _) rfl rfl rfl)⟩
  · have := ge_of_dec hge
    have e : i + 1 = ps.length := by omega
    have hall : (List.range ps.length).all (fun i => i == 0 || lessB (gp ps 0) (gp ps i)) = true := all_true (by rw [← e]; exact hz)
    have hplB : (List.range ps.length).all (fun i => placeB (gp ps i)) = true := bn2 h3
    repeat (first | refine VIf.tt ?_ | refine VIf.ff ?_)
    refine VCode.loop cxOK Nat (fun i => ⟨[(0, .v (.slice (some ad') ps.length c)), (3, .v (.int .i64 ps.length)), (5, .v (.int .i64 i))], [], 0, M, 78, ⟨fun _ => none, none, fun _ => none⟩⟩)
      (fun i => i ≤ ps.length ∧ ∀ j, j < i → (List.range ps.length).all (r3B ps j) = true) (fun i => ps.length - i) 0 ⟨Nat.zero_le _, fun j hj => by omega⟩ (Wk.mk' id (by repeat' constructor) (by repeat' constructor) (injOK_id _) rfl rfl rfl) ?_
    rintro i ⟨hi, hz⟩ m
    repeat (first | refine VIf.tt ?_ | refine VIf.ff ?_)
    refine VIf.mk (fun hlt => ?_) (fun hge => ?_)
    · have hlt := lt_of_dec hlt
      repeat (first | refine VIf.tt ?_ | refine VIf.ff ?_)
      refine VIf.mk (fun h3n => ?_) (fun h3n => ?_)
      · repeat (first | refine VIf.tt ?_ | refine VIf.ff ?_)
        have h3n : ¬ ps.length < 3 := by simp only [decide_eq_true_eq] at h3n; omega
        obtain ⟨_, he, hpi⟩ := rd i hlt
        cases he
        have hs : (i + 1) % ps.length < ps.length := Nat.mod_lt _ (by omega)
        obtain ⟨_, he, hps⟩ := rd _ hs
        cases he
        repeat (first | refine VIf.tt ?_ | refine VIf.ff ?_)
        refine VCode.loop cxOK Nat (fun k => ⟨[(0, .v (.slice (some ad') ps.length c)), (3, .v (.int .i64 ps.length)), (5, .v (.int .i64 i)), (6, .v (.int .i64 k))], [], 0, M, 78, ⟨fun _ => none, none, fun _ => none⟩⟩)
          (fun k => k ≤ ps.length ∧ ∀ j, j < k → r3B ps i j = true) (fun k => ps.length - k) 0 ⟨Nat.zero_le _, fun j hj => by omega⟩ (Wk.mk' id (by repeat' constructor) (by repeat' constructor) (injOK_id _) rfl rfl rfl) ?_
        rintro k ⟨hk, hzk⟩ m
        repeat (first | refine VIf.tt ?_ | refine VIf.ff ?_)
        refine VIf.mk (fun hlk => ?_) (fun hgk => ?_)
        · have hlk := lt_of_dec hlk
          obtain ⟨_, he, hpk⟩ := rd k hlk
          cases he
          repeat (first | refine VIf.tt ?_ | refine VIf.ff ?_)
          refine VDraw.go (by kernel_rfl) ?_
          repeat (first | refine VIf.tt ?_ | refine VIf.ff ?_)
          refine VIf.mk (fun hki => ?_) (fun hki => ?_)
          · repeat (first | refine VIf.tt ?_ | refine VIf.ff ?_)
            repeat (first | refine VIf.tt ?_ | refine VIf.ff ?_)
            refine VArith.ok (by first | omega | (simp only; omega)) (by first | omega | (simp only; omega)) ?_
            repeat (first | refine VIf.tt ?_ | refine VIf.ff ?_)
            refine VDiv.mk (by omega) ?_
            repeat (first | refine VIf.tt ?_ | refine VIf.ff ?_)
            have es : ((i : Int) + 1).tmod (ps.length : Int) = (((i + 1) % ps.length : Nat) : Int) := by
              rw [Int.tmod_eq_emod_of_nonneg (by omega)]; simp
            repeat (first | refine VIf.tt ?_ | refine VIf.ff ?_)
            refine VIf.mk (fun hks => ?_) (fun hks => ?_)
            · repeat (first | refine VIf.tt ?_ | refine VIf.ff ?_)
              repeat (first | refine VIf.tt ?_ | refine VIf.ff ?_)
              refine VIdx.mk ad' i rfl rfl hlt ?_
              repeat (first | refine VIf.tt ?_ | refine VIf.ff ?_)
              refine VReads.mk [.int .i64 (gp ps i).1, .int .i64 (gp ps i).2] rfl hpi ?_
              repeat (first | refine VIf.tt ?_ | refine VIf.ff ?_)
              repeat (first | refine VIf.tt ?_ | refine VIf.ff ?_)
              refine VArith.ok (by first | omega | (simp only; omega)) (by first | omega | (simp only; omega)) ?_
              repeat (first | refine VIf.tt ?_ | refine VIf.ff ?_)
              refine VDiv.mk (by omega) ?_
              repeat (first | refine VIf.tt ?_ | refine VIf.ff ?_)
              refine VIdx.mk ad' ((i + 1) % ps.length) rfl es hs ?_
              repeat (first | refine VIf.tt ?_ | refine VIf.ff ?_)
              refine VReads.mk [.int .i64 (gp ps ((i + 1) % ps.length)).1, .int .i64 (gp ps ((i + 1) % ps.length)).2] rfl hps ?_
              repeat (first | refine VIf.tt ?_ | refine VIf.ff ?_)
              refine VIdx.mk ad' k rfl rfl hlk ?_
              repeat (first | refine VIf.tt ?_ | refine VIf.ff ?_)
              refine VReads.mk [.int .i64 (gp ps k).1, .int .i64 (gp ps k).2] rfl hpk ?_
              repeat (first | refine VIf.tt ?_ | refine VIf.ff ?_)
              refine VFn.p (Cross_fn _ _ _ _ _ _ _ (hC i hlt).1 (hC i hlt).2 (hC _ hs).1 (hC _ hs).2 (hC k hlk).1 (hC k hlk).2) ?_
              repeat (first | refine VIf.tt ?_ | refine VIf.ff ?_)
              refine VIf.mk (fun hc => ?_) (fun hc => ?_)
              · repeat (first | refine VIf.tt ?_ | refine VIf.ff ?_)
                repeat (first | refine VIf.tt ?_ | refine VIf.ff ?_)
                refine VFact.mk ⟨?_, rfl⟩ trivial
                have hc := of_decide_eq_true hc
                have h3 : r3B ps i k = false := by
                  have e1 : k ≠ i := by simp at hki; omega
                  have e2 : k ≠ (i + 1) % ps.length := by rw [es] at hks; exact ne_of_bne hks
                  have hc : ¬ (0 < crossP (gp ps i) (gp ps ((i + 1) % ps.length)) (gp ps k)) := by unfold crossP; omega
                  simp [r3B, e1, e2, hc]
                have h3' : ((List.range ps.length).all fun i => (List.range ps.length).all (r3B ps i)) = false := all_false hlt (all_false hlk h3)
                simp [validR, h3', h3n]
              · repeat (first | refine VIf.tt ?_ | refine VIf.ff ?_)
                repeat (first | refine VIf.tt ?_ | refine VIf.ff ?_)
                refine VArith.ok (by first | omega | (simp only; omega)) (by first | omega | (simp only; omega)) ?_
                refine ⟨k + 1, ⟨hlk, stepI hzk ?_⟩, (by first | omega | (simp only; omega)), (Wk.mk' id (by repeat' constructor) (by repeat' constructor) (injOK_id _) rfl rfl rfl)⟩
                have hc := of_decide_eq_false hc
                have hc : 0 < crossP (gp ps i) (gp ps ((i + 1) % ps.length)) (gp ps k) := by unfold crossP; omega
                simp [r3B, hc]
            · repeat (first | refine VIf.tt ?_ | refine VIf.ff ?_)
              repeat (first | refine VIf.tt ?_ | refine VIf.ff ?_)
              refine VArith.ok (by first | omega | (simp only; omega)) (by first | omega | (simp only; omega)) ?_
              refine ⟨k + 1, ⟨hlk, stepI hzk ?_⟩, (by first | omega | (simp only; omega)), (Wk.mk' id (by repeat' constructor) (by repeat' constructor) (injOK_id _) rfl rfl rfl)⟩
              rw [es] at hks
              have : k = (i + 1) % ps.length := eq_of_bne hks
              simp [r3B, this]
          · repeat (first | refine VIf.tt ?_ | refine VIf.ff ?_)
            repeat (first | refine VIf.tt ?_ | refine VIf.ff ?_)
            refine VArith.ok (by first | omega | (simp only; omega)) (by first | omega | (simp only; omega)) ?_
            refine ⟨k + 1, ⟨hlk, stepI hzk ?_⟩, (by first | omega | (simp only; omega)), (Wk.mk' id (by repeat' constructor) (by repeat' constructor) (injOK_id _) rfl rfl rfl)⟩
            have : k = i := by simp at hki; omega
            simp [r3B, this]
        · have : k = ps.length := by have := ge_of_dec hgk; omega
          subst this
          repeat (first | refine VIf.tt ?_ | refine VIf.ff ?_)
          refine VArith.ok (by first | omega | (simp only; omega)) (by first | omega | (simp only; omega)) ?_
          exact ⟨i + 1, ⟨hlt, stepI hz (all_true hzk)⟩, (by first | omega | (simp only; omega)), (Wk.mk' id (by repeat' constructor) (by repeat' constructor) (injOK_id _) rfl rfl rfl)⟩
      · repeat (first | refine VIf.tt ?_ | refine VIf.ff ?_)
        repeat (first | refine VIf.tt ?_ | refine VIf.ff ?_)
        refine VFact.mk ⟨?_, rfl⟩ trivial
        have : ps.length < 3 := by simp only [decide_eq_false_iff_not] at h3n; omega
        simp [validR, hplB, hall, this, hn1, hn64]
    · repeat (first | refine VIf.tt ?_ | refine VIf.ff ?_)
      have : i = ps.length := by have := ge_of_dec hge; omega
      subst this
      repeat (first | refine VIf.tt ?_ | refine VIf.ff ?_)
      refine VFact.mk ⟨?_, rfl⟩ trivial
      have := all_true hz
      simp [validR, hplB, hall, this, hn1, hn64]
end Go.Proofs.Ytaobaeiohjgdcaa

/- Contracts: the reference's Inside; Has, Box and ends of package hull. -/
namespace Go.Proofs.Ytaobaeiohjgdcaa
open Go Go.V Go.RowKit
def allC (ps : List Pt) : Prop := ∀ k, k < ps.length → isC (gp ps k).1 ∧ isC (gp ps k).2
theorem allC_of {ps : List Pt} (h : validB ps = true) : allC ps := fun k hk => by
  simp only [validB, Bool.and_eq_true, all_iff, v1B, placeB] at h
  have := (h.1.2 k hk).1
  exact ⟨isCb_iff.1 this.1, isCb_iff.1 this.2⟩
theorem tmod_nat {i n : Nat} : ((i : Int) + 1).tmod (n : Int) = (((i + 1) % n : Nat) : Int) := by
  rw [Int.tmod_eq_emod_of_nonneg (by omega)]; simp
theorem Inside_fn (v : Value) (ps : List Pt) (x y : Int) (M : Mem) (hv : Pts M v ps) (hC : allC ps) (hx : isC x) (hy : isC y) : FnP Try.prog 40 [v, pt x y] M [.bool (hasB ps (x, y))] := by
  obtain ⟨ad, c, rfl⟩ := hv.shape
  obtain ⟨_, hm, hrd⟩ := hv.cellsOf
  unfold maxLen at hm
  refine Fn.of_vc cxOK Try.func40 rfl rfl rfl ?_
  have rd : ∀ k, k < ps.length → _ := hrd M (Mem.le_refl _)
  repeat (first | refine VIf.tt ?_ | refine VIf.ff ?_)
  refine VIf.mk (fun h1 => ?_) (fun h1 => ?_)
  · have h1 : ps.length = 1 := by simp at h1; omega
    obtain ⟨ad', rfl, hp0⟩ := rd 0 (by omega)
    repeat (first | refine VIf.tt ?_ | refine VIf.ff ?_)
    refine VDraw.go (by kernel_rfl) ?_
    repeat (first | refine VIf.tt ?_ | refine VIf.ff ?_)
    refine VIdx.mk ad' 0 rfl rfl (by omega) ?_
    repeat (first | refine VIf.tt ?_ | refine VIf.ff ?_)
    refine VReads.mk [.int .i64 (gp ps 0).1, .int .i64 (gp ps 0).2] rfl hp0 ?_
    repeat (first | refine VIf.tt ?_ | refine VIf.ff ?_)
    refine VFact.mk ⟨?_, rfl⟩ trivial
    simp only [hasB, h1, if_true]
    rfl
  have h1 : ps.length ≠ 1 := by simp at h1; omega
  repeat (first | refine VIf.tt ?_ | refine VIf.ff ?_)
  refine VIf.mk (fun h2 => ?_) (fun h2 => ?_)
  · have h2 : ps.length = 2 := by simp at h2; omega
    obtain ⟨ad', rfl, hp0⟩ := rd 0 (by omega)
    obtain ⟨_, he, hp1⟩ := rd 1 (by omega)
    cases he
    repeat (first | refine VIf.tt ?_ | refine VIf.ff ?_)
    refine VDraw.go (by kernel_rfl) ?_
    repeat (first | refine VIf.tt ?_ | refine VIf.ff ?_)
    refine VIdx.mk ad' 0 rfl rfl (by omega) ?_
    repeat (first | refine VIf.tt ?_ | refine VIf.ff ?_)
    refine VReads.mk [.int .i64 (gp ps 0).1, .int .i64 (gp ps 0).2] rfl hp0 ?_
    repeat (first | refine VIf.tt ?_ | refine VIf.ff ?_)
    refine VIdx.mk ad' 1 rfl rfl (by omega) ?_
    repeat (first | refine VIf.tt ?_ | refine VIf.ff ?_)
    refine VReads.mk [.int .i64 (gp ps 1).1, .int .i64 (gp ps 1).2] rfl hp1 ?_
    repeat (first | refine VIf.tt ?_ | refine VIf.ff ?_)
    refine VFn.p (Cross_fn _ _ _ _ _ _ _ (hC 0 (by omega)).1 (hC 0 (by omega)).2 (hC 1 (by omega)).1 (hC 1 (by omega)).2 hx hy) ?_
    repeat (first | refine VIf.tt ?_ | refine VIf.ff ?_)
    refine VIf.mk (fun hc => ?_) (fun hc => ?_)
    · repeat (first | refine VIf.tt ?_ | refine VIf.ff ?_)
      refine VIdx.mk ad' 0 rfl rfl (by omega) ?_
      repeat (first | refine VIf.tt ?_ | refine VIf.ff ?_)
      refine VReads.mk [.int .i64 (gp ps 0).1, .int .i64 (gp ps 0).2] rfl hp0 ?_
      repeat (first | refine VIf.tt ?_ | refine VIf.ff ?_)
      refine VIdx.mk ad' 1 rfl rfl (by omega) ?_
      repeat (first | refine VIf.tt ?_ | refine VIf.ff ?_)
      refine VReads.mk [.int .i64 (gp ps 1).1, .int .i64 (gp ps 1).2] rfl hp1 ?_
      repeat (first | refine VIf.tt ?_ | refine VIf.ff ?_)
      refine VFn.p (between_fn _ _ _ _ _ _ _) ?_
      repeat (first | refine VIf.tt ?_ | refine VIf.ff ?_)
      refine VFact.mk ⟨?_, rfl⟩ trivial
      have hc : crossP (gp ps 0) (gp ps 1) (x, y) = 0 := by simpa [crossP] using hc
      simp [hasB, h2, hc]
    · repeat (first | refine VIf.tt ?_ | refine VIf.ff ?_)
      refine VFact.mk ⟨?_, rfl⟩ trivial
      have hc : ¬ crossP (gp ps 0) (gp ps 1) (x, y) = 0 := by simpa [crossP] using hc
      simp [hasB, h2, hc]
  have h2 : ps.length ≠ 2 := by simp at h2; omega
  repeat (first | refine VIf.tt ?_ | refine VIf.ff ?_)
  refine VCode.loop cxOK Nat (fun i => ⟨[(0, .v (.slice ad ps.length c)), (3, .box 0 0), (5, .v (.int .i64 ps.length)), (6, .v (.int .i64 i))], [(0, some (.box 39 [.v (.int .i64 x), .v (.int .i64 y)]))], 1, M, 56, ⟨fun _ => none, none, fun _ => none⟩⟩)
    (fun i => i ≤ ps.length ∧ ∀ j, j < i → sideB ps (x, y) j = true) (fun i => ps.length - i) 0 ⟨Nat.zero_le _, fun j hj => by omega⟩ (Wk.mk' id (by repeat' constructor) (by repeat' constructor) (injOK_id _) rfl rfl rfl) ?_
  rintro i ⟨hi, hz⟩ m
  repeat (first | refine VIf.tt ?_ | refine VIf.ff ?_)
  refine VIf.mk (fun hlt => ?_) (fun hge => ?_)
  · have hlt := lt_of_dec hlt
    have hs : (i + 1) % ps.length < ps.length := Nat.mod_lt _ (by omega)
    obtain ⟨ad', rfl, hpi⟩ := rd i hlt
    obtain ⟨_, he, hps⟩ := rd _ hs
    cases he
    repeat (first | refine VIf.tt ?_ | refine VIf.ff ?_)
    refine VDraw.go (by kernel_rfl) ?_
    repeat (first | refine VIf.tt ?_ | refine VIf.ff ?_)
    refine VIdx.mk ad' i rfl rfl hlt ?_
    repeat (first | refine VIf.tt ?_ | refine VIf.ff ?_)
    refine VReads.mk [.int .i64 (gp ps i).1, .int .i64 (gp ps i).2] rfl hpi ?_
    repeat (first | refine VIf.tt ?_ | refine VIf.ff ?_)
    refine VArith.ok (by first | omega | (simp only; omega)) (by first | omega | (simp only; omega)) ?_
    repeat (first | refine VIf.tt ?_ | refine VIf.ff ?_)
    refine VDiv.mk (by omega) ?_
    repeat (first | refine VIf.tt ?_ | refine VIf.ff ?_)
    refine VIdx.mk ad' _ rfl tmod_nat hs ?_
    repeat (first | refine VIf.tt ?_ | refine VIf.ff ?_)
    refine VReads.mk [.int .i64 (gp ps ((i + 1) % ps.length)).1, .int .i64 (gp ps ((i + 1) % ps.length)).2] rfl hps ?_
    repeat (first | refine VIf.tt ?_ | refine VIf.ff ?_)
    refine VFn.p (Cross_fn _ _ _ _ _ _ _ (hC i hlt).1 (hC i hlt).2 (hC _ hs).1 (hC _ hs).2 hx hy) ?_
    repeat (first | refine VIf.tt ?_ | refine VIf.ff ?_)
    refine VIf.mk (fun hc => ?_) (fun hc => ?_)
    · repeat (first | refine VIf.tt ?_ | refine VIf.ff ?_)
      refine VFact.mk ⟨?_, rfl⟩ trivial
      have hc := of_decide_eq_true hc
      have : sideB ps (x, y) i = false := decide_eq_false (Int.not_le.2 hc)
      simp [hasB, h1, h2, all_false hlt this]
    · repeat (first | refine VIf.tt ?_ | refine VIf.ff ?_)
      refine VArith.ok (by first | omega | (simp only; omega)) (by first | omega | (simp only; omega)) ?_
      have hc := of_decide_eq_false hc
      exact ⟨i + 1, ⟨hlt, stepI hz (decide_eq_true (Int.not_lt.1 hc))⟩, (by first | omega | (simp only; omega)), (Wk.mk' id (by repeat' constructor) (by repeat' constructor) (injOK_id _) rfl rfl rfl)⟩
  · have : i = ps.length := by have := ge_of_dec hge; omega
    subst this
    repeat (first | refine VIf.tt ?_ | refine VIf.ff ?_)
    refine VFact.mk ⟨?_, rfl⟩ trivial
    simp only [hasB, h1, h2, if_false, all_true hz]
def loB (g : Pt → Int) (ps : List Pt) : Int := ps.foldl (fun a p => min a (g p)) (g (gp ps 0))
def hiB (g : Pt → Int) (ps : List Pt) : Int := ps.foldl (fun a p => max a (g p)) (g (gp ps 0))
theorem take_step {α β : Type} (f : β → α → β) (b : β) (l : List α) (d : α) {i : Nat} (h : i < l.length) : (l.take (i + 1)).foldl f b = f ((l.take i).foldl f b) (l.getD i d) := by
  rw [List.take_add_one, List.foldl_append]
  simp [h]
theorem ends_fn (v : Value) (ps : List Pt) (fid : Nat) (g : Pt → Int) (M : Mem) (hv : Pts M v ps) (hn : 1 ≤ ps.length) (hg : ∀ i, i < ps.length → ∀ M', FnP Try.prog fid [ptv (gp ps i)] M' [.int .i64 (g (gp ps i))]) : FnP Try.prog 68 [v, .func (.func fid) #[] #[]] M [.int .i64 (loB g ps), .int .i64 (hiB g ps)] := by
  obtain ⟨ad, c, rfl⟩ := hv.shape
  obtain ⟨_, hm, hrd⟩ := hv.cellsOf
  unfold maxLen at hm
  refine Fn.of_vc cxOK Try.func68 rfl rfl rfl ?_
  have rd : ∀ k, k < ps.length → _ := hrd M (Mem.le_refl _)
  obtain ⟨ad', rfl, hp0⟩ := rd 0 (by omega)
  repeat (first | refine VIf.tt ?_ | refine VIf.ff ?_)
  refine VDraw.go (by kernel_rfl) ?_
  repeat (first | refine VIf.tt ?_ | refine VIf.ff ?_)
  refine VIdx.mk ad' 0 rfl rfl (by omega) ?_
  repeat (first | refine VIf.tt ?_ | refine VIf.ff ?_)
  refine VReads.mk [.int .i64 (gp ps 0).1, .int .i64 (gp ps 0).2] rfl hp0 ?_
  repeat (first | refine VIf.tt ?_ | refine VIf.ff ?_)
  refine VIdx.mk ad' 0 rfl rfl (by omega) ?_
  repeat (first | refine VIf.tt ?_ | refine VIf.ff ?_)
  refine VReads.mk [.int .i64 (gp ps 0).1, .int .i64 (gp ps 0).2] rfl hp0 ?_
  repeat (first | refine VIf.tt ?_ | refine VIf.ff ?_)
  refine VFn.p (hg 0 (by omega) _) ?_
  repeat (first | refine VIf.tt ?_ | refine VIf.ff ?_)
  refine VFn.p (hg 0 (by omega) _) ?_
  repeat (first | refine VIf.tt ?_ | refine VIf.ff ?_)
  refine VCode.loop cxOK Nat (fun i => ⟨[(1, .v (.func (.func fid) #[] #[])), (6, .v (.int .i64 ((ps.take i).foldl (fun a p => min a (g p)) (g (gp ps 0))))), (7, .v (.int .i64 ((ps.take i).foldl (fun a p => max a (g p)) (g (gp ps 0))))), (20, .v (.slice (some ad') ps.length c)), (21, .v (.int .i64 ps.length)), (22, .v (.int .i64 i))], [], 0, M, 39, ⟨fun _ => none, none, fun _ => none⟩⟩)
    (fun i => i ≤ ps.length) (fun i => ps.length - i) 0 (Nat.zero_le _) (Wk.mk' id (by repeat' constructor) (by repeat' constructor) (injOK_id _) rfl rfl rfl) ?_
  rintro i hi m
  repeat (first | refine VIf.tt ?_ | refine VIf.ff ?_)
  refine VIf.mk (fun hlt => ?_) (fun hge => ?_)
  · have hlt := lt_of_dec hlt
    obtain ⟨_, he, hpi⟩ := rd i hlt
    cases he
    repeat (first | refine VIf.tt ?_ | refine VIf.ff ?_)
    refine VIdx.mk ad' i rfl rfl hlt ?_
    repeat (first | refine VIf.tt ?_ | refine VIf.ff ?_)
    refine VReads.mk [.int .i64 (gp ps i).1, .int .i64 (gp ps i).2] rfl hpi ?_
    repeat (first | refine VIf.tt ?_ | refine VIf.ff ?_)
    refine VDraw.go (by kernel_rfl) ?_
    repeat (first | refine VIf.tt ?_ | refine VIf.ff ?_)
    refine VFn.p (hg i hlt _) ?_
    repeat (first | refine VIf.tt ?_ | refine VIf.ff ?_)
    refine VFn.p (hg i hlt _) ?_
    repeat (first | refine VIf.tt ?_ | refine VIf.ff ?_)
    refine VArith.ok (by first | omega | (simp only; omega)) (by first | omega | (simp only; omega)) ?_
    refine ⟨i + 1, hlt, (by first | omega | (simp only; omega)), ?_⟩
    dsimp only
    rw [take_step _ _ ps (0, 0) hlt, take_step _ _ ps (0, 0) hlt]
    exact (Wk.mk' id (by repeat' constructor) (by repeat' constructor) (injOK_id _) rfl rfl rfl)
  · have : i = ps.length := by have := ge_of_dec hge; omega
    subst this
    repeat (first | refine VIf.tt ?_ | refine VIf.ff ?_)
    refine VFact.mk ⟨?_, rfl⟩ trivial
    rw [List.take_length]
    rfl
theorem Box1_fn (p : Pt) (M : Mem) : FnP Try.prog 69 [ptv p] M [.int .i64 p.1] := by
  refine Fn.of_vc cxOK Try.func69 rfl rfl rfl ?_
  repeat (first | refine VIf.tt ?_ | refine VIf.ff ?_)
  exact VFact.mk ⟨rfl, rfl⟩ trivial
theorem Box2_fn (p : Pt) (M : Mem) : FnP Try.prog 70 [ptv p] M [.int .i64 p.2] := by
  refine Fn.of_vc cxOK Try.func70 rfl rfl rfl ?_
  repeat (first | refine VIf.tt ?_ | refine VIf.ff ?_)
  exact VFact.mk ⟨rfl, rfl⟩ trivial
def boxLo (ps : List Pt) : Pt := (loB (·.1) ps, loB (·.2) ps)
def boxHi (ps : List Pt) : Pt := (hiB (·.1) ps, hiB (·.2) ps)
theorem Box_fn (v : Value) (ps : List Pt) (M : Mem) (hv : Pts M v ps) (hi64 : i64P ps) : V.Fn Try.prog 34 [v] M fun rs _ => rs = if validB ps = true then [ptv (boxLo ps), ptv (boxHi ps), .int .i64 0] else [pt 0 0, pt 0 0, .int .i64 1] := by
  refine Fn.of_vc cxOK Try.func34 rfl rfl rfl ?_
  repeat (first | refine VIf.tt ?_ | refine VIf.ff ?_)
  refine VFn.mk _ (Valid_fn v ps M hv hi64) ?_
  rintro rs M' hM rfl
  repeat (first | refine VIf.tt ?_ | refine VIf.ff ?_)
  refine VIf.mk (fun hV => ?_) (fun hV => ?_)
  · repeat (first | refine VIf.tt ?_ | refine VIf.ff ?_)
    refine VDraw.go (by kernel_rfl) ?_
    have := bn1 hV
    repeat (first | refine VIf.tt ?_ | refine VIf.ff ?_)
    refine VFact.mk rfl ?_
    repeat (first | refine VIf.tt ?_ | refine VIf.ff ?_)
    refine VFact.mk ?_ trivial
    rw [this]; rfl
  · have hV := bn2 hV
    have hn : 1 ≤ ps.length := by simp only [validB, Bool.and_eq_true, decide_eq_true_eq] at hV; omega
    repeat (first | refine VIf.tt ?_ | refine VIf.ff ?_)
    refine VFn.p (ends_fn v ps _ (·.1) _ (hv.le hM) hn (fun i _ M' => Box1_fn _ M')) ?_
    repeat (first | refine VIf.tt ?_ | refine VIf.ff ?_)
    refine VFn.p (ends_fn v ps _ (·.2) _ (hv.le hM) hn (fun i _ M' => Box2_fn _ M')) ?_
    repeat (first | refine VIf.tt ?_ | refine VIf.ff ?_)
    refine VDraw.go (by kernel_rfl) ?_
    repeat (first | refine VIf.tt ?_ | refine VIf.ff ?_)
    refine VFact.mk rfl ?_
    repeat (first | refine VIf.tt ?_ | refine VIf.ff ?_)
    refine VFact.mk ?_ trivial
    rw [hV]; rfl
end Go.Proofs.Ytaobaeiohjgdcaa

/- Contracts: hull.Has. -/
namespace Go.Proofs.Ytaobaeiohjgdcaa
open Go Go.V Go.RowKit
theorem has_small (ps : List Pt) (hn : ps.length = 1 ∨ ps.length = 2) (x : Pt) :
    hasB ps x = (decide (crossP (gp ps 0) (gp ps (ps.length - 1)) x = 0) && decide ((boxLo ps).1 ≤ x.1) && decide (x.1 ≤ (boxHi ps).1) && decide ((boxLo ps).2 ≤ x.2) && decide (x.2 ≤ (boxHi ps).2)) := by
  match ps, hn with
  | [p], _ =>
    rw [Bool.eq_iff_iff]
    simp only [hasB, List.length_cons, List.length_nil, boxLo, boxHi, loB, hiB, gp, List.getD_cons_zero, List.foldl_cons, List.foldl_nil, Bool.and_eq_true, decide_eq_true_eq, if_true, beq_iff_eq]
    constructor
    · rintro rfl; simp [crossP_self]
    · rintro ⟨⟨⟨h1, h2⟩, h3⟩, h4⟩
      exact Prod.ext (by omega) (by omega)
  | [p, q], _ =>
    rw [Bool.eq_iff_iff]
    simp only [hasB, betwB, List.length_cons, List.length_nil, boxLo, boxHi, loB, hiB, gp, List.getD_cons_zero, List.getD_cons_succ, List.foldl_cons, List.foldl_nil, Bool.and_eq_true, decide_eq_true_eq, Nat.reduceAdd, Nat.reduceSub, Nat.reduceEqDiff, if_true, if_false]
    omega
  | [], h => simp at h
  | _ :: _ :: _ :: _, h => simp at h
set_option maxRecDepth 20000 in
theorem Has_fn (v : Value) (ps : List Pt) (x y : Int) (M : Mem) (hv : Pts M v ps) (hi64 : i64P ps) (hx : i64r x) (hy : i64r y) : V.Fn Try.prog 26 [v, pt x y] M fun rs _ => rs = if (validB ps && placeB (x, y)) = true then [.bool (hasB ps (x, y)), .int .i64 0] else [.bool false, .int .i64 1] := by
  obtain ⟨ad, c, rfl⟩ := hv.shape
  obtain ⟨_, hm, hrd⟩ := hv.cellsOf
  unfold maxLen at hm
  refine Fn.of_vc cxOK Try.func26 rfl rfl rfl ?_
  repeat (first | refine VIf.tt ?_ | refine VIf.ff ?_)
  refine VFn.mk _ (Valid_fn _ ps M hv hi64) ?_
  rintro rs M1 hM1 rfl
  repeat (first | refine VIf.tt ?_ | refine VIf.ff ?_)
  refine VIf.mk (fun hV => ?_) (fun hV => ?_)
  · repeat (first | refine VIf.tt ?_ | refine VIf.ff ?_)
    refine VFact.mk ?_ trivial
    rw [bn1 hV]; rfl
  have hV := bn2 hV
  have hC := allC_of hV
  have hn1 : 1 ≤ ps.length := by simp only [validB, Bool.and_eq_true, decide_eq_true_eq] at hV; omega
  repeat (first | refine VIf.tt ?_ | refine VIf.ff ?_)
  refine VFn.p (isPlace_fn _ _ _ hx hy) ?_
  repeat (first | refine VIf.tt ?_ | refine VIf.ff ?_)
  refine VIf.mk (fun hP => ?_) (fun hP => ?_)
  · repeat (first | refine VIf.tt ?_ | refine VIf.ff ?_)
    refine VFact.mk ?_ trivial
    rw [show placeB (x, y) = false from bn1 hP, Bool.and_false]; rfl
  have hP : placeB (x, y) = true := bn2 hP
  have hxy : isC x ∧ isC y := by
    simp only [placeB, Bool.and_eq_true] at hP
    exact ⟨isCb_iff.1 hP.1, isCb_iff.1 hP.2⟩
  rw [hV, hP]
  repeat (first | refine VIf.tt ?_ | refine VIf.ff ?_)
  refine VIf.mk (fun h3 => ?_) (fun h3 => ?_)
  · have h3 : ps.length = 1 ∨ ps.length = 2 := by simp only [decide_eq_true_eq] at h3; omega
    repeat (first | refine VIf.tt ?_ | refine VIf.ff ?_)
    refine VFn.mk _ (Box_fn _ ps M1 (hv.le hM1) hi64) ?_
    rintro rs M2 hM2 rfl
    rw [hV]
    have hs := has_small ps h3 (x, y)
    obtain ⟨lx, ly, hlo⟩ : ∃ lx ly, boxLo ps = (lx, ly) := ⟨_, _, rfl⟩
    obtain ⟨hx', hy', hhi⟩ : ∃ hx hy, boxHi ps = (hx, hy) := ⟨_, _, rfl⟩
    rw [hlo, hhi] at hs
    rw [hlo, hhi, hs]
    obtain ⟨ad', rfl, hp0⟩ := hrd M2 (hM1.trans hM2) 0 (by omega)
    obtain ⟨_, he, hp1⟩ := hrd M2 (hM1.trans hM2) (ps.length - 1) (by omega)
    cases he
    repeat (first | refine VIf.tt ?_ | refine VIf.ff ?_)
    refine VDraw.go (by kernel_rfl) ?_
    repeat (first | refine VIf.tt ?_ | refine VIf.ff ?_)
    refine VIdx.mk ad' 0 rfl rfl (by omega) ?_
    repeat (first | refine VIf.tt ?_ | refine VIf.ff ?_)
    refine VReads.mk [.int .i64 (gp ps 0).1, .int .i64 (gp ps 0).2] rfl hp0 ?_
    repeat (first | refine VIf.tt ?_ | refine VIf.ff ?_)
    refine VArith.ok (by first | omega | (simp only; omega)) (by first | omega | (simp only; omega)) ?_
    repeat (first | refine VIf.tt ?_ | refine VIf.ff ?_)
    refine VIdx.mk ad' (ps.length - 1) rfl (by omega) (by omega) ?_
    repeat (first | refine VIf.tt ?_ | refine VIf.ff ?_)
    refine VReads.mk [.int .i64 (gp ps (ps.length - 1)).1, .int .i64 (gp ps (ps.length - 1)).2] rfl hp1 ?_
    have htf := turn_fn _ _ _ _ _ _ M2 (hC 0 (by omega)).1 (hC 0 (by omega)).2 (hC (ps.length - 1) (by omega)).1 (hC (ps.length - 1) (by omega)).2 hxy.1 hxy.2
    have hcr : crossP (gp ps 0) (gp ps (ps.length - 1)) (x, y) = cross (gp ps 0).1 (gp ps 0).2 (gp ps (ps.length - 1)).1 (gp ps (ps.length - 1)).2 x y := rfl
    generalize cross (gp ps 0).1 (gp ps 0).2 (gp ps (ps.length - 1)).1 (gp ps (ps.length - 1)).2 x y = cr at htf hcr
    repeat (first | refine VIf.tt ?_ | refine VIf.ff ?_)
    refine VFn.p htf ?_
    repeat' (first | refine VIf.tt ?_ | refine VIf.ff ?_ | refine VIf.mk (fun _ => ?_) (fun _ => ?_))
    all_goals (refine VFact.mk ?_ trivial)
    all_goals (show _ = _; rw [hcr]; refine congrArg (fun b => [Value.bool b, Value.int .i64 0]) ?_)
    all_goals simp_all
    all_goals omega
  · have h3 : ¬ ps.length < 3 := by simp only [decide_eq_false_iff_not] at h3; omega
    repeat (first | refine VIf.tt ?_ | refine VIf.ff ?_)
    refine VFn.mk _ (sides_fn _ _ _ _) ?_
    rintro rs M2 hM2 ⟨B, rfl, hB⟩
    have hM2' : M.le M2 := hM1.trans hM2
    repeat (first | refine VIf.tt ?_ | refine VIf.ff ?_)
    refine VCode.rangeB cxOK rfl (sides_iter M2 B _ ps hB (hv.le hM2')) (fun x hx => ?_) [(3, .box 0 0), (4, .box 1 0), (5, .box 2 0)] rfl (by kernel_rfl) (by kernel_rfl) Unit
      (fun k s => ⟨[(3, .box 0 0), (4, .box 1 0), (5, .box 2 0)], [(2, some (.box 29 [.v (.int .i64 0)])), (1, some (.box 4 [.v (.bool false)])), (0, some (.box 39 [.v (.int .i64 x), .v (.int .i64 y)]))], 3, M2, 77, ⟨fun _ => none, none, fun _ => none⟩⟩)
      (fun k s => ∀ j, j < k → sideB ps (x, y) j = true) () (fun j hj => by omega) ?_ (fun k s => ⟨rfl, rfl⟩) ?_ ?_
    · simp only [sidesL, List.mem_map] at hx
      obtain ⟨k, _, rfl⟩ := hx
      rfl
    · exact (Wk.mk' id (by repeat' constructor) (by repeat' constructor) (injOK_id _) rfl rfl rfl)
    · rintro k s args hz hxs m f
      obtain ⟨hk, rfl⟩ := sidesL_get hxs
      have hk' : (k + 1) % ps.length < ps.length := Nat.mod_lt _ (by omega)
      intro m'
      repeat (first | refine VIf.tt ?_ | refine VIf.ff ?_)
      refine VFn.p (turn_fn _ _ _ _ _ _ _ (hC k hk).1 (hC k hk).2 (hC _ hk').1 (hC _ hk').2 hxy.1 hxy.2) ?_
      repeat (first | refine VIf.tt ?_ | refine VIf.ff ?_)
      refine VIf.mk (fun ht => ?_) (fun ht => ?_)
      · refine ⟨(⟨[(3, .box 0 0), (4, .box 1 0), (5, .box 2 0)], [(2, some (.box 29 [.v (.int .i64 0)])), (1, some (.box 4 [.v (.bool false)])), (0, some (.box 39 [.v (.int .i64 x), .v (.int .i64 y)]))], 3, M2, 77, ⟨fun _ => none, none, fun _ => none⟩⟩ : St), (Wk.mk' id (by repeat' constructor) (by repeat' constructor) (injOK_id _) rfl rfl rfl), rfl, rfl, fun m => ?_⟩
        repeat (first | refine VIf.tt ?_ | refine VIf.ff ?_)
        refine VFact.mk ?_ trivial
        have ht := of_decide_eq_true ht
        have : sideB ps (x, y) k = false := decide_eq_false (Int.not_le.2 ht)
        simp [hasB, show ps.length ≠ 1 by omega, show ps.length ≠ 2 by omega, all_false hk this]
      · have ht := of_decide_eq_false ht
        exact ⟨(), stepI hz (decide_eq_true (Int.not_lt.1 ht)), (Wk.mk' id (by repeat' constructor) (by repeat' constructor) (injOK_id _) rfl rfl rfl)⟩
    · rintro s m hz
      repeat (first | refine VIf.tt ?_ | refine VIf.ff ?_)
      refine VFact.mk ?_ trivial
      have : (List.range ps.length).all (sideB ps (x, y)) = true := all_true fun j hj => hz j (by simpa [sidesL] using hj)
      simp [hasB, show ps.length ≠ 1 by omega, show ps.length ≠ 2 by omega, this]
end Go.Proofs.Ytaobaeiohjgdcaa

/- Contracts: rising lists, comparisons of lists. -/
namespace Go.Proofs.Ytaobaeiohjgdcaa
open Go Go.V Go.RowKit
theorem gi_idx {l : List Int} {i : Nat} (h : i < l.length) : l[i]? = some (gi l i) := getD_get 0 h
theorem rising_fn (v : Value) (l : List Int) (lo hi : Int) (M : Mem) (hv : IntsV M v l) : FnP Try.prog 81 [v, .int .i64 lo, .int .i64 hi] M [.bool (risingB lo hi l)] := by
  obtain ⟨ad, c, rfl, hm, hrd⟩ := hv.get
  refine Fn.of_vc cxOK Try.func81 rfl rfl rfl ?_
  repeat (first | refine VIf.tt ?_ | refine VIf.ff ?_)
  refine VCode.loop cxOK Nat (fun i => ⟨[(0, .v (.slice ad l.length c)), (1, .v (.int .i64 lo)), (2, .v (.int .i64 hi)), (9, .v (.slice ad l.length c)), (10, .v (.int .i64 l.length)), (11, .v (.int .i64 i))], [], 0, M, 38, ⟨fun _ => none, none, fun _ => none⟩⟩)
    (fun i => i ≤ l.length ∧ ∀ j, j < i → rise1 lo hi l j = true) (fun i => l.length - i) 0 ⟨Nat.zero_le _, fun j hj => by omega⟩ (Wk.mk' id (by repeat' constructor) (by repeat' constructor) (injOK_id _) rfl rfl rfl) ?_
  rintro i ⟨hi', hz⟩ m
  repeat (first | refine VIf.tt ?_ | refine VIf.ff ?_)
  refine VIf.mk (fun hlt => ?_) (fun hge => ?_)
  · have hlt := lt_of_dec hlt
    obtain ⟨ad', rfl, _, hc1⟩ := hrd M (Mem.le_refl _) i hlt
    have bad : rise1 lo hi l i = false → risingB lo hi l = false := fun h => all_false hlt h
    repeat (first | refine VIf.tt ?_ | refine VIf.ff ?_)
    refine VIdx.mk ad' i rfl rfl hlt ?_
    repeat (first | refine VIf.tt ?_ | refine VIf.ff ?_)
    refine VRead.mk _ hc1 ?_
    repeat (first | refine VIf.tt ?_ | refine VIf.ff ?_)
    refine VIf.mk (fun h1 => ?_) (fun h1 => ?_)
    · repeat (first | refine VIf.tt ?_ | refine VIf.ff ?_)
      refine VFact.mk ⟨?_, rfl⟩ trivial
      have h1 := of_decide_eq_true h1
      rw [bad (by simp only [rise1, Bool.and_eq_false_iff, decide_eq_false_iff_not]; omega)]
    repeat (first | refine VIf.tt ?_ | refine VIf.ff ?_)
    refine VIf.mk (fun h2 => ?_) (fun h2 => ?_)
    · repeat (first | refine VIf.tt ?_ | refine VIf.ff ?_)
      refine VFact.mk ⟨?_, rfl⟩ trivial
      have h2 := of_decide_eq_true h2
      rw [bad (by simp only [rise1, Bool.and_eq_false_iff, decide_eq_false_iff_not]; omega)]
    have h1 := of_decide_eq_false h1
    have h2 := of_decide_eq_false h2
    repeat (first | refine VIf.tt ?_ | refine VIf.ff ?_)
    refine VIf.mk (fun h3 => ?_) (fun h3 => ?_)
    · have h3 := of_decide_eq_true h3
      obtain ⟨_, he, _, hc2⟩ := hrd M (Mem.le_refl _) (i - 1) (by omega)
      cases he
      repeat (first | refine VIf.tt ?_ | refine VIf.ff ?_)
      refine VArith.ok (by first | omega | (simp only; omega)) (by first | omega | (simp only; omega)) ?_
      repeat (first | refine VIf.tt ?_ | refine VIf.ff ?_)
      refine VIdx.mk ad' (i - 1) rfl (by omega) (by omega) ?_
      repeat (first | refine VIf.tt ?_ | refine VIf.ff ?_)
      refine VRead.mk _ hc2 ?_
      repeat (first | refine VIf.tt ?_ | refine VIf.ff ?_)
      refine VIf.mk (fun h4 => ?_) (fun h4 => ?_)
      · repeat (first | refine VIf.tt ?_ | refine VIf.ff ?_)
        refine VFact.mk ⟨?_, rfl⟩ trivial
        have h4 := of_decide_eq_true h4
        rw [bad (by simp only [rise1, Bool.and_eq_false_iff, Bool.or_eq_false_iff, decide_eq_false_iff_not, beq_eq_false_iff_ne]; omega)]
      · have h4 := of_decide_eq_false h4
        repeat (first | refine VIf.tt ?_ | refine VIf.ff ?_)
        refine VArith.ok (by first | omega | (simp only; omega)) (by first | omega | (simp only; omega)) ?_
        exact ⟨i + 1, ⟨hlt, stepI hz (by simp only [rise1, Bool.and_eq_true, Bool.or_eq_true, decide_eq_true_eq, beq_iff_eq]; omega)⟩, (by first | omega | (simp only; omega)), (Wk.mk' id (by repeat' constructor) (by repeat' constructor) (injOK_id _) rfl rfl rfl)⟩
    · have h3 := of_decide_eq_false h3
      repeat (first | refine VIf.tt ?_ | refine VIf.ff ?_)
      refine VArith.ok (by first | omega | (simp only; omega)) (by first | omega | (simp only; omega)) ?_
      exact ⟨i + 1, ⟨hlt, stepI hz (by simp only [rise1, Bool.and_eq_true, Bool.or_eq_true, decide_eq_true_eq, beq_iff_eq]; omega)⟩, (by first | omega | (simp only; omega)), (Wk.mk' id (by repeat' constructor) (by repeat' constructor) (injOK_id _) rfl rfl rfl)⟩
  · have : i = l.length := by have := ge_of_dec hge; omega
    subst this
    repeat (first | refine VIf.tt ?_ | refine VIf.ff ?_)
    refine VFact.mk ⟨?_, rfl⟩ trivial
    rw [risingB, all_true hz]
theorem risingR_fn (v : Value) (l : List Int) (lo hi : Int) (M : Mem) (hv : IntsV M v l) : FnP Try.prog 52 [v, .int .i64 lo, .int .i64 hi] M [.bool (risingB lo hi l)] := by
  obtain ⟨ad, c, rfl, hm, hrd⟩ := hv.get
  refine Fn.of_vc cxOK Try.func52 rfl rfl rfl ?_
  repeat (first | refine VIf.tt ?_ | refine VIf.ff ?_)
  refine VCode.loop cxOK Nat (fun i => ⟨[(0, .v (.slice ad l.length c)), (1, .v (.int .i64 lo)), (2, .v (.int .i64 hi)), (7, .v (.int .i64 i))], [], 0, M, 44, ⟨fun _ => none, none, fun _ => none⟩⟩)
    (fun i => i ≤ l.length ∧ ∀ j, j < i → rise1 lo hi l j = true) (fun i => l.length - i) 0 ⟨Nat.zero_le _, fun j hj => by omega⟩ (Wk.mk' id (by repeat' constructor) (by repeat' constructor) (injOK_id _) rfl rfl rfl) ?_
  rintro i ⟨hi', hz⟩ m
  repeat (first | refine VIf.tt ?_ | refine VIf.ff ?_)
  refine VIf.mk (fun hlt => ?_) (fun hge => ?_)
  · have hlt := lt_of_dec hlt
    obtain ⟨ad', rfl, _, hc1⟩ := hrd M (Mem.le_refl _) i hlt
    have bad : rise1 lo hi l i = false → risingB lo hi l = false := fun h => all_false hlt h
    repeat (first | refine VIf.tt ?_ | refine VIf.ff ?_)
    refine VDraw.go (by kernel_rfl) ?_
    repeat (first | refine VIf.tt ?_ | refine VIf.ff ?_)
    refine VIdx.mk ad' i rfl rfl hlt ?_
    repeat (first | refine VIf.tt ?_ | refine VIf.ff ?_)
    refine VRead.mk _ hc1 ?_
    repeat (first | refine VIf.tt ?_ | refine VIf.ff ?_)
    refine VIf.mk (fun h1 => ?_) (fun h1 => ?_)
    · repeat (first | refine VIf.tt ?_ | refine VIf.ff ?_)
      refine VFact.mk ⟨?_, rfl⟩ trivial
      have h1 := of_decide_eq_true h1
      rw [bad (by simp only [rise1, Bool.and_eq_false_iff, decide_eq_false_iff_not]; omega)]
    repeat (first | refine VIf.tt ?_ | refine VIf.ff ?_)
    refine VIdx.mk ad' i rfl rfl hlt ?_
    repeat (first | refine VIf.tt ?_ | refine VIf.ff ?_)
    refine VRead.mk _ hc1 ?_
    repeat (first | refine VIf.tt ?_ | refine VIf.ff ?_)
    refine VIf.mk (fun h2 => ?_) (fun h2 => ?_)
    · repeat (first | refine VIf.tt ?_ | refine VIf.ff ?_)
      refine VFact.mk ⟨?_, rfl⟩ trivial
      have h2 := of_decide_eq_true h2
      rw [bad (by simp only [rise1, Bool.and_eq_false_iff, decide_eq_false_iff_not]; omega)]
    have h1 := of_decide_eq_false h1
    have h2 := of_decide_eq_false h2
    repeat (first | refine VIf.tt ?_ | refine VIf.ff ?_)
    refine VIf.mk (fun h3 => ?_) (fun h3 => ?_)
    · have h3 := of_decide_eq_true h3
      obtain ⟨_, he, _, hc2⟩ := hrd M (Mem.le_refl _) (i - 1) (by omega)
      cases he
      repeat (first | refine VIf.tt ?_ | refine VIf.ff ?_)
      refine VIdx.mk ad' i rfl rfl hlt ?_
      repeat (first | refine VIf.tt ?_ | refine VIf.ff ?_)
      refine VRead.mk _ hc1 ?_
      repeat (first | refine VIf.tt ?_ | refine VIf.ff ?_)
      refine VArith.ok (by first | omega | (simp only; omega)) (by first | omega | (simp only; omega)) ?_
      repeat (first | refine VIf.tt ?_ | refine VIf.ff ?_)
      refine VIdx.mk ad' (i - 1) rfl (by omega) (by omega) ?_
      repeat (first | refine VIf.tt ?_ | refine VIf.ff ?_)
      refine VRead.mk _ hc2 ?_
      repeat (first | refine VIf.tt ?_ | refine VIf.ff ?_)
      refine VIf.mk (fun h4 => ?_) (fun h4 => ?_)
      · repeat (first | refine VIf.tt ?_ | refine VIf.ff ?_)
        refine VFact.mk ⟨?_, rfl⟩ trivial
        have h4 := of_decide_eq_true h4
        rw [bad (by simp only [rise1, Bool.and_eq_false_iff, Bool.or_eq_false_iff, decide_eq_false_iff_not, beq_eq_false_iff_ne]; omega)]
      · have h4 := of_decide_eq_false h4
        repeat (first | refine VIf.tt ?_ | refine VIf.ff ?_)
        refine VArith.ok (by first | omega | (simp only; omega)) (by first | omega | (simp only; omega)) ?_
        exact ⟨i + 1, ⟨hlt, stepI hz (by simp only [rise1, Bool.and_eq_true, Bool.or_eq_true, decide_eq_true_eq, beq_iff_eq]; omega)⟩, (by first | omega | (simp only; omega)), (Wk.mk' id (by repeat' constructor) (by repeat' constructor) (injOK_id _) rfl rfl rfl)⟩
    · have h3 := of_decide_eq_false h3
      repeat (first | refine VIf.tt ?_ | refine VIf.ff ?_)
      refine VArith.ok (by first | omega | (simp only; omega)) (by first | omega | (simp only; omega)) ?_
      exact ⟨i + 1, ⟨hlt, stepI hz (by simp only [rise1, Bool.and_eq_true, Bool.or_eq_true, decide_eq_true_eq, beq_iff_eq]; omega)⟩, (by first | omega | (simp only; omega)), (Wk.mk' id (by repeat' constructor) (by repeat' constructor) (injOK_id _) rfl rfl rfl)⟩
  · have : i = l.length := by have := ge_of_dec hge; omega
    subst this
    repeat (first | refine VIf.tt ?_ | refine VIf.ff ?_)
    refine VFact.mk ⟨?_, rfl⟩ trivial
    rw [risingB, all_true hz]

theorem lexB_drop : ∀ (a b : List Int) (i : Nat), i ≤ a.length → i ≤ b.length → (∀ j, j < i → gi a j = gi b j) → lexB (a.drop i) (b.drop i) = lexB a b
  | _, _, 0, _, _, _ => by simp
  | [], _, i + 1, h, _, _ => by simp at h
  | _ :: _, [], i + 1, _, h, _ => by simp at h
  | x :: a, y :: b, i + 1, h1, h2, h => by
    have h0 := h 0 (by omega)
    simp only [gi, List.getD_cons_zero] at h0
    subst h0
    rw [List.drop_succ_cons, List.drop_succ_cons, lexB_drop a b i (by simpa using h1) (by simpa using h2) (fun j hj => by have := h (j + 1) (by omega); simpa [gi] using this)]
    simp [lexB, (cmpI_sgn x x).2]
theorem drop_gi {l : List Int} {i : Nat} (h : i < l.length) : l.drop i = gi l i :: l.drop (i + 1) := by
  rw [List.drop_eq_getElem_cons h]; simp [gi, h]
theorem SCompare_fn (v w : Value) (a b : List Int) (M : Mem) (hv : IntsV M v a) (hw : IntsV M w b) : FnP Try.prog 116 [v, w] M [.int .i64 (lexB a b)] := by
  obtain ⟨ad, c, rfl, hm, hrd⟩ := hv.get
  obtain ⟨bd, d, rfl, hm', hrd'⟩ := hw.get
  refine Fn.of_vc cxOK Try.func116 rfl rfl rfl ?_
  repeat (first | refine VIf.tt ?_ | refine VIf.ff ?_)
  refine VCode.loop cxOK Nat (fun i => ⟨[(0, .v (.slice ad a.length c)), (1, .v (.slice bd b.length d)), (9, .v (.slice ad a.length c)), (10, .v (.int .i64 a.length)), (11, .v (.int .i64 i))], [], 0, M, 36, ⟨fun _ => none, none, fun _ => none⟩⟩)
    (fun i => i ≤ a.length ∧ i ≤ b.length ∧ ∀ j, j < i → gi a j = gi b j) (fun i => a.length - i) 0 ⟨Nat.zero_le _, Nat.zero_le _, fun j hj => by omega⟩ (Wk.mk' id (by repeat' constructor) (by repeat' constructor) (injOK_id _) rfl rfl rfl) ?_
  rintro i ⟨hi, hi', hz⟩ m
  have hl := lexB_drop a b i hi hi' hz
  repeat (first | refine VIf.tt ?_ | refine VIf.ff ?_)
  refine VIf.mk (fun hlt => ?_) (fun hge => ?_)
  · have hlt := lt_of_dec hlt
    obtain ⟨ad', rfl, _, hc1⟩ := hrd M (Mem.le_refl _) i hlt
    rw [drop_gi hlt] at hl
    repeat (first | refine VIf.tt ?_ | refine VIf.ff ?_)
    refine VIdx.mk ad' i rfl rfl hlt ?_
    repeat (first | refine VIf.tt ?_ | refine VIf.ff ?_)
    refine VRead.mk _ hc1 ?_
    repeat (first | refine VIf.tt ?_ | refine VIf.ff ?_)
    refine VIf.mk (fun h1 => ?_) (fun h1 => ?_)
    · repeat (first | refine VIf.tt ?_ | refine VIf.ff ?_)
      refine VFact.mk ⟨?_, rfl⟩ trivial
      have h1 := of_decide_eq_true h1
      have : b.drop i = [] := List.drop_eq_nil_of_le (by omega)
      rw [this] at hl
      rw [← hl]; rfl
    · have h1 := of_decide_eq_false h1
      have hlb : i < b.length := by omega
      obtain ⟨bd', rfl, _, hc2⟩ := hrd' M (Mem.le_refl _) i hlb
      rw [drop_gi hlb] at hl
      repeat (first | refine VIf.tt ?_ | refine VIf.ff ?_)
      refine VIdx.mk bd' i rfl rfl hlb ?_
      repeat (first | refine VIf.tt ?_ | refine VIf.ff ?_)
      refine VRead.mk _ hc2 ?_
      repeat (first | refine VIf.tt ?_ | refine VIf.ff ?_)
      refine VFn.p (Compare_fn _ _ _) ?_
      repeat (first | refine VIf.tt ?_ | refine VIf.ff ?_)
      refine VIf.mk (fun h2 => ?_) (fun h2 => ?_)
      · repeat (first | refine VIf.tt ?_ | refine VIf.ff ?_)
        refine VFact.mk ⟨?_, rfl⟩ trivial
        have h2 := bne_iff_ne.1 h2
        rw [← hl, lexB, if_pos h2]
      · have h2 := bne_eq_false_iff_eq.1 h2
        repeat (first | refine VIf.tt ?_ | refine VIf.ff ?_)
        refine VArith.ok (by first | omega | (simp only; omega)) (by first | omega | (simp only; omega)) ?_
        refine ⟨i + 1, ⟨hlt, hlb, fun j hj => ?_⟩, (by first | omega | (simp only; omega)), (Wk.mk' id (by repeat' constructor) (by repeat' constructor) (injOK_id _) rfl rfl rfl)⟩
        by_cases e : j = i
        · subst e; exact (cmpI_sgn _ _).2.1 h2
        · exact hz j (by omega)
  · have : i = a.length := by have := ge_of_dec hge; omega
    subst this
    rw [List.drop_length] at hl
    repeat (first | refine VIf.tt ?_ | refine VIf.ff ?_)
    refine VIf.mk (fun h1 => ?_) (fun h1 => ?_)
    · repeat (first | refine VIf.tt ?_ | refine VIf.ff ?_)
      refine VFact.mk ⟨?_, rfl⟩ trivial
      have h1 := lt_of_dec h1
      rw [drop_gi h1] at hl
      rw [← hl]; rfl
    · repeat (first | refine VIf.tt ?_ | refine VIf.ff ?_)
      refine VFact.mk ⟨?_, rfl⟩ trivial
      have h1 := ge_of_dec h1
      have : b.drop a.length = [] := List.drop_eq_nil_of_le (by omega)
      rw [this] at hl
      rw [← hl]; rfl
theorem lists_fn (v w : Value) (a b : List Int) (M : Mem) (hv : IntsV M v a) (hw : IntsV M w b) : V.Fn Try.prog 106 [v, w] M fun rs _ => rs = [.int .i64 (listsC a b)] := by
  obtain ⟨ad, c, rfl, hm, hrd⟩ := hv.get
  obtain ⟨bd, d, rfl, hm', hrd'⟩ := hw.get
  refine Fn.of_vc cxOK Try.func106 rfl rfl rfl ?_
  repeat (first | refine VIf.tt ?_ | refine VIf.ff ?_)
  refine VFn.p (Compare_fn _ _ _) ?_
  repeat (first | refine VIf.tt ?_ | refine VIf.ff ?_)
  refine VFn.p (SCompare_fn _ _ a b _ hv hw) ?_
  repeat (first | refine VIf.tt ?_ | refine VIf.ff ?_)
  refine VFz.mk fun x B M' hle hx => ?_
  repeat (first | refine VIf.tt ?_ | refine VIf.ff ?_)
  refine VFn.p (Or_fn x [cmpI a.length b.length, lexB a b] _ hx) ?_
  repeat (first | refine VIf.tt ?_ | refine VIf.ff ?_)
  refine VFact.mk ?_ trivial
  simp only [orL, listsC]
  by_cases h : cmpI (a.length : Int) b.length = 0 <;> by_cases h' : lexB a b = 0 <;> simp [h, h']
end Go.Proofs.Ytaobaeiohjgdcaa
