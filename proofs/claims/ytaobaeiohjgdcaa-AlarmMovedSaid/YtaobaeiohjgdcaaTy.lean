/- The types of the translation, for the framework. Printed by gen_types.py. -/
import Derived.Test.YtaobaeiohjgdcaaVo
import Derived.Test.YtaobaeiohjgdcaaProg
namespace Go.Proofs.Ytaobaeiohjgdcaa
open Go Go.V

theorem ty1 : TyOK Try.prog 1 ⟨.sc, [.nilFunc], 8⟩ := .mk' (z := .nilFunc) (by kernel_rfl) rfl Try.underlying1 trivial
theorem ty2 : TyOK Try.prog 2 ⟨.int .i64, [.int .i64 0], 8⟩ := .mk' (z := .int .i64 0) (by kernel_rfl) rfl Try.underlying2 rfl
theorem ty3 : TyOK Try.prog 3 ⟨.int .i64, [.int .i64 0], 8⟩ := .mk' (z := .int .i64 0) (by kernel_rfl) rfl Try.underlying3 rfl
theorem ty4 : TyOK Try.prog 4 ⟨.bool, [.bool false], 1⟩ := .mk' (z := .bool false) (by kernel_rfl) rfl Try.underlying4 rfl
theorem ty5 : TyOK Try.prog 5 ⟨.int .u8, [.int .u8 0], 1⟩ := .mk' (z := .int .u8 0) (by kernel_rfl) rfl Try.underlying5 rfl
theorem ty6 : TyOK Try.prog 6 ⟨.int .u8, [.int .u8 0], 1⟩ := .mk' (z := .int .u8 0) (by kernel_rfl) rfl Try.underlying6 rfl
theorem ty7 : TyOK Try.prog 7 ⟨.st [(0, 2), (1, 3), (2, 4), (3, 6)], [.int .i64 0, .int .i64 0, .bool false, .int .u8 0], 24⟩ := .mk' (z := .agg #[.int .i64 0, .int .i64 0, .bool false, .int .u8 0]) (by kernel_rfl) rfl Try.underlying7 ⟨_, rfl, rfl⟩
theorem ty8 : TyOK Try.prog 8 ⟨.st [(0, 2), (1, 3), (2, 4), (3, 6)], [.int .i64 0, .int .i64 0, .bool false, .int .u8 0], 24⟩ := .mk' (z := .agg #[.int .i64 0, .int .i64 0, .bool false, .int .u8 0]) (by kernel_rfl) rfl Try.underlying8 ⟨_, rfl, rfl⟩
theorem ty9 : TyOK Try.prog 9 ⟨.sc, [.string ByteArray.empty], 16⟩ := .mk' (z := .string ByteArray.empty) (by kernel_rfl) rfl Try.underlying9 trivial
theorem ty10 : TyOK Try.prog 10 ⟨.sc, [.string ByteArray.empty], 16⟩ := .mk' (z := .string ByteArray.empty) (by kernel_rfl) rfl Try.underlying10 trivial
theorem ty11 : TyOK Try.prog 11 ⟨.sc, [.string ByteArray.empty], 16⟩ := .mk' (z := .string ByteArray.empty) (by kernel_rfl) rfl Try.underlying11 trivial
theorem ty12 : TyOK Try.prog 12 ⟨.int .u64, [.int .u64 0], 8⟩ := .mk' (z := .int .u64 0) (by kernel_rfl) rfl Try.underlying12 rfl
theorem ty13 : TyOK Try.prog 13 ⟨.st [(0, 9), (1, 12)], [.string ByteArray.empty, .int .u64 0], 24⟩ := .mk' (z := .agg #[.string ByteArray.empty, .int .u64 0]) (by kernel_rfl) rfl Try.underlying13 ⟨_, rfl, rfl⟩
theorem ty14 : TyOK Try.prog 14 ⟨.st [(0, 9), (1, 12)], [.string ByteArray.empty, .int .u64 0], 24⟩ := .mk' (z := .agg #[.string ByteArray.empty, .int .u64 0]) (by kernel_rfl) rfl Try.underlying14 ⟨_, rfl, rfl⟩
theorem ty15 : TyOK Try.prog 15 ⟨.sc, [.pointer none], 8⟩ := .mk' (z := .pointer none) (by kernel_rfl) rfl Try.underlying15 trivial
theorem ty16 : TyOK Try.prog 16 ⟨.sc, [.pointer none], 8⟩ := .mk' (z := .pointer none) (by kernel_rfl) rfl Try.underlying16 trivial
theorem ty17 : TyOK Try.prog 17 ⟨.sc, [.pointer none], 8⟩ := .mk' (z := .pointer none) (by kernel_rfl) rfl Try.underlying17 trivial
theorem ty18 : TyOK Try.prog 18 ⟨.st [(0, 17)], [.pointer none], 8⟩ := .mk' (z := .agg #[.pointer none]) (by kernel_rfl) rfl Try.underlying18 ⟨_, rfl, rfl⟩
theorem ty19 : TyOK Try.prog 19 ⟨.st [(0, 17)], [.pointer none], 8⟩ := .mk' (z := .agg #[.pointer none]) (by kernel_rfl) rfl Try.underlying19 ⟨_, rfl, rfl⟩
theorem ty21 : TyOK Try.prog 21 ⟨.int .i32, [.int .i32 0], 4⟩ := .mk' (z := .int .i32 0) (by kernel_rfl) rfl Try.underlying21 rfl
theorem ty22 : TyOK Try.prog 22 ⟨.sl 46, [.slice none 0 0], 24⟩ := .mk' (z := .slice none 0 0) (by kernel_rfl) rfl Try.underlying22 rfl
theorem ty23 : TyOK Try.prog 23 ⟨.sl 36, [.slice none 0 0], 24⟩ := .mk' (z := .slice none 0 0) (by kernel_rfl) rfl Try.underlying23 rfl
theorem ty24 : TyOK Try.prog 24 ⟨.sl 39, [.slice none 0 0], 24⟩ := .mk' (z := .slice none 0 0) (by kernel_rfl) rfl Try.underlying24 rfl
theorem ty25 : TyOK Try.prog 25 ⟨.sc, [.nilFunc], 8⟩ := .mk' (z := .nilFunc) (by kernel_rfl) rfl Try.underlying25 trivial
theorem ty26 : TyOK Try.prog 26 ⟨.sc, [.nilFunc], 8⟩ := .mk' (z := .nilFunc) (by kernel_rfl) rfl Try.underlying26 trivial
theorem ty27 : TyOK Try.prog 27 ⟨.sc, [.nilFunc], 8⟩ := .mk' (z := .nilFunc) (by kernel_rfl) rfl Try.underlying27 trivial
theorem ty28 : TyOK Try.prog 28 ⟨.sc, [.nilFunc], 8⟩ := .mk' (z := .nilFunc) (by kernel_rfl) rfl Try.underlying28 trivial
theorem ty29 : TyOK Try.prog 29 ⟨.int .i64, [.int .i64 0], 8⟩ := .mk' (z := .int .i64 0) (by kernel_rfl) rfl Try.underlying29 rfl
theorem ty31 : TyOK Try.prog 31 ⟨.sc, [.nilFunc], 8⟩ := .mk' (z := .nilFunc) (by kernel_rfl) rfl Try.underlying31 trivial
theorem ty33 : TyOK Try.prog 33 ⟨.sc, [.nilFunc], 8⟩ := .mk' (z := .nilFunc) (by kernel_rfl) rfl Try.underlying33 trivial
theorem ty34 : TyOK Try.prog 34 ⟨.sc, [.nilFunc], 8⟩ := .mk' (z := .nilFunc) (by kernel_rfl) rfl Try.underlying34 trivial
theorem ty35 : TyOK Try.prog 35 ⟨.st [(0, 3), (1, 22)], [.int .i64 0, .slice none 0 0], 32⟩ := .mk' (z := .agg #[.int .i64 0, .slice none 0 0]) (by kernel_rfl) rfl Try.underlying35 ⟨_, rfl, rfl⟩
theorem ty36 : TyOK Try.prog 36 ⟨.st [(0, 3), (1, 22)], [.int .i64 0, .slice none 0 0], 32⟩ := .mk' (z := .agg #[.int .i64 0, .slice none 0 0]) (by kernel_rfl) rfl Try.underlying36 ⟨_, rfl, rfl⟩
theorem ty37 : TyOK Try.prog 37 ⟨.sc, [.nilFunc], 8⟩ := .mk' (z := .nilFunc) (by kernel_rfl) rfl Try.underlying37 trivial
theorem ty38 : TyOK Try.prog 38 ⟨.st [(0, 3), (1, 3)], [.int .i64 0, .int .i64 0], 16⟩ := .mk' (z := .agg #[.int .i64 0, .int .i64 0]) (by kernel_rfl) rfl Try.underlying38 ⟨_, rfl, rfl⟩
theorem ty39 : TyOK Try.prog 39 ⟨.st [(0, 3), (1, 3)], [.int .i64 0, .int .i64 0], 16⟩ := .mk' (z := .agg #[.int .i64 0, .int .i64 0]) (by kernel_rfl) rfl Try.underlying39 ⟨_, rfl, rfl⟩
theorem ty40 : TyOK Try.prog 40 ⟨.sc, [.nilFunc], 8⟩ := .mk' (z := .nilFunc) (by kernel_rfl) rfl Try.underlying40 trivial
theorem ty42 : TyOK Try.prog 42 ⟨.sc, [.nilFunc], 8⟩ := .mk' (z := .nilFunc) (by kernel_rfl) rfl Try.underlying42 trivial
theorem ty43 : TyOK Try.prog 43 ⟨.sl 3, [.slice none 0 0], 24⟩ := .mk' (z := .slice none 0 0) (by kernel_rfl) rfl Try.underlying43 rfl
theorem ty44 : TyOK Try.prog 44 ⟨.sl 24, [.slice none 0 0], 24⟩ := .mk' (z := .slice none 0 0) (by kernel_rfl) rfl Try.underlying44 rfl
theorem ty45 : TyOK Try.prog 45 ⟨.st [(0, 43), (1, 43), (2, 44)], [.slice none 0 0, .slice none 0 0, .slice none 0 0], 72⟩ := .mk' (z := .agg #[.slice none 0 0, .slice none 0 0, .slice none 0 0]) (by kernel_rfl) rfl Try.underlying45 ⟨_, rfl, rfl⟩
theorem ty46 : TyOK Try.prog 46 ⟨.st [(0, 43), (1, 43), (2, 44)], [.slice none 0 0, .slice none 0 0, .slice none 0 0], 72⟩ := .mk' (z := .agg #[.slice none 0 0, .slice none 0 0, .slice none 0 0]) (by kernel_rfl) rfl Try.underlying46 ⟨_, rfl, rfl⟩
theorem ty47 : TyOK Try.prog 47 ⟨.sc, [.nilFunc], 8⟩ := .mk' (z := .nilFunc) (by kernel_rfl) rfl Try.underlying47 trivial
theorem ty48 : TyOK Try.prog 48 ⟨.sc, [.nilFunc], 8⟩ := .mk' (z := .nilFunc) (by kernel_rfl) rfl Try.underlying48 trivial
theorem ty50 : TyOK Try.prog 50 ⟨.sc, [.nilFunc], 8⟩ := .mk' (z := .nilFunc) (by kernel_rfl) rfl Try.underlying50 trivial
theorem ty51 : TyOK Try.prog 51 ⟨.sc, [.nilFunc], 8⟩ := .mk' (z := .nilFunc) (by kernel_rfl) rfl Try.underlying51 trivial
theorem ty53 : TyOK Try.prog 53 ⟨.sc, [.nilFunc], 8⟩ := .mk' (z := .nilFunc) (by kernel_rfl) rfl Try.underlying53 trivial
theorem ty54 : TyOK Try.prog 54 ⟨.sc, [.nilFunc], 8⟩ := .mk' (z := .nilFunc) (by kernel_rfl) rfl Try.underlying54 trivial
theorem ty55 : TyOK Try.prog 55 ⟨.sc, [.nilFunc], 8⟩ := .mk' (z := .nilFunc) (by kernel_rfl) rfl Try.underlying55 trivial
theorem ty56 : TyOK Try.prog 56 ⟨.sc, [.nilFunc], 8⟩ := .mk' (z := .nilFunc) (by kernel_rfl) rfl Try.underlying56 trivial
theorem ty57 : TyOK Try.prog 57 ⟨.sl 5, [.slice none 0 0], 24⟩ := .mk' (z := .slice none 0 0) (by kernel_rfl) rfl Try.underlying57 rfl
theorem ty58 : TyOK Try.prog 58 ⟨.sc, [.nilFunc], 8⟩ := .mk' (z := .nilFunc) (by kernel_rfl) rfl Try.underlying58 trivial
theorem ty59 : TyOK Try.prog 59 ⟨.sc, [.nilFunc], 8⟩ := .mk' (z := .nilFunc) (by kernel_rfl) rfl Try.underlying59 trivial
theorem ty60 : TyOK Try.prog 60 ⟨.sc, [.nilFunc], 8⟩ := .mk' (z := .nilFunc) (by kernel_rfl) rfl Try.underlying60 trivial
theorem ty61 : TyOK Try.prog 61 ⟨.sc, [.nilFunc], 8⟩ := .mk' (z := .nilFunc) (by kernel_rfl) rfl Try.underlying61 trivial
theorem ty62 : TyOK Try.prog 62 ⟨.int .u64, [.int .u64 0], 8⟩ := .mk' (z := .int .u64 0) (by kernel_rfl) rfl Try.underlying62 rfl
theorem ty63 : TyOK Try.prog 63 ⟨.sc, [.nilFunc], 8⟩ := .mk' (z := .nilFunc) (by kernel_rfl) rfl Try.underlying63 trivial
theorem ty64 : TyOK Try.prog 64 ⟨.sc, [.nilFunc], 8⟩ := .mk' (z := .nilFunc) (by kernel_rfl) rfl Try.underlying64 trivial
theorem ty65 : TyOK Try.prog 65 ⟨.sc, [.nilFunc], 8⟩ := .mk' (z := .nilFunc) (by kernel_rfl) rfl Try.underlying65 trivial
theorem ty66 : TyOK Try.prog 66 ⟨.sc, [.nilFunc], 8⟩ := .mk' (z := .nilFunc) (by kernel_rfl) rfl Try.underlying66 trivial
theorem ty67 : TyOK Try.prog 67 ⟨.sc, [.nilFunc], 8⟩ := .mk' (z := .nilFunc) (by kernel_rfl) rfl Try.underlying67 trivial
theorem ty68 : TyOK Try.prog 68 ⟨.sc, [.nilFunc], 8⟩ := .mk' (z := .nilFunc) (by kernel_rfl) rfl Try.underlying68 trivial
theorem ty69 : TyOK Try.prog 69 ⟨.sc, [.nilFunc], 8⟩ := .mk' (z := .nilFunc) (by kernel_rfl) rfl Try.underlying69 trivial
theorem ty70 : TyOK Try.prog 70 ⟨.sc, [.nilFunc], 8⟩ := .mk' (z := .nilFunc) (by kernel_rfl) rfl Try.underlying70 trivial
theorem ty71 : TyOK Try.prog 71 ⟨.sc, [.nilFunc], 8⟩ := .mk' (z := .nilFunc) (by kernel_rfl) rfl Try.underlying71 trivial
theorem ty72 : TyOK Try.prog 72 ⟨.sc, [.nilFunc], 8⟩ := .mk' (z := .nilFunc) (by kernel_rfl) rfl Try.underlying72 trivial
theorem ty73 : TyOK Try.prog 73 ⟨.sc, [.nilFunc], 8⟩ := .mk' (z := .nilFunc) (by kernel_rfl) rfl Try.underlying73 trivial
theorem ty74 : TyOK Try.prog 74 ⟨.sc, [.nilFunc], 8⟩ := .mk' (z := .nilFunc) (by kernel_rfl) rfl Try.underlying74 trivial
theorem ty75 : TyOK Try.prog 75 ⟨.sc, [.nilFunc], 8⟩ := .mk' (z := .nilFunc) (by kernel_rfl) rfl Try.underlying75 trivial
theorem ty76 : TyOK Try.prog 76 ⟨.sc, [.nilFunc], 8⟩ := .mk' (z := .nilFunc) (by kernel_rfl) rfl Try.underlying76 trivial
theorem ty77 : TyOK Try.prog 77 ⟨.sc, [.nilFunc], 8⟩ := .mk' (z := .nilFunc) (by kernel_rfl) rfl Try.underlying77 trivial
theorem ty79 : TyOK Try.prog 79 ⟨.sc, [.nilFunc], 8⟩ := .mk' (z := .nilFunc) (by kernel_rfl) rfl Try.underlying79 trivial
theorem ty80 : TyOK Try.prog 80 ⟨.sc, [.nilFunc], 8⟩ := .mk' (z := .nilFunc) (by kernel_rfl) rfl Try.underlying80 trivial
theorem ty82 : TyOK Try.prog 82 ⟨.sc, [.nilFunc], 8⟩ := .mk' (z := .nilFunc) (by kernel_rfl) rfl Try.underlying82 trivial
theorem ty83 : TyOK Try.prog 83 ⟨.sc, [.nilFunc], 8⟩ := .mk' (z := .nilFunc) (by kernel_rfl) rfl Try.underlying83 trivial
theorem ty84 : TyOK Try.prog 84 ⟨.sc, [.nilFunc], 8⟩ := .mk' (z := .nilFunc) (by kernel_rfl) rfl Try.underlying84 trivial
theorem ty85 : TyOK Try.prog 85 ⟨.sc, [.nilFunc], 8⟩ := .mk' (z := .nilFunc) (by kernel_rfl) rfl Try.underlying85 trivial
theorem ty86 : TyOK Try.prog 86 ⟨.sc, [.nilFunc], 8⟩ := .mk' (z := .nilFunc) (by kernel_rfl) rfl Try.underlying86 trivial
theorem ty87 : TyOK Try.prog 87 ⟨.sc, [.nilFunc], 8⟩ := .mk' (z := .nilFunc) (by kernel_rfl) rfl Try.underlying87 trivial
theorem ty88 : TyOK Try.prog 88 ⟨.sc, [.nilFunc], 8⟩ := .mk' (z := .nilFunc) (by kernel_rfl) rfl Try.underlying88 trivial
theorem ty89 : TyOK Try.prog 89 ⟨.sc, [.nilFunc], 8⟩ := .mk' (z := .nilFunc) (by kernel_rfl) rfl Try.underlying89 trivial
theorem ty90 : TyOK Try.prog 90 ⟨.sc, [.nilFunc], 8⟩ := .mk' (z := .nilFunc) (by kernel_rfl) rfl Try.underlying90 trivial
theorem ty91 : TyOK Try.prog 91 ⟨.sc, [.nilFunc], 8⟩ := .mk' (z := .nilFunc) (by kernel_rfl) rfl Try.underlying91 trivial
theorem ty92 : TyOK Try.prog 92 ⟨.sc, [.nilFunc], 8⟩ := .mk' (z := .nilFunc) (by kernel_rfl) rfl Try.underlying92 trivial
theorem ty93 : TyOK Try.prog 93 ⟨.sc, [.nilFunc], 8⟩ := .mk' (z := .nilFunc) (by kernel_rfl) rfl Try.underlying93 trivial
theorem ty94 : TyOK Try.prog 94 ⟨.sc, [.nilFunc], 8⟩ := .mk' (z := .nilFunc) (by kernel_rfl) rfl Try.underlying94 trivial
theorem ty95 : TyOK Try.prog 95 ⟨.sc, [.nilFunc], 8⟩ := .mk' (z := .nilFunc) (by kernel_rfl) rfl Try.underlying95 trivial
theorem ty96 : TyOK Try.prog 96 ⟨.sc, [.nilFunc], 8⟩ := .mk' (z := .nilFunc) (by kernel_rfl) rfl Try.underlying96 trivial
theorem ty97 : TyOK Try.prog 97 ⟨.sc, [.nilFunc], 8⟩ := .mk' (z := .nilFunc) (by kernel_rfl) rfl Try.underlying97 trivial
theorem ty98 : TyOK Try.prog 98 ⟨.sc, [.nilFunc], 8⟩ := .mk' (z := .nilFunc) (by kernel_rfl) rfl Try.underlying98 trivial
theorem ty99 : TyOK Try.prog 99 ⟨.sl 39, [.slice none 0 0], 24⟩ := .mk' (z := .slice none 0 0) (by kernel_rfl) rfl Try.underlying99 rfl
theorem ty100 : TyOK Try.prog 100 ⟨.sc, [.nilFunc], 8⟩ := .mk' (z := .nilFunc) (by kernel_rfl) rfl Try.underlying100 trivial
theorem ty101 : TyOK Try.prog 101 ⟨.sc, [.nilFunc], 8⟩ := .mk' (z := .nilFunc) (by kernel_rfl) rfl Try.underlying101 trivial
theorem ty102 : TyOK Try.prog 102 ⟨.sc, [.nilFunc], 8⟩ := .mk' (z := .nilFunc) (by kernel_rfl) rfl Try.underlying102 trivial
theorem ty103 : TyOK Try.prog 103 ⟨.sc, [.nilFunc], 8⟩ := .mk' (z := .nilFunc) (by kernel_rfl) rfl Try.underlying103 trivial
theorem ty104 : TyOK Try.prog 104 ⟨.sc, [.nilFunc], 8⟩ := .mk' (z := .nilFunc) (by kernel_rfl) rfl Try.underlying104 trivial
theorem ty105 : TyOK Try.prog 105 ⟨.sc, [.nilFunc], 8⟩ := .mk' (z := .nilFunc) (by kernel_rfl) rfl Try.underlying105 trivial
theorem ty106 : TyOK Try.prog 106 ⟨.sc, [.nilFunc], 8⟩ := .mk' (z := .nilFunc) (by kernel_rfl) rfl Try.underlying106 trivial
theorem ty107 : TyOK Try.prog 107 ⟨.sc, [.nilFunc], 8⟩ := .mk' (z := .nilFunc) (by kernel_rfl) rfl Try.underlying107 trivial
theorem ty108 : TyOK Try.prog 108 ⟨.sl 107, [.slice none 0 0], 24⟩ := .mk' (z := .slice none 0 0) (by kernel_rfl) rfl Try.underlying108 rfl
theorem ty109 : TyOK Try.prog 109 ⟨.sc, [.nilFunc], 8⟩ := .mk' (z := .nilFunc) (by kernel_rfl) rfl Try.underlying109 trivial
theorem ty110 : TyOK Try.prog 110 ⟨.sc, [.nilFunc], 8⟩ := .mk' (z := .nilFunc) (by kernel_rfl) rfl Try.underlying110 trivial
theorem ty111 : TyOK Try.prog 111 ⟨.sc, [.nilFunc], 8⟩ := .mk' (z := .nilFunc) (by kernel_rfl) rfl Try.underlying111 trivial
theorem ty112 : TyOK Try.prog 112 ⟨.sc, [.nilFunc], 8⟩ := .mk' (z := .nilFunc) (by kernel_rfl) rfl Try.underlying112 trivial
theorem ty113 : TyOK Try.prog 113 ⟨.int .u64, [.int .u64 0], 8⟩ := .mk' (z := .int .u64 0) (by kernel_rfl) rfl Try.underlying113 rfl
theorem ty114 : TyOK Try.prog 114 ⟨.sc, [.pointer none], 8⟩ := .mk' (z := .pointer none) (by kernel_rfl) rfl Try.underlying114 trivial
theorem ty115 : TyOK Try.prog 115 ⟨.sc, [.nilFunc], 8⟩ := .mk' (z := .nilFunc) (by kernel_rfl) rfl Try.underlying115 trivial
theorem ty116 : TyOK Try.prog 116 ⟨.sc, [.nilFunc], 8⟩ := .mk' (z := .nilFunc) (by kernel_rfl) rfl Try.underlying116 trivial
theorem ty117 : TyOK Try.prog 117 ⟨.int .i64, [.int .i64 0], 8⟩ := .mk' (z := .int .i64 0) (by kernel_rfl) rfl Try.underlying117 rfl
theorem ty119 : TyOK Try.prog 119 ⟨.sc, [.nilFunc], 8⟩ := .mk' (z := .nilFunc) (by kernel_rfl) rfl Try.underlying119 trivial
theorem ty120 : TyOK Try.prog 120 ⟨.sc, [.nilFunc], 8⟩ := .mk' (z := .nilFunc) (by kernel_rfl) rfl Try.underlying120 trivial
theorem ty121 : TyOK Try.prog 121 ⟨.sc, [.nilFunc], 8⟩ := .mk' (z := .nilFunc) (by kernel_rfl) rfl Try.underlying121 trivial
theorem ty123 : TyOK Try.prog 123 ⟨.sc, [.nilFunc], 8⟩ := .mk' (z := .nilFunc) (by kernel_rfl) rfl Try.underlying123 trivial
theorem ty124 : TyOK Try.prog 124 ⟨.sc, [.nilFunc], 8⟩ := .mk' (z := .nilFunc) (by kernel_rfl) rfl Try.underlying124 trivial
theorem ty125 : TyOK Try.prog 125 ⟨.int .u32, [.int .u32 0], 4⟩ := .mk' (z := .int .u32 0) (by kernel_rfl) rfl Try.underlying125 rfl
theorem ty126 : TyOK Try.prog 126 ⟨.sc, [.nilFunc], 8⟩ := .mk' (z := .nilFunc) (by kernel_rfl) rfl Try.underlying126 trivial
theorem ty127 : TyOK Try.prog 127 ⟨.int .u64, [.int .u64 0], 8⟩ := .mk' (z := .int .u64 0) (by kernel_rfl) rfl Try.underlying127 rfl
theorem ty128 : TyOK Try.prog 128 ⟨.sc, [.nilFunc], 8⟩ := .mk' (z := .nilFunc) (by kernel_rfl) rfl Try.underlying128 trivial
theorem ty129 : TyOK Try.prog 129 ⟨.sc, [.nilFunc], 8⟩ := .mk' (z := .nilFunc) (by kernel_rfl) rfl Try.underlying129 trivial
theorem ty130 : TyOK Try.prog 130 ⟨.sc, [.nilFunc], 8⟩ := .mk' (z := .nilFunc) (by kernel_rfl) rfl Try.underlying130 trivial
theorem ty131 : TyOK Try.prog 131 ⟨.sc, [.pointer none], 8⟩ := .mk' (z := .pointer none) (by kernel_rfl) rfl Try.underlying131 trivial
theorem ty132 : TyOK Try.prog 132 ⟨.sc, [.nilFunc], 8⟩ := .mk' (z := .nilFunc) (by kernel_rfl) rfl Try.underlying132 trivial
theorem ty133 : TyOK Try.prog 133 ⟨.sc, [.pointer none], 8⟩ := .mk' (z := .pointer none) (by kernel_rfl) rfl Try.underlying133 trivial
theorem ty134 : TyOK Try.prog 134 ⟨.sc, [.nilFunc], 8⟩ := .mk' (z := .nilFunc) (by kernel_rfl) rfl Try.underlying134 trivial
theorem ty135 : TyOK Try.prog 135 ⟨.sc, [.nilFunc], 8⟩ := .mk' (z := .nilFunc) (by kernel_rfl) rfl Try.underlying135 trivial
theorem ty136 : TyOK Try.prog 136 ⟨.st [(0, 17), (1, 17), (2, 17), (3, 9)], [.pointer none, .pointer none, .pointer none, .string ByteArray.empty], 40⟩ := .mk' (z := .agg #[.pointer none, .pointer none, .pointer none, .string ByteArray.empty]) (by kernel_rfl) rfl Try.underlying136 ⟨_, rfl, rfl⟩
theorem ty137 : TyOK Try.prog 137 ⟨.st [(0, 17), (1, 17), (2, 17), (3, 9)], [.pointer none, .pointer none, .pointer none, .string ByteArray.empty], 40⟩ := .mk' (z := .agg #[.pointer none, .pointer none, .pointer none, .string ByteArray.empty]) (by kernel_rfl) rfl Try.underlying137 ⟨_, rfl, rfl⟩
theorem ty138 : TyOK Try.prog 138 ⟨.ar 0 16, [], 0⟩ := .mk' (z := .agg #[]) (by kernel_rfl) rfl Try.underlying138 rfl
theorem ty139 : TyOK Try.prog 139 ⟨.st [(0, 138)], [], 0⟩ := .mk' (z := .agg #[]) (by kernel_rfl) rfl Try.underlying139 ⟨_, rfl, rfl⟩
theorem ty140 : TyOK Try.prog 140 ⟨.st [(0, 138)], [], 0⟩ := .mk' (z := .agg #[]) (by kernel_rfl) rfl Try.underlying140 ⟨_, rfl, rfl⟩
theorem ty141 : TyOK Try.prog 141 ⟨.int .u8, [.int .u8 0], 1⟩ := .mk' (z := .int .u8 0) (by kernel_rfl) rfl Try.underlying141 rfl
theorem ty142 : TyOK Try.prog 142 ⟨.int .u8, [.int .u8 0], 1⟩ := .mk' (z := .int .u8 0) (by kernel_rfl) rfl Try.underlying142 rfl
theorem ty143 : TyOK Try.prog 143 ⟨.sc, [.nilFunc], 8⟩ := .mk' (z := .nilFunc) (by kernel_rfl) rfl Try.underlying143 trivial
theorem ty144 : TyOK Try.prog 144 ⟨.sc, [.pointer none], 8⟩ := .mk' (z := .pointer none) (by kernel_rfl) rfl Try.underlying144 trivial
theorem ty145 : TyOK Try.prog 145 ⟨.int .i32, [.int .i32 0], 4⟩ := .mk' (z := .int .i32 0) (by kernel_rfl) rfl Try.underlying145 rfl
theorem ty146 : TyOK Try.prog 146 ⟨.int .i32, [.int .i32 0], 4⟩ := .mk' (z := .int .i32 0) (by kernel_rfl) rfl Try.underlying146 rfl
theorem ty147 : TyOK Try.prog 147 ⟨.st [(0, 12), (1, 12), (2, 125), (3, 141), (4, 5), (5, 5), (6, 142), (7, 143), (8, 144), (9, 145), (10, 146)], [.int .u64 0, .int .u64 0, .int .u32 0, .int .u8 0, .int .u8 0, .int .u8 0, .int .u8 0, .nilFunc, .pointer none, .int .i32 0, .int .i32 0], 48⟩ := .mk' (z := .agg #[.int .u64 0, .int .u64 0, .int .u32 0, .int .u8 0, .int .u8 0, .int .u8 0, .int .u8 0, .nilFunc, .pointer none, .int .i32 0, .int .i32 0]) (by kernel_rfl) rfl Try.underlying147 ⟨_, rfl, rfl⟩
theorem ty148 : TyOK Try.prog 148 ⟨.st [(0, 12), (1, 12), (2, 125), (3, 141), (4, 5), (5, 5), (6, 142), (7, 143), (8, 144), (9, 145), (10, 146)], [.int .u64 0, .int .u64 0, .int .u32 0, .int .u8 0, .int .u8 0, .int .u8 0, .int .u8 0, .nilFunc, .pointer none, .int .i32 0, .int .i32 0], 48⟩ := .mk' (z := .agg #[.int .u64 0, .int .u64 0, .int .u32 0, .int .u8 0, .int .u8 0, .int .u8 0, .int .u8 0, .nilFunc, .pointer none, .int .i32 0, .int .i32 0]) (by kernel_rfl) rfl Try.underlying148 ⟨_, rfl, rfl⟩
theorem ty149 : TyOK Try.prog 149 ⟨.sc, [.pointer none], 8⟩ := .mk' (z := .pointer none) (by kernel_rfl) rfl Try.underlying149 trivial

def te : List (Nat × TI) := [(1, ⟨.sc, [.nilFunc], 8⟩),
  (2, ⟨.int .i64, [.int .i64 0], 8⟩),
  (3, ⟨.int .i64, [.int .i64 0], 8⟩),
  (4, ⟨.bool, [.bool false], 1⟩),
  (5, ⟨.int .u8, [.int .u8 0], 1⟩),
  (6, ⟨.int .u8, [.int .u8 0], 1⟩),
  (7, ⟨.st [(0, 2), (1, 3), (2, 4), (3, 6)], [.int .i64 0, .int .i64 0, .bool false, .int .u8 0], 24⟩),
  (8, ⟨.st [(0, 2), (1, 3), (2, 4), (3, 6)], [.int .i64 0, .int .i64 0, .bool false, .int .u8 0], 24⟩),
  (9, ⟨.sc, [.string ByteArray.empty], 16⟩),
  (10, ⟨.sc, [.string ByteArray.empty], 16⟩),
  (11, ⟨.sc, [.string ByteArray.empty], 16⟩),
  (12, ⟨.int .u64, [.int .u64 0], 8⟩),
  (13, ⟨.st [(0, 9), (1, 12)], [.string ByteArray.empty, .int .u64 0], 24⟩),
  (14, ⟨.st [(0, 9), (1, 12)], [.string ByteArray.empty, .int .u64 0], 24⟩),
  (15, ⟨.sc, [.pointer none], 8⟩),
  (16, ⟨.sc, [.pointer none], 8⟩),
  (17, ⟨.sc, [.pointer none], 8⟩),
  (18, ⟨.st [(0, 17)], [.pointer none], 8⟩),
  (19, ⟨.st [(0, 17)], [.pointer none], 8⟩),
  (21, ⟨.int .i32, [.int .i32 0], 4⟩),
  (22, ⟨.sl 46, [.slice none 0 0], 24⟩),
  (23, ⟨.sl 36, [.slice none 0 0], 24⟩),
  (24, ⟨.sl 39, [.slice none 0 0], 24⟩),
  (25, ⟨.sc, [.nilFunc], 8⟩),
  (26, ⟨.sc, [.nilFunc], 8⟩),
  (27, ⟨.sc, [.nilFunc], 8⟩),
  (28, ⟨.sc, [.nilFunc], 8⟩),
  (29, ⟨.int .i64, [.int .i64 0], 8⟩),
  (31, ⟨.sc, [.nilFunc], 8⟩),
  (33, ⟨.sc, [.nilFunc], 8⟩),
  (34, ⟨.sc, [.nilFunc], 8⟩),
  (35, ⟨.st [(0, 3), (1, 22)], [.int .i64 0, .slice none 0 0], 32⟩),
  (36, ⟨.st [(0, 3), (1, 22)], [.int .i64 0, .slice none 0 0], 32⟩),
  (37, ⟨.sc, [.nilFunc], 8⟩),
  (38, ⟨.st [(0, 3), (1, 3)], [.int .i64 0, .int .i64 0], 16⟩),
  (39, ⟨.st [(0, 3), (1, 3)], [.int .i64 0, .int .i64 0], 16⟩),
  (40, ⟨.sc, [.nilFunc], 8⟩),
  (42, ⟨.sc, [.nilFunc], 8⟩),
  (43, ⟨.sl 3, [.slice none 0 0], 24⟩),
  (44, ⟨.sl 24, [.slice none 0 0], 24⟩),
  (45, ⟨.st [(0, 43), (1, 43), (2, 44)], [.slice none 0 0, .slice none 0 0, .slice none 0 0], 72⟩),
  (46, ⟨.st [(0, 43), (1, 43), (2, 44)], [.slice none 0 0, .slice none 0 0, .slice none 0 0], 72⟩),
  (47, ⟨.sc, [.nilFunc], 8⟩),
  (48, ⟨.sc, [.nilFunc], 8⟩),
  (50, ⟨.sc, [.nilFunc], 8⟩),
  (51, ⟨.sc, [.nilFunc], 8⟩),
  (53, ⟨.sc, [.nilFunc], 8⟩),
  (54, ⟨.sc, [.nilFunc], 8⟩),
  (55, ⟨.sc, [.nilFunc], 8⟩),
  (56, ⟨.sc, [.nilFunc], 8⟩),
  (57, ⟨.sl 5, [.slice none 0 0], 24⟩),
  (58, ⟨.sc, [.nilFunc], 8⟩),
  (59, ⟨.sc, [.nilFunc], 8⟩),
  (60, ⟨.sc, [.nilFunc], 8⟩),
  (61, ⟨.sc, [.nilFunc], 8⟩),
  (62, ⟨.int .u64, [.int .u64 0], 8⟩),
  (63, ⟨.sc, [.nilFunc], 8⟩),
  (64, ⟨.sc, [.nilFunc], 8⟩),
  (65, ⟨.sc, [.nilFunc], 8⟩),
  (66, ⟨.sc, [.nilFunc], 8⟩),
  (67, ⟨.sc, [.nilFunc], 8⟩),
  (68, ⟨.sc, [.nilFunc], 8⟩),
  (69, ⟨.sc, [.nilFunc], 8⟩),
  (70, ⟨.sc, [.nilFunc], 8⟩),
  (71, ⟨.sc, [.nilFunc], 8⟩),
  (72, ⟨.sc, [.nilFunc], 8⟩),
  (73, ⟨.sc, [.nilFunc], 8⟩),
  (74, ⟨.sc, [.nilFunc], 8⟩),
  (75, ⟨.sc, [.nilFunc], 8⟩),
  (76, ⟨.sc, [.nilFunc], 8⟩),
  (77, ⟨.sc, [.nilFunc], 8⟩),
  (79, ⟨.sc, [.nilFunc], 8⟩),
  (80, ⟨.sc, [.nilFunc], 8⟩),
  (82, ⟨.sc, [.nilFunc], 8⟩),
  (83, ⟨.sc, [.nilFunc], 8⟩),
  (84, ⟨.sc, [.nilFunc], 8⟩),
  (85, ⟨.sc, [.nilFunc], 8⟩),
  (86, ⟨.sc, [.nilFunc], 8⟩),
  (87, ⟨.sc, [.nilFunc], 8⟩),
  (88, ⟨.sc, [.nilFunc], 8⟩),
  (89, ⟨.sc, [.nilFunc], 8⟩),
  (90, ⟨.sc, [.nilFunc], 8⟩),
  (91, ⟨.sc, [.nilFunc], 8⟩),
  (92, ⟨.sc, [.nilFunc], 8⟩),
  (93, ⟨.sc, [.nilFunc], 8⟩),
  (94, ⟨.sc, [.nilFunc], 8⟩),
  (95, ⟨.sc, [.nilFunc], 8⟩),
  (96, ⟨.sc, [.nilFunc], 8⟩),
  (97, ⟨.sc, [.nilFunc], 8⟩),
  (98, ⟨.sc, [.nilFunc], 8⟩),
  (99, ⟨.sl 39, [.slice none 0 0], 24⟩),
  (100, ⟨.sc, [.nilFunc], 8⟩),
  (101, ⟨.sc, [.nilFunc], 8⟩),
  (102, ⟨.sc, [.nilFunc], 8⟩),
  (103, ⟨.sc, [.nilFunc], 8⟩),
  (104, ⟨.sc, [.nilFunc], 8⟩),
  (105, ⟨.sc, [.nilFunc], 8⟩),
  (106, ⟨.sc, [.nilFunc], 8⟩),
  (107, ⟨.sc, [.nilFunc], 8⟩),
  (108, ⟨.sl 107, [.slice none 0 0], 24⟩),
  (109, ⟨.sc, [.nilFunc], 8⟩),
  (110, ⟨.sc, [.nilFunc], 8⟩),
  (111, ⟨.sc, [.nilFunc], 8⟩),
  (112, ⟨.sc, [.nilFunc], 8⟩),
  (113, ⟨.int .u64, [.int .u64 0], 8⟩),
  (114, ⟨.sc, [.pointer none], 8⟩),
  (115, ⟨.sc, [.nilFunc], 8⟩),
  (116, ⟨.sc, [.nilFunc], 8⟩),
  (117, ⟨.int .i64, [.int .i64 0], 8⟩),
  (119, ⟨.sc, [.nilFunc], 8⟩),
  (120, ⟨.sc, [.nilFunc], 8⟩),
  (121, ⟨.sc, [.nilFunc], 8⟩),
  (123, ⟨.sc, [.nilFunc], 8⟩),
  (124, ⟨.sc, [.nilFunc], 8⟩),
  (125, ⟨.int .u32, [.int .u32 0], 4⟩),
  (126, ⟨.sc, [.nilFunc], 8⟩),
  (127, ⟨.int .u64, [.int .u64 0], 8⟩),
  (128, ⟨.sc, [.nilFunc], 8⟩),
  (129, ⟨.sc, [.nilFunc], 8⟩),
  (130, ⟨.sc, [.nilFunc], 8⟩),
  (131, ⟨.sc, [.pointer none], 8⟩),
  (132, ⟨.sc, [.nilFunc], 8⟩),
  (133, ⟨.sc, [.pointer none], 8⟩),
  (134, ⟨.sc, [.nilFunc], 8⟩),
  (135, ⟨.sc, [.nilFunc], 8⟩),
  (136, ⟨.st [(0, 17), (1, 17), (2, 17), (3, 9)], [.pointer none, .pointer none, .pointer none, .string ByteArray.empty], 40⟩),
  (137, ⟨.st [(0, 17), (1, 17), (2, 17), (3, 9)], [.pointer none, .pointer none, .pointer none, .string ByteArray.empty], 40⟩),
  (138, ⟨.ar 0 16, [], 0⟩),
  (139, ⟨.st [(0, 138)], [], 0⟩),
  (140, ⟨.st [(0, 138)], [], 0⟩),
  (141, ⟨.int .u8, [.int .u8 0], 1⟩),
  (142, ⟨.int .u8, [.int .u8 0], 1⟩),
  (143, ⟨.sc, [.nilFunc], 8⟩),
  (144, ⟨.sc, [.pointer none], 8⟩),
  (145, ⟨.int .i32, [.int .i32 0], 4⟩),
  (146, ⟨.int .i32, [.int .i32 0], 4⟩),
  (147, ⟨.st [(0, 12), (1, 12), (2, 125), (3, 141), (4, 5), (5, 5), (6, 142), (7, 143), (8, 144), (9, 145), (10, 146)], [.int .u64 0, .int .u64 0, .int .u32 0, .int .u8 0, .int .u8 0, .int .u8 0, .int .u8 0, .nilFunc, .pointer none, .int .i32 0, .int .i32 0], 48⟩),
  (148, ⟨.st [(0, 12), (1, 12), (2, 125), (3, 141), (4, 5), (5, 5), (6, 142), (7, 143), (8, 144), (9, 145), (10, 146)], [.int .u64 0, .int .u64 0, .int .u32 0, .int .u8 0, .int .u8 0, .int .u8 0, .int .u8 0, .nilFunc, .pointer none, .int .i32 0, .int .i32 0], 48⟩),
  (149, ⟨.sc, [.pointer none], 8⟩)]
theorem teOK : TEOK Try.prog te :=
  teOK_cons ty1 (
  teOK_cons ty2 (
  teOK_cons ty3 (
  teOK_cons ty4 (
  teOK_cons ty5 (
  teOK_cons ty6 (
  teOK_cons ty7 (
  teOK_cons ty8 (
  teOK_cons ty9 (
  teOK_cons ty10 (
  teOK_cons ty11 (
  teOK_cons ty12 (
  teOK_cons ty13 (
  teOK_cons ty14 (
  teOK_cons ty15 (
  teOK_cons ty16 (
  teOK_cons ty17 (
  teOK_cons ty18 (
  teOK_cons ty19 (
  teOK_cons ty21 (
  teOK_cons ty22 (
  teOK_cons ty23 (
  teOK_cons ty24 (
  teOK_cons ty25 (
  teOK_cons ty26 (
  teOK_cons ty27 (
  teOK_cons ty28 (
  teOK_cons ty29 (
  teOK_cons ty31 (
  teOK_cons ty33 (
  teOK_cons ty34 (
  teOK_cons ty35 (
  teOK_cons ty36 (
  teOK_cons ty37 (
  teOK_cons ty38 (
  teOK_cons ty39 (
  teOK_cons ty40 (
  teOK_cons ty42 (
  teOK_cons ty43 (
  teOK_cons ty44 (
  teOK_cons ty45 (
  teOK_cons ty46 (
  teOK_cons ty47 (
  teOK_cons ty48 (
  teOK_cons ty50 (
  teOK_cons ty51 (
  teOK_cons ty53 (
  teOK_cons ty54 (
  teOK_cons ty55 (
  teOK_cons ty56 (
  teOK_cons ty57 (
  teOK_cons ty58 (
  teOK_cons ty59 (
  teOK_cons ty60 (
  teOK_cons ty61 (
  teOK_cons ty62 (
  teOK_cons ty63 (
  teOK_cons ty64 (
  teOK_cons ty65 (
  teOK_cons ty66 (
  teOK_cons ty67 (
  teOK_cons ty68 (
  teOK_cons ty69 (
  teOK_cons ty70 (
  teOK_cons ty71 (
  teOK_cons ty72 (
  teOK_cons ty73 (
  teOK_cons ty74 (
  teOK_cons ty75 (
  teOK_cons ty76 (
  teOK_cons ty77 (
  teOK_cons ty79 (
  teOK_cons ty80 (
  teOK_cons ty82 (
  teOK_cons ty83 (
  teOK_cons ty84 (
  teOK_cons ty85 (
  teOK_cons ty86 (
  teOK_cons ty87 (
  teOK_cons ty88 (
  teOK_cons ty89 (
  teOK_cons ty90 (
  teOK_cons ty91 (
  teOK_cons ty92 (
  teOK_cons ty93 (
  teOK_cons ty94 (
  teOK_cons ty95 (
  teOK_cons ty96 (
  teOK_cons ty97 (
  teOK_cons ty98 (
  teOK_cons ty99 (
  teOK_cons ty100 (
  teOK_cons ty101 (
  teOK_cons ty102 (
  teOK_cons ty103 (
  teOK_cons ty104 (
  teOK_cons ty105 (
  teOK_cons ty106 (
  teOK_cons ty107 (
  teOK_cons ty108 (
  teOK_cons ty109 (
  teOK_cons ty110 (
  teOK_cons ty111 (
  teOK_cons ty112 (
  teOK_cons ty113 (
  teOK_cons ty114 (
  teOK_cons ty115 (
  teOK_cons ty116 (
  teOK_cons ty117 (
  teOK_cons ty119 (
  teOK_cons ty120 (
  teOK_cons ty121 (
  teOK_cons ty123 (
  teOK_cons ty124 (
  teOK_cons ty125 (
  teOK_cons ty126 (
  teOK_cons ty127 (
  teOK_cons ty128 (
  teOK_cons ty129 (
  teOK_cons ty130 (
  teOK_cons ty131 (
  teOK_cons ty132 (
  teOK_cons ty133 (
  teOK_cons ty134 (
  teOK_cons ty135 (
  teOK_cons ty136 (
  teOK_cons ty137 (
  teOK_cons ty138 (
  teOK_cons ty139 (
  teOK_cons ty140 (
  teOK_cons ty141 (
  teOK_cons ty142 (
  teOK_cons ty143 (
  teOK_cons ty144 (
  teOK_cons ty145 (
  teOK_cons ty146 (
  teOK_cons ty147 (
  teOK_cons ty148 (
  teOK_cons ty149 (
  teOK_nil)))))))))))))))))))))))))))))))))))))))))))))))))))))))))))))))))))))))))))))))))))))))))))))))))))))))))))))))))))))))))))))))))))))))))))
theorem eq38 : ∀ (op : BinOp) (x y x' y' : Int) (W : World), (op = .eql ∨ op = .neq) → ∀ (u v : Operand), (do eqGuard op 38 u v (.agg #[.int .i64 x, .int .i64 y]) (.agg #[.int .i64 x', .int .i64 y']); binOp op 38 (.agg #[.int .i64 x, .int .i64 y]) (.agg #[.int .i64 x', .int .i64 y']) : Sem Value).run Try.prog W = .ok (.bool (eqRes op (x == x' && y == y'))) W :=
  eq2_of Try.underlying38 rfl rfl rfl rfl Try.underlying3 Try.underlying3 (by kernel_rfl) (by kernel_rfl)
theorem eq39 : ∀ (op : BinOp) (x y x' y' : Int) (W : World), (op = .eql ∨ op = .neq) → ∀ (u v : Operand), (do eqGuard op 39 u v (.agg #[.int .i64 x, .int .i64 y]) (.agg #[.int .i64 x', .int .i64 y']); binOp op 39 (.agg #[.int .i64 x, .int .i64 y]) (.agg #[.int .i64 x', .int .i64 y']) : Sem Value).run Try.prog W = .ok (.bool (eqRes op (x == x' && y == y'))) W :=
  eq2_of Try.underlying39 rfl rfl rfl rfl Try.underlying3 Try.underlying3 (by kernel_rfl) (by kernel_rfl)
def cx : VX := { te := te, eq2 := [38, 39] }
theorem cxOK : VXOK Try.prog cx := ⟨teOK, fun t ht => by
  simp only [cx, List.mem_cons, List.not_mem_nil, or_false] at ht
  rcases ht with rfl | rfl
  · exact eq38
  · exact eq39, by kernel_rfl⟩
end Go.Proofs.Ytaobaeiohjgdcaa
