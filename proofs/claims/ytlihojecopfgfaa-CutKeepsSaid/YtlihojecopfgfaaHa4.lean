import Derived.Test.YtlihojecopfgfaaHa3
import Derived.Test.YtlihojecopfgfaaProg
import Derived.WalkKit
import Derived.Test.YtlihojecopfgfaaRows
import Derived.ProofKit
import Derived.OpenShut
set_option linter.unusedVariables false
set_option linter.unusedSimpArgs false
/- The types of the translation, for the framework. Printed by gen_types.py. -/
namespace Go.Proofs.Ytlihojecopfgfaa
open Go Go.V

theorem ty1 : TyOK Try.prog 1 ⟨.sc, [.nilFunc], 8⟩ := .mk' (z := .nilFunc) (by kernel_rfl) rfl Try.underlying1 trivial
theorem ty2 : TyOK Try.prog 2 ⟨.int .i64, [.int .i64 0], 8⟩ := .mk' (z := .int .i64 0) (by kernel_rfl) rfl Try.underlying2 rfl
theorem ty3 : TyOK Try.prog 3 ⟨.int .i64, [.int .i64 0], 8⟩ := .mk' (z := .int .i64 0) (by kernel_rfl) rfl Try.underlying3 rfl
theorem ty4 : TyOK Try.prog 4 ⟨.bool, [.bool false], 1⟩ := .mk' (z := .bool false) (by kernel_rfl) rfl Try.underlying4 rfl
theorem ty5 : TyOK Try.prog 5 ⟨.int .u8, [.int .u8 0], 1⟩ := .mk' (z := .int .u8 0) (by kernel_rfl) rfl Try.underlying5 rfl
theorem ty6 : TyOK Try.prog 6 ⟨.int .u8, [.int .u8 0], 1⟩ := .mk' (z := .int .u8 0) (by kernel_rfl) rfl Try.underlying6 rfl
theorem ty7 : TyOK Try.prog 7 ⟨.st [(0, 2), (1, 3), (2, 4), (3, 6)], [.int .i64 0, .int .i64 0, .bool false, .int .u8 0], 24⟩ := .mk' (z := .agg #[.int .i64 0, .int .i64 0, .bool false, .int .u8 0]) (by kernel_rfl) rfl Try.underlying7 ⟨_, rfl, rfl⟩
theorem ty8 : TyOK Try.prog 8 ⟨.st [(0, 2), (1, 3), (2, 4), (3, 6)], [.int .i64 0, .int .i64 0, .bool false, .int .u8 0], 24⟩ := .mk' (z := .agg #[.int .i64 0, .int .i64 0, .bool false, .int .u8 0]) (by kernel_rfl) rfl Try.underlying8 ⟨_, rfl, rfl⟩
theorem ty9 : TyOK Try.prog 9 ⟨.sc, [.string ByteArray.empty], 16⟩ := .mk' (z := .string ByteArray.empty) (by kernel_rfl) rfl Try.underlying9 trivial
theorem ty10 : TyOK Try.prog 10 ⟨.sc, [.string ByteArray.empty], 16⟩ := .mk' (z := .string ByteArray.empty) (by kernel_rfl) rfl Try.underlying10 trivial
theorem ty11 : TyOK Try.prog 11 ⟨.sc, [.string ByteArray.empty], 16⟩ := .mk' (z := .string ByteArray.empty) (by kernel_rfl) rfl Try.underlying11 trivial
theorem ty12 : TyOK Try.prog 12 ⟨.int .u64, [.int .u64 0], 8⟩ := .mk' (z := .int .u64 0) (by kernel_rfl) rfl Try.underlying12 rfl
theorem ty13 : TyOK Try.prog 13 ⟨.st [(0, 9), (1, 12)], [.string ByteArray.empty, .int .u64 0], 24⟩ := .mk' (z := .agg #[.string ByteArray.empty, .int .u64 0]) (by kernel_rfl) rfl Try.underlying13 ⟨_, rfl, rfl⟩
theorem ty14 : TyOK Try.prog 14 ⟨.st [(0, 9), (1, 12)], [.string ByteArray.empty, .int .u64 0], 24⟩ := .mk' (z := .agg #[.string ByteArray.empty, .int .u64 0]) (by kernel_rfl) rfl Try.underlying14 ⟨_, rfl, rfl⟩
theorem ty15 : TyOK Try.prog 15 ⟨.sc, [.pointer none], 8⟩ := .mk' (z := .pointer none) (by kernel_rfl) rfl Try.underlying15 trivial
theorem ty16 : TyOK Try.prog 16 ⟨.sc, [.pointer none], 8⟩ := .mk' (z := .pointer none) (by kernel_rfl) rfl Try.underlying16 trivial
theorem ty17 : TyOK Try.prog 17 ⟨.sc, [.pointer none], 8⟩ := .mk' (z := .pointer none) (by kernel_rfl) rfl Try.underlying17 trivial
theorem ty18 : TyOK Try.prog 18 ⟨.st [(0, 17)], [.pointer none], 8⟩ := .mk' (z := .agg #[.pointer none]) (by kernel_rfl) rfl Try.underlying18 ⟨_, rfl, rfl⟩
theorem ty19 : TyOK Try.prog 19 ⟨.st [(0, 17)], [.pointer none], 8⟩ := .mk' (z := .agg #[.pointer none]) (by kernel_rfl) rfl Try.underlying19 ⟨_, rfl, rfl⟩
theorem ty21 : TyOK Try.prog 21 ⟨.int .i32, [.int .i32 0], 4⟩ := .mk' (z := .int .i32 0) (by kernel_rfl) rfl Try.underlying21 rfl
theorem ty22 : TyOK Try.prog 22 ⟨.sl 26, [.slice none 0 0], 24⟩ := .mk' (z := .slice none 0 0) (by kernel_rfl) rfl Try.underlying22 rfl
theorem ty23 : TyOK Try.prog 23 ⟨.st [(0, 3), (1, 3), (2, 3)], [.int .i64 0, .int .i64 0, .int .i64 0], 24⟩ := .mk' (z := .agg #[.int .i64 0, .int .i64 0, .int .i64 0]) (by kernel_rfl) rfl Try.underlying23 ⟨_, rfl, rfl⟩
theorem ty24 : TyOK Try.prog 24 ⟨.st [(0, 3), (1, 3), (2, 3)], [.int .i64 0, .int .i64 0, .int .i64 0], 24⟩ := .mk' (z := .agg #[.int .i64 0, .int .i64 0, .int .i64 0]) (by kernel_rfl) rfl Try.underlying24 ⟨_, rfl, rfl⟩
theorem ty25 : TyOK Try.prog 25 ⟨.st [(0, 3), (1, 3)], [.int .i64 0, .int .i64 0], 16⟩ := .mk' (z := .agg #[.int .i64 0, .int .i64 0]) (by kernel_rfl) rfl Try.underlying25 ⟨_, rfl, rfl⟩
theorem ty26 : TyOK Try.prog 26 ⟨.st [(0, 3), (1, 3)], [.int .i64 0, .int .i64 0], 16⟩ := .mk' (z := .agg #[.int .i64 0, .int .i64 0]) (by kernel_rfl) rfl Try.underlying26 ⟨_, rfl, rfl⟩
theorem ty27 : TyOK Try.prog 27 ⟨.sc, [.nilFunc], 8⟩ := .mk' (z := .nilFunc) (by kernel_rfl) rfl Try.underlying27 trivial
theorem ty28 : TyOK Try.prog 28 ⟨.sc, [.nilFunc], 8⟩ := .mk' (z := .nilFunc) (by kernel_rfl) rfl Try.underlying28 trivial
theorem ty29 : TyOK Try.prog 29 ⟨.int .i64, [.int .i64 0], 8⟩ := .mk' (z := .int .i64 0) (by kernel_rfl) rfl Try.underlying29 rfl
theorem ty31 : TyOK Try.prog 31 ⟨.sc, [.nilFunc], 8⟩ := .mk' (z := .nilFunc) (by kernel_rfl) rfl Try.underlying31 trivial
theorem ty33 : TyOK Try.prog 33 ⟨.sc, [.nilFunc], 8⟩ := .mk' (z := .nilFunc) (by kernel_rfl) rfl Try.underlying33 trivial
theorem ty34 : TyOK Try.prog 34 ⟨.sc, [.nilFunc], 8⟩ := .mk' (z := .nilFunc) (by kernel_rfl) rfl Try.underlying34 trivial
theorem ty35 : TyOK Try.prog 35 ⟨.sc, [.nilFunc], 8⟩ := .mk' (z := .nilFunc) (by kernel_rfl) rfl Try.underlying35 trivial
theorem ty36 : TyOK Try.prog 36 ⟨.sc, [.nilFunc], 8⟩ := .mk' (z := .nilFunc) (by kernel_rfl) rfl Try.underlying36 trivial
theorem ty37 : TyOK Try.prog 37 ⟨.sl 22, [.slice none 0 0], 24⟩ := .mk' (z := .slice none 0 0) (by kernel_rfl) rfl Try.underlying37 rfl
theorem ty39 : TyOK Try.prog 39 ⟨.sc, [.nilFunc], 8⟩ := .mk' (z := .nilFunc) (by kernel_rfl) rfl Try.underlying39 trivial
theorem ty40 : TyOK Try.prog 40 ⟨.sc, [.nilFunc], 8⟩ := .mk' (z := .nilFunc) (by kernel_rfl) rfl Try.underlying40 trivial
theorem ty42 : TyOK Try.prog 42 ⟨.sc, [.nilFunc], 8⟩ := .mk' (z := .nilFunc) (by kernel_rfl) rfl Try.underlying42 trivial
theorem ty43 : TyOK Try.prog 43 ⟨.sc, [.nilFunc], 8⟩ := .mk' (z := .nilFunc) (by kernel_rfl) rfl Try.underlying43 trivial
theorem ty44 : TyOK Try.prog 44 ⟨.sc, [.nilFunc], 8⟩ := .mk' (z := .nilFunc) (by kernel_rfl) rfl Try.underlying44 trivial
theorem ty45 : TyOK Try.prog 45 ⟨.sc, [.nilFunc], 8⟩ := .mk' (z := .nilFunc) (by kernel_rfl) rfl Try.underlying45 trivial
theorem ty46 : TyOK Try.prog 46 ⟨.sc, [.nilFunc], 8⟩ := .mk' (z := .nilFunc) (by kernel_rfl) rfl Try.underlying46 trivial
theorem ty47 : TyOK Try.prog 47 ⟨.sc, [.nilFunc], 8⟩ := .mk' (z := .nilFunc) (by kernel_rfl) rfl Try.underlying47 trivial
theorem ty48 : TyOK Try.prog 48 ⟨.sc, [.nilFunc], 8⟩ := .mk' (z := .nilFunc) (by kernel_rfl) rfl Try.underlying48 trivial
theorem ty49 : TyOK Try.prog 49 ⟨.sc, [.nilFunc], 8⟩ := .mk' (z := .nilFunc) (by kernel_rfl) rfl Try.underlying49 trivial
theorem ty50 : TyOK Try.prog 50 ⟨.sc, [.nilFunc], 8⟩ := .mk' (z := .nilFunc) (by kernel_rfl) rfl Try.underlying50 trivial
theorem ty51 : TyOK Try.prog 51 ⟨.sc, [.nilFunc], 8⟩ := .mk' (z := .nilFunc) (by kernel_rfl) rfl Try.underlying51 trivial
theorem ty52 : TyOK Try.prog 52 ⟨.sc, [.nilFunc], 8⟩ := .mk' (z := .nilFunc) (by kernel_rfl) rfl Try.underlying52 trivial
theorem ty53 : TyOK Try.prog 53 ⟨.sc, [.nilFunc], 8⟩ := .mk' (z := .nilFunc) (by kernel_rfl) rfl Try.underlying53 trivial
theorem ty54 : TyOK Try.prog 54 ⟨.sc, [.nilFunc], 8⟩ := .mk' (z := .nilFunc) (by kernel_rfl) rfl Try.underlying54 trivial
theorem ty55 : TyOK Try.prog 55 ⟨.st [(0, 24)], [.int .i64 0, .int .i64 0, .int .i64 0], 24⟩ := .mk' (z := .agg #[.int .i64 0, .int .i64 0, .int .i64 0]) (by kernel_rfl) rfl Try.underlying55 ⟨_, rfl, rfl⟩
theorem ty56 : TyOK Try.prog 56 ⟨.st [(0, 24)], [.int .i64 0, .int .i64 0, .int .i64 0], 24⟩ := .mk' (z := .agg #[.int .i64 0, .int .i64 0, .int .i64 0]) (by kernel_rfl) rfl Try.underlying56 ⟨_, rfl, rfl⟩
theorem ty57 : TyOK Try.prog 57 ⟨.sc, [.nilFunc], 8⟩ := .mk' (z := .nilFunc) (by kernel_rfl) rfl Try.underlying57 trivial
theorem ty58 : TyOK Try.prog 58 ⟨.sc, [.nilFunc], 8⟩ := .mk' (z := .nilFunc) (by kernel_rfl) rfl Try.underlying58 trivial
theorem ty59 : TyOK Try.prog 59 ⟨.sc, [.nilFunc], 8⟩ := .mk' (z := .nilFunc) (by kernel_rfl) rfl Try.underlying59 trivial
theorem ty60 : TyOK Try.prog 60 ⟨.sc, [.nilFunc], 8⟩ := .mk' (z := .nilFunc) (by kernel_rfl) rfl Try.underlying60 trivial
theorem ty62 : TyOK Try.prog 62 ⟨.sc, [.nilFunc], 8⟩ := .mk' (z := .nilFunc) (by kernel_rfl) rfl Try.underlying62 trivial
theorem ty63 : TyOK Try.prog 63 ⟨.sc, [.nilFunc], 8⟩ := .mk' (z := .nilFunc) (by kernel_rfl) rfl Try.underlying63 trivial
theorem ty65 : TyOK Try.prog 65 ⟨.sc, [.nilFunc], 8⟩ := .mk' (z := .nilFunc) (by kernel_rfl) rfl Try.underlying65 trivial
theorem ty66 : TyOK Try.prog 66 ⟨.sc, [.nilFunc], 8⟩ := .mk' (z := .nilFunc) (by kernel_rfl) rfl Try.underlying66 trivial
theorem ty67 : TyOK Try.prog 67 ⟨.sc, [.nilFunc], 8⟩ := .mk' (z := .nilFunc) (by kernel_rfl) rfl Try.underlying67 trivial
theorem ty68 : TyOK Try.prog 68 ⟨.sc, [.nilFunc], 8⟩ := .mk' (z := .nilFunc) (by kernel_rfl) rfl Try.underlying68 trivial
theorem ty69 : TyOK Try.prog 69 ⟨.sc, [.nilFunc], 8⟩ := .mk' (z := .nilFunc) (by kernel_rfl) rfl Try.underlying69 trivial
theorem ty70 : TyOK Try.prog 70 ⟨.sc, [.nilFunc], 8⟩ := .mk' (z := .nilFunc) (by kernel_rfl) rfl Try.underlying70 trivial
theorem ty71 : TyOK Try.prog 71 ⟨.ar 2 3, [.int .i64 0, .int .i64 0], 16⟩ := .mk' (z := .agg #[.int .i64 0, .int .i64 0]) (by kernel_rfl) rfl Try.underlying71 rfl
theorem ty72 : TyOK Try.prog 72 ⟨.sc, [.nilFunc], 8⟩ := .mk' (z := .nilFunc) (by kernel_rfl) rfl Try.underlying72 trivial
theorem ty74 : TyOK Try.prog 74 ⟨.sc, [.nilFunc], 8⟩ := .mk' (z := .nilFunc) (by kernel_rfl) rfl Try.underlying74 trivial
theorem ty75 : TyOK Try.prog 75 ⟨.sc, [.nilFunc], 8⟩ := .mk' (z := .nilFunc) (by kernel_rfl) rfl Try.underlying75 trivial
theorem ty76 : TyOK Try.prog 76 ⟨.sc, [.nilFunc], 8⟩ := .mk' (z := .nilFunc) (by kernel_rfl) rfl Try.underlying76 trivial
theorem ty77 : TyOK Try.prog 77 ⟨.sl 3, [.slice none 0 0], 24⟩ := .mk' (z := .slice none 0 0) (by kernel_rfl) rfl Try.underlying77 rfl
theorem ty78 : TyOK Try.prog 78 ⟨.sc, [.nilFunc], 8⟩ := .mk' (z := .nilFunc) (by kernel_rfl) rfl Try.underlying78 trivial
theorem ty79 : TyOK Try.prog 79 ⟨.sc, [.nilFunc], 8⟩ := .mk' (z := .nilFunc) (by kernel_rfl) rfl Try.underlying79 trivial
theorem ty80 : TyOK Try.prog 80 ⟨.sc, [.nilFunc], 8⟩ := .mk' (z := .nilFunc) (by kernel_rfl) rfl Try.underlying80 trivial
theorem ty81 : TyOK Try.prog 81 ⟨.sc, [.nilFunc], 8⟩ := .mk' (z := .nilFunc) (by kernel_rfl) rfl Try.underlying81 trivial
theorem ty82 : TyOK Try.prog 82 ⟨.sc, [.nilFunc], 8⟩ := .mk' (z := .nilFunc) (by kernel_rfl) rfl Try.underlying82 trivial
theorem ty83 : TyOK Try.prog 83 ⟨.sl 26, [.slice none 0 0], 24⟩ := .mk' (z := .slice none 0 0) (by kernel_rfl) rfl Try.underlying83 rfl
theorem ty84 : TyOK Try.prog 84 ⟨.sc, [.nilFunc], 8⟩ := .mk' (z := .nilFunc) (by kernel_rfl) rfl Try.underlying84 trivial
theorem ty85 : TyOK Try.prog 85 ⟨.sc, [.nilFunc], 8⟩ := .mk' (z := .nilFunc) (by kernel_rfl) rfl Try.underlying85 trivial
theorem ty86 : TyOK Try.prog 86 ⟨.sc, [.nilFunc], 8⟩ := .mk' (z := .nilFunc) (by kernel_rfl) rfl Try.underlying86 trivial
theorem ty87 : TyOK Try.prog 87 ⟨.sc, [.nilFunc], 8⟩ := .mk' (z := .nilFunc) (by kernel_rfl) rfl Try.underlying87 trivial
theorem ty88 : TyOK Try.prog 88 ⟨.sc, [.nilFunc], 8⟩ := .mk' (z := .nilFunc) (by kernel_rfl) rfl Try.underlying88 trivial
theorem ty89 : TyOK Try.prog 89 ⟨.sc, [.nilFunc], 8⟩ := .mk' (z := .nilFunc) (by kernel_rfl) rfl Try.underlying89 trivial
theorem ty90 : TyOK Try.prog 90 ⟨.int .u64, [.int .u64 0], 8⟩ := .mk' (z := .int .u64 0) (by kernel_rfl) rfl Try.underlying90 rfl
theorem ty91 : TyOK Try.prog 91 ⟨.sc, [.pointer none], 8⟩ := .mk' (z := .pointer none) (by kernel_rfl) rfl Try.underlying91 trivial
theorem ty92 : TyOK Try.prog 92 ⟨.sc, [.nilFunc], 8⟩ := .mk' (z := .nilFunc) (by kernel_rfl) rfl Try.underlying92 trivial
theorem ty93 : TyOK Try.prog 93 ⟨.sc, [.nilFunc], 8⟩ := .mk' (z := .nilFunc) (by kernel_rfl) rfl Try.underlying93 trivial
theorem ty94 : TyOK Try.prog 94 ⟨.int .i64, [.int .i64 0], 8⟩ := .mk' (z := .int .i64 0) (by kernel_rfl) rfl Try.underlying94 rfl
theorem ty96 : TyOK Try.prog 96 ⟨.sc, [.nilFunc], 8⟩ := .mk' (z := .nilFunc) (by kernel_rfl) rfl Try.underlying96 trivial
theorem ty97 : TyOK Try.prog 97 ⟨.sc, [.nilFunc], 8⟩ := .mk' (z := .nilFunc) (by kernel_rfl) rfl Try.underlying97 trivial
theorem ty98 : TyOK Try.prog 98 ⟨.sc, [.nilFunc], 8⟩ := .mk' (z := .nilFunc) (by kernel_rfl) rfl Try.underlying98 trivial
theorem ty100 : TyOK Try.prog 100 ⟨.sc, [.nilFunc], 8⟩ := .mk' (z := .nilFunc) (by kernel_rfl) rfl Try.underlying100 trivial
theorem ty101 : TyOK Try.prog 101 ⟨.sc, [.nilFunc], 8⟩ := .mk' (z := .nilFunc) (by kernel_rfl) rfl Try.underlying101 trivial
theorem ty102 : TyOK Try.prog 102 ⟨.int .u32, [.int .u32 0], 4⟩ := .mk' (z := .int .u32 0) (by kernel_rfl) rfl Try.underlying102 rfl
theorem ty103 : TyOK Try.prog 103 ⟨.sc, [.nilFunc], 8⟩ := .mk' (z := .nilFunc) (by kernel_rfl) rfl Try.underlying103 trivial
theorem ty104 : TyOK Try.prog 104 ⟨.int .u64, [.int .u64 0], 8⟩ := .mk' (z := .int .u64 0) (by kernel_rfl) rfl Try.underlying104 rfl
theorem ty105 : TyOK Try.prog 105 ⟨.int .u64, [.int .u64 0], 8⟩ := .mk' (z := .int .u64 0) (by kernel_rfl) rfl Try.underlying105 rfl
theorem ty106 : TyOK Try.prog 106 ⟨.sc, [.nilFunc], 8⟩ := .mk' (z := .nilFunc) (by kernel_rfl) rfl Try.underlying106 trivial
theorem ty107 : TyOK Try.prog 107 ⟨.sc, [.nilFunc], 8⟩ := .mk' (z := .nilFunc) (by kernel_rfl) rfl Try.underlying107 trivial
theorem ty108 : TyOK Try.prog 108 ⟨.sc, [.nilFunc], 8⟩ := .mk' (z := .nilFunc) (by kernel_rfl) rfl Try.underlying108 trivial
theorem ty109 : TyOK Try.prog 109 ⟨.sc, [.pointer none], 8⟩ := .mk' (z := .pointer none) (by kernel_rfl) rfl Try.underlying109 trivial
theorem ty110 : TyOK Try.prog 110 ⟨.sc, [.nilFunc], 8⟩ := .mk' (z := .nilFunc) (by kernel_rfl) rfl Try.underlying110 trivial
theorem ty111 : TyOK Try.prog 111 ⟨.sc, [.pointer none], 8⟩ := .mk' (z := .pointer none) (by kernel_rfl) rfl Try.underlying111 trivial
theorem ty112 : TyOK Try.prog 112 ⟨.sc, [.nilFunc], 8⟩ := .mk' (z := .nilFunc) (by kernel_rfl) rfl Try.underlying112 trivial
theorem ty113 : TyOK Try.prog 113 ⟨.sc, [.nilFunc], 8⟩ := .mk' (z := .nilFunc) (by kernel_rfl) rfl Try.underlying113 trivial
theorem ty114 : TyOK Try.prog 114 ⟨.st [(0, 17), (1, 17), (2, 17), (3, 9)], [.pointer none, .pointer none, .pointer none, .string ByteArray.empty], 40⟩ := .mk' (z := .agg #[.pointer none, .pointer none, .pointer none, .string ByteArray.empty]) (by kernel_rfl) rfl Try.underlying114 ⟨_, rfl, rfl⟩
theorem ty115 : TyOK Try.prog 115 ⟨.st [(0, 17), (1, 17), (2, 17), (3, 9)], [.pointer none, .pointer none, .pointer none, .string ByteArray.empty], 40⟩ := .mk' (z := .agg #[.pointer none, .pointer none, .pointer none, .string ByteArray.empty]) (by kernel_rfl) rfl Try.underlying115 ⟨_, rfl, rfl⟩
theorem ty116 : TyOK Try.prog 116 ⟨.ar 0 16, [], 0⟩ := .mk' (z := .agg #[]) (by kernel_rfl) rfl Try.underlying116 rfl
theorem ty117 : TyOK Try.prog 117 ⟨.st [(0, 116)], [], 0⟩ := .mk' (z := .agg #[]) (by kernel_rfl) rfl Try.underlying117 ⟨_, rfl, rfl⟩
theorem ty118 : TyOK Try.prog 118 ⟨.st [(0, 116)], [], 0⟩ := .mk' (z := .agg #[]) (by kernel_rfl) rfl Try.underlying118 ⟨_, rfl, rfl⟩
theorem ty119 : TyOK Try.prog 119 ⟨.sc, [.nilFunc], 8⟩ := .mk' (z := .nilFunc) (by kernel_rfl) rfl Try.underlying119 trivial
theorem ty120 : TyOK Try.prog 120 ⟨.int .u8, [.int .u8 0], 1⟩ := .mk' (z := .int .u8 0) (by kernel_rfl) rfl Try.underlying120 rfl
theorem ty121 : TyOK Try.prog 121 ⟨.int .u8, [.int .u8 0], 1⟩ := .mk' (z := .int .u8 0) (by kernel_rfl) rfl Try.underlying121 rfl
theorem ty122 : TyOK Try.prog 122 ⟨.sc, [.nilFunc], 8⟩ := .mk' (z := .nilFunc) (by kernel_rfl) rfl Try.underlying122 trivial
theorem ty123 : TyOK Try.prog 123 ⟨.sc, [.pointer none], 8⟩ := .mk' (z := .pointer none) (by kernel_rfl) rfl Try.underlying123 trivial
theorem ty124 : TyOK Try.prog 124 ⟨.int .i32, [.int .i32 0], 4⟩ := .mk' (z := .int .i32 0) (by kernel_rfl) rfl Try.underlying124 rfl
theorem ty125 : TyOK Try.prog 125 ⟨.int .i32, [.int .i32 0], 4⟩ := .mk' (z := .int .i32 0) (by kernel_rfl) rfl Try.underlying125 rfl
theorem ty126 : TyOK Try.prog 126 ⟨.st [(0, 12), (1, 12), (2, 102), (3, 120), (4, 5), (5, 5), (6, 121), (7, 122), (8, 123), (9, 124), (10, 125)], [.int .u64 0, .int .u64 0, .int .u32 0, .int .u8 0, .int .u8 0, .int .u8 0, .int .u8 0, .nilFunc, .pointer none, .int .i32 0, .int .i32 0], 48⟩ := .mk' (z := .agg #[.int .u64 0, .int .u64 0, .int .u32 0, .int .u8 0, .int .u8 0, .int .u8 0, .int .u8 0, .nilFunc, .pointer none, .int .i32 0, .int .i32 0]) (by kernel_rfl) rfl Try.underlying126 ⟨_, rfl, rfl⟩
theorem ty127 : TyOK Try.prog 127 ⟨.st [(0, 12), (1, 12), (2, 102), (3, 120), (4, 5), (5, 5), (6, 121), (7, 122), (8, 123), (9, 124), (10, 125)], [.int .u64 0, .int .u64 0, .int .u32 0, .int .u8 0, .int .u8 0, .int .u8 0, .int .u8 0, .nilFunc, .pointer none, .int .i32 0, .int .i32 0], 48⟩ := .mk' (z := .agg #[.int .u64 0, .int .u64 0, .int .u32 0, .int .u8 0, .int .u8 0, .int .u8 0, .int .u8 0, .nilFunc, .pointer none, .int .i32 0, .int .i32 0]) (by kernel_rfl) rfl Try.underlying127 ⟨_, rfl, rfl⟩
theorem ty128 : TyOK Try.prog 128 ⟨.sc, [.pointer none], 8⟩ := .mk' (z := .pointer none) (by kernel_rfl) rfl Try.underlying128 trivial

def te : List (Nat × TI) := [(1, ⟨.sc, [.nilFunc], 8⟩),
  (2, ⟨.int .i64, [.int .i64 0], 8⟩),
  (3, ⟨.int .i64, [.int .i64 0], 8⟩),
  (4, ⟨.bool, [.bool false], 1⟩),
  (5, ⟨.int .u8, [.int .u8 0], 1⟩),
  (6, ⟨.int .u8, [.int .u8 0], 1⟩),
  (7, ⟨.st [(0, 2), (1, 3), (2, 4), (3, 6)], [.int .i64 0, .int .i64 0, .bool false, .int .u8 0], 24⟩),
  (8, ⟨.st [(0, 2), (1, 3), (2, 4), (3, 6)], [.int .i64 0, .int .i64 0, .bool false, .int .u8 0], 24⟩),
  (9, ⟨.sc, [.string ByteArray.empty], 16⟩),
  (10, ⟨.sc, [.string ByteArray.empty], 16⟩),
  (11, ⟨.sc, [.string ByteArray.empty], 16⟩),
  (12, ⟨.int .u64, [.int .u64 0], 8⟩),
  (13, ⟨.st [(0, 9), (1, 12)], [.string ByteArray.empty, .int .u64 0], 24⟩),
  (14, ⟨.st [(0, 9), (1, 12)], [.string ByteArray.empty, .int .u64 0], 24⟩),
  (15, ⟨.sc, [.pointer none], 8⟩),
  (16, ⟨.sc, [.pointer none], 8⟩),
  (17, ⟨.sc, [.pointer none], 8⟩),
  (18, ⟨.st [(0, 17)], [.pointer none], 8⟩),
  (19, ⟨.st [(0, 17)], [.pointer none], 8⟩),
  (21, ⟨.int .i32, [.int .i32 0], 4⟩),
  (22, ⟨.sl 26, [.slice none 0 0], 24⟩),
  (23, ⟨.st [(0, 3), (1, 3), (2, 3)], [.int .i64 0, .int .i64 0, .int .i64 0], 24⟩),
  (24, ⟨.st [(0, 3), (1, 3), (2, 3)], [.int .i64 0, .int .i64 0, .int .i64 0], 24⟩),
  (25, ⟨.st [(0, 3), (1, 3)], [.int .i64 0, .int .i64 0], 16⟩),
  (26, ⟨.st [(0, 3), (1, 3)], [.int .i64 0, .int .i64 0], 16⟩),
  (27, ⟨.sc, [.nilFunc], 8⟩),
  (28, ⟨.sc, [.nilFunc], 8⟩),
  (29, ⟨.int .i64, [.int .i64 0], 8⟩),
  (31, ⟨.sc, [.nilFunc], 8⟩),
  (33, ⟨.sc, [.nilFunc], 8⟩),
  (34, ⟨.sc, [.nilFunc], 8⟩),
  (35, ⟨.sc, [.nilFunc], 8⟩),
  (36, ⟨.sc, [.nilFunc], 8⟩),
  (37, ⟨.sl 22, [.slice none 0 0], 24⟩),
  (39, ⟨.sc, [.nilFunc], 8⟩),
  (40, ⟨.sc, [.nilFunc], 8⟩),
  (42, ⟨.sc, [.nilFunc], 8⟩),
  (43, ⟨.sc, [.nilFunc], 8⟩),
  (44, ⟨.sc, [.nilFunc], 8⟩),
  (45, ⟨.sc, [.nilFunc], 8⟩),
  (46, ⟨.sc, [.nilFunc], 8⟩),
  (47, ⟨.sc, [.nilFunc], 8⟩),
  (48, ⟨.sc, [.nilFunc], 8⟩),
  (49, ⟨.sc, [.nilFunc], 8⟩),
  (50, ⟨.sc, [.nilFunc], 8⟩),
  (51, ⟨.sc, [.nilFunc], 8⟩),
  (52, ⟨.sc, [.nilFunc], 8⟩),
  (53, ⟨.sc, [.nilFunc], 8⟩),
  (54, ⟨.sc, [.nilFunc], 8⟩),
  (55, ⟨.st [(0, 24)], [.int .i64 0, .int .i64 0, .int .i64 0], 24⟩),
  (56, ⟨.st [(0, 24)], [.int .i64 0, .int .i64 0, .int .i64 0], 24⟩),
  (57, ⟨.sc, [.nilFunc], 8⟩),
  (58, ⟨.sc, [.nilFunc], 8⟩),
  (59, ⟨.sc, [.nilFunc], 8⟩),
  (60, ⟨.sc, [.nilFunc], 8⟩),
  (62, ⟨.sc, [.nilFunc], 8⟩),
  (63, ⟨.sc, [.nilFunc], 8⟩),
  (65, ⟨.sc, [.nilFunc], 8⟩),
  (66, ⟨.sc, [.nilFunc], 8⟩),
  (67, ⟨.sc, [.nilFunc], 8⟩),
  (68, ⟨.sc, [.nilFunc], 8⟩),
  (69, ⟨.sc, [.nilFunc], 8⟩),
  (70, ⟨.sc, [.nilFunc], 8⟩),
  (71, ⟨.ar 2 3, [.int .i64 0, .int .i64 0], 16⟩),
  (72, ⟨.sc, [.nilFunc], 8⟩),
  (74, ⟨.sc, [.nilFunc], 8⟩),
  (75, ⟨.sc, [.nilFunc], 8⟩),
  (76, ⟨.sc, [.nilFunc], 8⟩),
  (77, ⟨.sl 3, [.slice none 0 0], 24⟩),
  (78, ⟨.sc, [.nilFunc], 8⟩),
  (79, ⟨.sc, [.nilFunc], 8⟩),
  (80, ⟨.sc, [.nilFunc], 8⟩),
  (81, ⟨.sc, [.nilFunc], 8⟩),
  (82, ⟨.sc, [.nilFunc], 8⟩),
  (83, ⟨.sl 26, [.slice none 0 0], 24⟩),
  (84, ⟨.sc, [.nilFunc], 8⟩),
  (85, ⟨.sc, [.nilFunc], 8⟩),
  (86, ⟨.sc, [.nilFunc], 8⟩),
  (87, ⟨.sc, [.nilFunc], 8⟩),
  (88, ⟨.sc, [.nilFunc], 8⟩),
  (89, ⟨.sc, [.nilFunc], 8⟩),
  (90, ⟨.int .u64, [.int .u64 0], 8⟩),
  (91, ⟨.sc, [.pointer none], 8⟩),
  (92, ⟨.sc, [.nilFunc], 8⟩),
  (93, ⟨.sc, [.nilFunc], 8⟩),
  (94, ⟨.int .i64, [.int .i64 0], 8⟩),
  (96, ⟨.sc, [.nilFunc], 8⟩),
  (97, ⟨.sc, [.nilFunc], 8⟩),
  (98, ⟨.sc, [.nilFunc], 8⟩),
  (100, ⟨.sc, [.nilFunc], 8⟩),
  (101, ⟨.sc, [.nilFunc], 8⟩),
  (102, ⟨.int .u32, [.int .u32 0], 4⟩),
  (103, ⟨.sc, [.nilFunc], 8⟩),
  (104, ⟨.int .u64, [.int .u64 0], 8⟩),
  (105, ⟨.int .u64, [.int .u64 0], 8⟩),
  (106, ⟨.sc, [.nilFunc], 8⟩),
  (107, ⟨.sc, [.nilFunc], 8⟩),
  (108, ⟨.sc, [.nilFunc], 8⟩),
  (109, ⟨.sc, [.pointer none], 8⟩),
  (110, ⟨.sc, [.nilFunc], 8⟩),
  (111, ⟨.sc, [.pointer none], 8⟩),
  (112, ⟨.sc, [.nilFunc], 8⟩),
  (113, ⟨.sc, [.nilFunc], 8⟩),
  (114, ⟨.st [(0, 17), (1, 17), (2, 17), (3, 9)], [.pointer none, .pointer none, .pointer none, .string ByteArray.empty], 40⟩),
  (115, ⟨.st [(0, 17), (1, 17), (2, 17), (3, 9)], [.pointer none, .pointer none, .pointer none, .string ByteArray.empty], 40⟩),
  (116, ⟨.ar 0 16, [], 0⟩),
  (117, ⟨.st [(0, 116)], [], 0⟩),
  (118, ⟨.st [(0, 116)], [], 0⟩),
  (119, ⟨.sc, [.nilFunc], 8⟩),
  (120, ⟨.int .u8, [.int .u8 0], 1⟩),
  (121, ⟨.int .u8, [.int .u8 0], 1⟩),
  (122, ⟨.sc, [.nilFunc], 8⟩),
  (123, ⟨.sc, [.pointer none], 8⟩),
  (124, ⟨.int .i32, [.int .i32 0], 4⟩),
  (125, ⟨.int .i32, [.int .i32 0], 4⟩),
  (126, ⟨.st [(0, 12), (1, 12), (2, 102), (3, 120), (4, 5), (5, 5), (6, 121), (7, 122), (8, 123), (9, 124), (10, 125)], [.int .u64 0, .int .u64 0, .int .u32 0, .int .u8 0, .int .u8 0, .int .u8 0, .int .u8 0, .nilFunc, .pointer none, .int .i32 0, .int .i32 0], 48⟩),
  (127, ⟨.st [(0, 12), (1, 12), (2, 102), (3, 120), (4, 5), (5, 5), (6, 121), (7, 122), (8, 123), (9, 124), (10, 125)], [.int .u64 0, .int .u64 0, .int .u32 0, .int .u8 0, .int .u8 0, .int .u8 0, .int .u8 0, .nilFunc, .pointer none, .int .i32 0, .int .i32 0], 48⟩),
  (128, ⟨.sc, [.pointer none], 8⟩)]
theorem teOK : TEOK Try.prog te :=
  teOK_cons ty1 (
  teOK_cons ty2 (
  teOK_cons ty3 (
  teOK_cons ty4 (
  teOK_cons ty5 (
  teOK_cons ty6 (
  teOK_cons ty7 (
  teOK_cons ty8 (
  teOK_cons ty9 (
  teOK_cons ty10 (
  teOK_cons ty11 (
  teOK_cons ty12 (
  teOK_cons ty13 (
  teOK_cons ty14 (
  teOK_cons ty15 (
  teOK_cons ty16 (
  teOK_cons ty17 (
  teOK_cons ty18 (
  teOK_cons ty19 (
  teOK_cons ty21 (
  teOK_cons ty22 (
  teOK_cons ty23 (
  teOK_cons ty24 (
  teOK_cons ty25 (
  teOK_cons ty26 (
  teOK_cons ty27 (
  teOK_cons ty28 (
  teOK_cons ty29 (
  teOK_cons ty31 (
  teOK_cons ty33 (
  teOK_cons ty34 (
  teOK_cons ty35 (
  teOK_cons ty36 (
  teOK_cons ty37 (
  teOK_cons ty39 (
  teOK_cons ty40 (
  teOK_cons ty42 (
  teOK_cons ty43 (
  teOK_cons ty44 (
  teOK_cons ty45 (
  teOK_cons ty46 (
  teOK_cons ty47 (
  teOK_cons ty48 (
  teOK_cons ty49 (
  teOK_cons ty50 (
  teOK_cons ty51 (
  teOK_cons ty52 (
  teOK_cons ty53 (
  teOK_cons ty54 (
  teOK_cons ty55 (
  teOK_cons ty56 (
  teOK_cons ty57 (
  teOK_cons ty58 (
  teOK_cons ty59 (
  teOK_cons ty60 (
  teOK_cons ty62 (
  teOK_cons ty63 (
  teOK_cons ty65 (
  teOK_cons ty66 (
  teOK_cons ty67 (
  teOK_cons ty68 (
  teOK_cons ty69 (
  teOK_cons ty70 (
  teOK_cons ty71 (
  teOK_cons ty72 (
  teOK_cons ty74 (
  teOK_cons ty75 (
  teOK_cons ty76 (
  teOK_cons ty77 (
  teOK_cons ty78 (
  teOK_cons ty79 (
  teOK_cons ty80 (
  teOK_cons ty81 (
  teOK_cons ty82 (
  teOK_cons ty83 (
  teOK_cons ty84 (
  teOK_cons ty85 (
  teOK_cons ty86 (
  teOK_cons ty87 (
  teOK_cons ty88 (
  teOK_cons ty89 (
  teOK_cons ty90 (
  teOK_cons ty91 (
  teOK_cons ty92 (
  teOK_cons ty93 (
  teOK_cons ty94 (
  teOK_cons ty96 (
  teOK_cons ty97 (
  teOK_cons ty98 (
  teOK_cons ty100 (
  teOK_cons ty101 (
  teOK_cons ty102 (
  teOK_cons ty103 (
  teOK_cons ty104 (
  teOK_cons ty105 (
  teOK_cons ty106 (
  teOK_cons ty107 (
  teOK_cons ty108 (
  teOK_cons ty109 (
  teOK_cons ty110 (
  teOK_cons ty111 (
  teOK_cons ty112 (
  teOK_cons ty113 (
  teOK_cons ty114 (
  teOK_cons ty115 (
  teOK_cons ty116 (
  teOK_cons ty117 (
  teOK_cons ty118 (
  teOK_cons ty119 (
  teOK_cons ty120 (
  teOK_cons ty121 (
  teOK_cons ty122 (
  teOK_cons ty123 (
  teOK_cons ty124 (
  teOK_cons ty125 (
  teOK_cons ty126 (
  teOK_cons ty127 (
  teOK_cons ty128 (
  teOK_nil))))))))))))))))))))))))))))))))))))))))))))))))))))))))))))))))))))))))))))))))))))))))))))))))))))))))))))))))))))))
theorem eq25 : ∀ (op : BinOp) (x y x' y' : Int) (W : World), (op = .eql ∨ op = .neq) → ∀ (u v : Operand), (do eqGuard op 25 u v (.agg #[.int .i64 x, .int .i64 y]) (.agg #[.int .i64 x', .int .i64 y']); binOp op 25 (.agg #[.int .i64 x, .int .i64 y]) (.agg #[.int .i64 x', .int .i64 y']) : Sem Value).run Try.prog W = .ok (.bool (eqRes op (x == x' && y == y'))) W :=
  eq2_of Try.underlying25 rfl rfl rfl rfl Try.underlying3 Try.underlying3 (by kernel_rfl) (by kernel_rfl)
theorem eq26 : ∀ (op : BinOp) (x y x' y' : Int) (W : World), (op = .eql ∨ op = .neq) → ∀ (u v : Operand), (do eqGuard op 26 u v (.agg #[.int .i64 x, .int .i64 y]) (.agg #[.int .i64 x', .int .i64 y']); binOp op 26 (.agg #[.int .i64 x, .int .i64 y]) (.agg #[.int .i64 x', .int .i64 y']) : Sem Value).run Try.prog W = .ok (.bool (eqRes op (x == x' && y == y'))) W :=
  eq2_of Try.underlying26 rfl rfl rfl rfl Try.underlying3 Try.underlying3 (by kernel_rfl) (by kernel_rfl)
theorem en23 : EqN Try.prog 23 3 := EqN.of (EqT.st Try.underlying23 ty23 rfl (by kernel_rfl) (.cons rfl rfl (EqT.int Try.underlying3) (.cons rfl rfl (EqT.int Try.underlying3) (.cons rfl rfl (EqT.int Try.underlying3) ((.nil _))))) : EqT Try.prog 23 3 2 true) (by decide) (by kernel_rfl)
theorem en24 : EqN Try.prog 24 3 := EqN.of (EqT.st Try.underlying24 ty24 rfl (by kernel_rfl) (.cons rfl rfl (EqT.int Try.underlying3) (.cons rfl rfl (EqT.int Try.underlying3) (.cons rfl rfl (EqT.int Try.underlying3) ((.nil _))))) : EqT Try.prog 24 3 2 true) (by decide) (by kernel_rfl)
theorem en55 : EqN Try.prog 55 3 := EqN.of (EqT.st Try.underlying55 ty55 rfl (by kernel_rfl) (.cons rfl rfl (EqT.st Try.underlying24 ty24 rfl (by kernel_rfl) (.cons rfl rfl (EqT.int Try.underlying3) (.cons rfl rfl (EqT.int Try.underlying3) (.cons rfl rfl (EqT.int Try.underlying3) ((.nil _))))) : EqT Try.prog 24 3 2 true) ((.nil _))) : EqT Try.prog 55 3 3 true) (by decide) (by kernel_rfl)
theorem en56 : EqN Try.prog 56 3 := EqN.of (EqT.st Try.underlying56 ty56 rfl (by kernel_rfl) (.cons rfl rfl (EqT.st Try.underlying24 ty24 rfl (by kernel_rfl) (.cons rfl rfl (EqT.int Try.underlying3) (.cons rfl rfl (EqT.int Try.underlying3) (.cons rfl rfl (EqT.int Try.underlying3) ((.nil _))))) : EqT Try.prog 24 3 2 true) ((.nil _))) : EqT Try.prog 56 3 3 true) (by decide) (by kernel_rfl)
def cx : VX := { te := te, eq2 := [25, 26], eqN := [(23, 3), (24, 3), (55, 3), (56, 3)], inl := false }
theorem cxOK : VXOK Try.prog cx := ⟨fun tn ht => by
  simp only [cx, List.mem_cons, List.not_mem_nil, or_false] at ht
  rcases ht with rfl | rfl | rfl | rfl
  · exact en23
  · exact en24
  · exact en55
  · exact en56,
  teOK, fun t ht => by
  simp only [cx, List.mem_cons, List.not_mem_nil, or_false] at ht
  rcases ht with rfl | rfl
  · exact eq25
  · exact eq26, by kernel_rfl⟩
/-- The same, where a call may be walked where it stands. -/
def cxI : VX := { cx with inl := true }
theorem cxIOK : VXOK Try.prog cxI := ⟨cxOK.eqN, cxOK.te, cxOK.eq2, cxOK.mixed⟩
end Go.Proofs.Ytlihojecopfgfaa

/- The plain law of polygons, cases and alarms: no program in sight. -/
namespace Go.Proofs.Ytlihojecopfgfaa
open Go
abbrev Pt := Int × Int
def cross (ax ay bx by' cx cy : Int) : Int := (bx - ax) * (cy - ay) - (by' - ay) * (cx - ax)
def isC (x : Int) : Prop := -500000 ≤ x ∧ x ≤ 500000
def isCb (x : Int) : Bool := decide (-500000 ≤ x ∧ x ≤ 500000)
def i64r (x : Int) : Prop := -9223372036854775808 ≤ x ∧ x ≤ 9223372036854775807
theorem isCb_iff {x : Int} : isCb x = true ↔ isC x := by simp [isCb, isC]
def cmpI (x y : Int) : Int := if x < y then -1 else if y < x then 1 else 0
def orL : List Int → Int
  | [] => 0
  | x :: r => if x ≠ 0 then x else orL r
theorem orL_drop : ∀ (xs : List Int) (i : Nat), (∀ j, j < i → xs.getD j 0 = 0) → orL (xs.drop i) = orL xs
  | xs, 0, _ => by simp
  | [], i + 1, _ => by simp
  | x :: xs, i + 1, h => by
    have h0 := h 0 (by omega)
    simp at h0
    subst h0
    rw [List.drop_succ_cons, orL_drop xs i (fun j hj => by have := h (j + 1) (by omega); simpa using this)]
    simp [orL]
def cmpP (ax ay bx by' : Int) : Int := if cmpI ax bx ≠ 0 then cmpI ax bx else cmpI ay by'
def gp (ps : List Pt) (i : Nat) : Pt := ps.getD i (0, 0)
def placeB (p : Pt) : Bool := isCb p.1 && isCb p.2
def crossP (a b c : Pt) : Int := cross a.1 a.2 b.1 b.2 c.1 c.2
def cmpPt (a b : Pt) : Int := cmpP a.1 a.2 b.1 b.2
def v1B (ps : List Pt) (i : Nat) : Bool := placeB (gp ps i) && (i == 0 || decide (cmpPt (gp ps 0) (gp ps i) < 0))
def v2B (a b x : Pt) : Bool := x == a || x == b || decide (0 < crossP a b x)
def v3B (ps : List Pt) (i : Nat) : Bool := (List.range ps.length).all fun k => v2B (gp ps i) (gp ps ((i + 1) % ps.length)) (gp ps k)
def validB (ps : List Pt) : Bool := decide (1 ≤ ps.length) && decide (ps.length ≤ 64) && (List.range ps.length).all (v1B ps) && (decide (ps.length < 3) || (List.range ps.length).all (v3B ps))
def i64P (ps : List Pt) : Prop := ∀ i, i < ps.length → i64r (gp ps i).1 ∧ i64r (gp ps i).2
theorem all_false {n : Nat} {f : Nat → Bool} {i : Nat} (hi : i < n) (h : f i = false) : (List.range n).all f = false := by
  cases hb : (List.range n).all f with
  | false => rfl
  | true => have := List.all_eq_true.1 hb i (List.mem_range.2 hi); rw [h] at this; cases this
theorem all_true {n : Nat} {f : Nat → Bool} (h : ∀ i, i < n → f i = true) : (List.range n).all f = true := List.all_eq_true.2 fun i hi => h i (List.mem_range.1 hi)
theorem all_iff {n : Nat} {f : Nat → Bool} : (List.range n).all f = true ↔ ∀ i, i < n → f i = true := ⟨fun h i hi => List.all_eq_true.1 h i (List.mem_range.2 hi), all_true⟩

/- The reference's law of polygons. -/
def lessB (a b : Pt) : Bool := decide (a.1 < b.1) || (a.1 == b.1 && decide (a.2 < b.2))
theorem lessB_iff (a b : Pt) : lessB a b = decide (cmpPt a b < 0) := by
  obtain ⟨a1, a2⟩ := a
  obtain ⟨b1, b2⟩ := b
  rw [Bool.eq_iff_iff]
  simp only [lessB, cmpPt, cmpP, cmpI, Bool.or_eq_true, Bool.and_eq_true, decide_eq_true_eq, beq_iff_eq]
  repeat' split
  all_goals omega
def r3B (ps : List Pt) (i k : Nat) : Bool := k == i || k == (i + 1) % ps.length || decide (0 < crossP (gp ps i) (gp ps ((i + 1) % ps.length)) (gp ps k))
def validR (ps : List Pt) : Bool := decide (1 ≤ ps.length) && decide (ps.length ≤ 64) && (List.range ps.length).all (fun i => placeB (gp ps i)) && (List.range ps.length).all (fun i => i == 0 || lessB (gp ps 0) (gp ps i)) && (decide (ps.length < 3) || (List.range ps.length).all fun i => (List.range ps.length).all (r3B ps i))

theorem crossP_self (a c : Pt) : crossP a a c = 0 := by simp [crossP, cross]
theorem crossP_swap (a b c : Pt) : crossP a c b = - crossP a b c := by
  simp only [crossP, cross]
  rw [Int.mul_comm (c.1 - a.1), Int.mul_comm (c.2 - a.2)]
  omega
theorem lt_ne {a b : Pt} (h : cmpPt a b < 0) : b ≠ a := by
  intro e; subst e
  simp [cmpPt, cmpP, cmpI] at h
/-- The corners of a polygon differ. -/
theorem corners_ne {n : Nat} {g : Nat → Pt} (h0 : ∀ i, 0 < i → i < n → g i ≠ g 0)
    (hB : ∀ i, i < n → ∀ k, k < n → g k = g i ∨ g k = g ((i + 1) % n) ∨ 0 < crossP (g i) (g ((i + 1) % n)) (g k)) :
    ∀ a b, a < b → b < n → g a ≠ g b := by
  have hz : ∀ i, 0 < i → i < n → g ((i + 1) % n) ≠ g i := by
    intro i hi hn e
    have := hB i hn 0 (by omega)
    rw [e, crossP_self] at this
    rcases this with h | h | h
    · exact h0 i hi hn h.symm
    · exact h0 i hi hn h.symm
    · omega
  have step : ∀ i j, 0 < i → i < j → j < n → g i = g j → g (i + 1) = g ((j + 1) % n) := by
    intro i j hi hij hj e
    have hsi : (i + 1) % n = i + 1 := Nat.mod_eq_of_lt (by omega)
    have b1 := hB i (by omega) ((j + 1) % n) (Nat.mod_lt _ (by omega))
    have b2 := hB j hj (i + 1) (by omega)
    have z1 := hz i hi (by omega)
    have z2 := hz j (by omega) hj
    rw [hsi] at b1 z1
    rw [← e] at b2 z2
    rcases b1 with b1 | b1 | b1
    · exact absurd b1 z2
    · exact b1.symm
    rcases b2 with b2 | b2 | b2
    · exact absurd b2 z1
    · exact b2
    · rw [crossP_swap] at b2; omega
  intro a b hab hb e
  by_cases ha : a = 0
  · subst ha; exact h0 b hab hb e.symm
  have run : ∀ d, b + d < n → g (a + d) = g (b + d) := by
    intro d
    induction d with
    | zero => intro _; exact e
    | succ d ih =>
      intro h
      have := step (a + d) (b + d) (by omega) (by omega) (by omega) (ih (by omega))
      rw [Nat.mod_eq_of_lt (by omega)] at this
      exact this
  have hlast := step (a + (n - 1 - b)) (b + (n - 1 - b)) (by omega) (by omega) (by omega) (run _ (by omega))
  rw [show (b + (n - 1 - b) + 1) % n = 0 by rw [show b + (n - 1 - b) + 1 = n by omega]; exact Nat.mod_self n] at hlast
  exact h0 _ (by omega) (by omega) hlast

theorem validR_eq (ps : List Pt) : validR ps = validB ps := by
  rw [Bool.eq_iff_iff]
  simp only [validR, validB, Bool.and_eq_true, Bool.or_eq_true, decide_eq_true_eq, all_iff, v1B, v3B, v2B, r3B, lessB_iff, beq_iff_eq]
  constructor
  · rintro ⟨⟨⟨h1, h2⟩, h3⟩, h4⟩
    refine ⟨⟨h1, fun i hi => ⟨h2 i hi, h3 i hi⟩⟩, ?_⟩
    rcases h4 with h4 | h4
    · exact .inl h4
    · refine .inr fun i hi k hk => ?_
      rcases h4 i hi k hk with (h | h) | h
      · exact .inl (.inl (by rw [h]))
      · exact .inl (.inr (by rw [h]))
      · exact .inr h
  · rintro ⟨⟨h1, h2⟩, h4⟩
    refine ⟨⟨⟨h1, fun i hi => (h2 i hi).1⟩, fun i hi => (h2 i hi).2⟩, ?_⟩
    rcases h4 with h4 | h4
    · exact .inl h4
    · refine .inr fun i hi k hk => ?_
      have hne := corners_ne (n := ps.length) (g := gp ps) (fun i hi0 hi => lt_ne (by rcases (h2 i hi).2 with h | h; omega; exact h))
        (fun i hi k hk => by rcases h4 i hi k hk with (h | h) | h; exact .inl h; exact .inr (.inl h); exact .inr (.inr h))
      have inj : ∀ a b, a < ps.length → b < ps.length → gp ps a = gp ps b → a = b := by
        intro a b ha hb e
        rcases Nat.lt_trichotomy a b with h | h | h
        · exact absurd e (hne a b h hb)
        · exact h
        · exact absurd e.symm (hne b a h ha)
      rcases h4 i hi k hk with (h | h) | h
      · exact .inl (.inl (inj _ _ hk hi h))
      · exact .inl (.inr (inj _ _ hk (Nat.mod_lt _ (by omega)) h))
      · exact .inr h

/- Has, within. -/
def betwB (a b x : Pt) : Bool := decide (min a.1 b.1 ≤ x.1 ∧ x.1 ≤ max a.1 b.1 ∧ min a.2 b.2 ≤ x.2 ∧ x.2 ≤ max a.2 b.2)
def sideB (ps : List Pt) (x : Pt) (i : Nat) : Bool := decide (0 ≤ crossP (gp ps i) (gp ps ((i + 1) % ps.length)) x)
def hasB (ps : List Pt) (x : Pt) : Bool :=
  if ps.length = 1 then gp ps 0 == x
  else if ps.length = 2 then decide (crossP (gp ps 0) (gp ps 1) x = 0) && betwB (gp ps 0) (gp ps 1) x
  else (List.range ps.length).all (sideB ps x)
def withinB (p q : List Pt) : Bool := p.all (hasB q)
theorem filter_len {α : Type} (f : α → Bool) : ∀ l : List α, decide ((l.filter f).length = l.length) = l.all f
  | [] => rfl
  | x :: l => by
    have ih := filter_len f l
    have := List.length_filter_le f l
    by_cases h : f x = true
    · rw [List.filter_cons_of_pos h, List.all_cons, h, ← ih]; simp
    · rw [List.filter_cons_of_neg h, List.all_cons]
      simp only [Bool.not_eq_true] at h
      rw [h]
      simp only [Bool.false_and, decide_eq_false_iff_not, List.length_cons]
      omega

/- Cases. -/
structure CaseS where
  sn : List Int
  cl : List Int
  st : List (List Pt)
structure BelS where
  t : Int
  cs : List CaseS
def gi (l : List Int) (i : Nat) : Int := l.getD i 0
def rise1 (lo hi : Int) (l : List Int) (i : Nat) : Bool := decide (lo ≤ gi l i ∧ gi l i ≤ hi) && (i == 0 || decide (gi l (i - 1) < gi l i))
def risingB (lo hi : Int) (l : List Int) : Bool := (List.range l.length).all (rise1 lo hi l)
def regionB (r : List (List Pt)) : Bool := decide (r.length ≤ 32) && r.all validB
/-- Where two lists differ first: the comparison of the elements. -/
def lexB : List Int → List Int → Int
  | x :: a, y :: b => if cmpI x y ≠ 0 then cmpI x y else lexB a b
  | [], [] => 0
  | [], _ :: _ => -1
  | _ :: _, [] => 1
def listsC (a b : List Int) : Int := if cmpI a.length b.length ≠ 0 then cmpI a.length b.length else lexB a b
def caseC (a b : CaseS) : Int := if listsC a.sn b.sn ≠ 0 then listsC a.sn b.sn else listsC a.cl b.cl
/-- The reference's comparison. -/
def diffB : List Int → List Int → Int
  | x :: a, y :: b => if x ≠ y then x - y else diffB a b
  | _, _ => 0
def listsR (a b : List Int) : Int := if a.length ≠ b.length then (a.length : Int) - b.length else diffB a b
def caseR (a b : CaseS) : Int := if listsR a.sn b.sn ≠ 0 then listsR a.sn b.sn else listsR a.cl b.cl
theorem cmpI_sgn (x y : Int) : (cmpI x y < 0 ↔ x < y) ∧ (cmpI x y = 0 ↔ x = y) := by
  unfold cmpI
  repeat' split
  all_goals omega
theorem diff_sgn : ∀ a b : List Int, a.length = b.length → (diffB a b < 0 ↔ lexB a b < 0) ∧ (diffB a b = 0 ↔ lexB a b = 0)
  | [], [], _ => by simp [diffB, lexB]
  | [], _ :: _, h => by simp at h
  | _ :: _, [], h => by simp at h
  | x :: a, y :: b, h => by
    have ih := diff_sgn a b (by simpa using h)
    have hs := cmpI_sgn x y
    simp only [diffB, lexB]
    by_cases e : x = y
    · simp [e, (cmpI_sgn y y).2]; exact ih
    · have h0 : cmpI x y ≠ 0 := fun h => e (hs.2.1 h)
      rw [if_pos e, if_pos h0]
      exact ⟨by omega, ⟨fun h => absurd (by omega) e, fun h => absurd h h0⟩⟩
theorem listsR_sgn (a b : List Int) : (listsR a b < 0 ↔ listsC a b < 0) ∧ (listsR a b = 0 ↔ listsC a b = 0) := by
  have hs := cmpI_sgn a.length b.length
  unfold listsR listsC
  by_cases e : a.length = b.length
  · have : cmpI (a.length : Int) b.length = 0 := hs.2.2 (by omega)
    simp [e, (cmpI_sgn (b.length : Int) b.length).2]
    exact diff_sgn a b e
  · have h0 : cmpI (a.length : Int) b.length ≠ 0 := fun h => e (by have := hs.2.1 h; omega)
    rw [if_pos e, if_pos h0]
    exact ⟨by omega, ⟨fun h => absurd (by omega) e, fun h => absurd h h0⟩⟩
theorem caseR_sgn (a b : CaseS) : (caseR a b < 0 ↔ caseC a b < 0) ∧ (caseR a b = 0 ↔ caseC a b = 0) := by
  have h1 := listsR_sgn a.sn b.sn
  have h2 := listsR_sgn a.cl b.cl
  unfold caseR caseC
  by_cases e : listsC a.sn b.sn = 0
  · simp [e, h1.2.2 e, h2]
  · have : listsR a.sn b.sn ≠ 0 := fun h => e (h1.2.1 h)
    simp [e, this, h1]
def case1 (c : CaseS) : Bool := decide (c.st ≠ []) && regionB c.st && risingB 1 8 c.sn && risingB 0 3999 c.cl
def gc (cs : List CaseS) (i : Nat) : CaseS := cs.getD i ⟨[], [], []⟩
def caseV (cs : List CaseS) (i : Nat) : Bool := case1 (gc cs i) && (i == 0 || decide (caseC (gc cs (i - 1)) (gc cs i) < 0))
def casesB (cs : List CaseS) : Bool := decide (cs.length ≤ 200) && (List.range cs.length).all (caseV cs)
def leftB (cs : List CaseS) (q : List Pt) : Bool := cs.any fun c => c.st.any fun p => !withinB p q
def kindB (cs : List CaseS) (q : List Pt) : Int := if cs = [] then 1 else if leftB cs q = true then 2 else 0
def raiseB (cs : List CaseS) (q : List Pt) : Int × Int := if casesB cs && validB q then (kindB cs q, 0) else (0, 1)
def gb (bs : List BelS) (i : Nat) : BelS := bs.getD i ⟨0, []⟩
def lastT (bs : List BelS) : Nat → Int
  | 0 => 0
  | i + 1 => (gb bs i).t
def belV (bs : List BelS) (i : Nat) : Bool := decide (lastT bs i ≤ (gb bs i).t ∧ (gb bs i).t ≤ 1000000000) && casesB (gb bs i).cs
def belB (bs : List BelS) : Bool := (List.range bs.length).all (belV bs)
/-- The first alarm. -/
def fstB (q : List Pt) : List BelS → Int × Int
  | [] => (0, 0)
  | b :: bs => if kindB b.cs q ≠ 0 then (0, kindB b.cs q) else ((fstB q bs).1 + 1, (fstB q bs).2)
theorem fst_drop (q : List Pt) : ∀ (bs : List BelS) (i : Nat), i ≤ bs.length → (∀ j, j < i → kindB (gb bs j).cs q = 0) → fstB q bs = ((fstB q (bs.drop i)).1 + i, (fstB q (bs.drop i)).2)
  | _, 0, _, _ => by simp
  | [], i + 1, h, _ => by simp at h
  | b :: bs, i + 1, h, hk => by
    have h0 : kindB b.cs q = 0 := by have := hk 0 (by omega); simpa [gb] using this
    rw [List.drop_succ_cons, fstB, if_neg (fun h => h h0), fst_drop q bs i (by simpa using h) (fun j hj => by have := hk (j + 1) (by omega); simpa [gb] using this)]
    refine Prod.ext ?_ rfl
    show _ + _ + 1 = _ + ((i + 1 : Nat) : Int)
    omega
theorem fst_here {q : List Pt} {bs : List BelS} {i : Nat} (hi : i < bs.length) (hk : ∀ j, j < i → kindB (gb bs j).cs q = 0) (h : kindB (gb bs i).cs q ≠ 0) : fstB q bs = ((i : Int), kindB (gb bs i).cs q) := by
  rw [fst_drop q bs i (by omega) hk, List.drop_eq_getElem_cons hi]
  have e : bs[i] = gb bs i := by simp [gb, hi]
  rw [e, fstB, if_pos h]; simp
theorem fst_none {q : List Pt} {bs : List BelS} (hk : ∀ j, j < bs.length → kindB (gb bs j).cs q = 0) : fstB q bs = ((bs.length : Int), 0) := by
  rw [fst_drop q bs bs.length (Nat.le_refl _) hk, List.drop_length]; simp [fstB]
def firstB (bs : List BelS) (q : List Pt) : Int × Int × Int :=
  if 2001 < bs.length then (0, 0, 2) else if belB bs && validB q then ((fstB q bs).1, (fstB q bs).2, 0) else (0, 0, 1)
end Go.Proofs.Ytlihojecopfgfaa

/- Contracts of the leaf functions of hull and of the reference: part a. -/
namespace Go.Proofs.Ytlihojecopfgfaa
open Go Go.V Go.RowKit
def pt (x y : Int) : Value := .agg #[.int .i64 x, .int .i64 y]
theorem mul_bd {a b : Int} (M N : Int) (h1 : -M ≤ a) (h2 : a ≤ M) (h3 : -N ≤ b) (h4 : b ≤ N) (hM : 0 ≤ M) (hN : 0 ≤ N) : -(M * N) ≤ a * b ∧ a * b ≤ M * N := by
  have key : ∀ {a b : Int}, -M ≤ a → a ≤ M → -N ≤ b → b ≤ N → a * b ≤ M * N := by
    intro a b h1 h2 h3 h4
    by_cases ha : 0 ≤ a
    · by_cases hb : 0 ≤ b
      · exact Int.mul_le_mul h2 h4 hb hM
      · have : a * b ≤ 0 := Int.mul_nonpos_of_nonneg_of_nonpos ha (by omega)
        have := Int.mul_nonneg hM hN
        omega
    · by_cases hb : 0 ≤ b
      · have : a * b ≤ 0 := Int.mul_nonpos_of_nonpos_of_nonneg (by omega) hb
        have := Int.mul_nonneg hM hN
        omega
      · have := Int.mul_le_mul (a := -a) (b := -b) (c := M) (d := N) (by omega) (by omega) (by omega) hM
        rw [Int.neg_mul_neg] at this
        exact this
  have e1 := key h1 h2 h3 h4
  have e2 := key (a := -a) (b := b) (by omega) (by omega) h3 h4
  rw [Int.neg_mul] at e2
  omega
theorem bd12 {a b : Int} (h1 : -1000000 ≤ a) (h2 : a ≤ 1000000) (h3 : -1000000 ≤ b) (h4 : b ≤ 1000000) : -1000000000000 ≤ a * b ∧ a * b ≤ 1000000000000 := by
  have := mul_bd 1000000 1000000 h1 h2 h3 h4 (by omega) (by omega)
  omega

theorem turn_fn (ax ay bx by' cx' cy : Int) (M : Mem) (h1 : isC ax) (h2 : isC ay) (h3 : isC bx) (h4 : isC by') (h5 : isC cx') (h6 : isC cy) :
    FnP Try.prog 26 [pt ax ay, pt bx by', pt cx' cy] M [.int .i64 (cross ax ay bx by' cx' cy)] := by
  unfold isC at *
  have p1 := bd12 (a := bx - ax) (b := cy - ay) (by omega) (by omega) (by omega) (by omega)
  have p2 := bd12 (a := by' - ay) (b := cx' - ax) (by omega) (by omega) (by omega) (by omega)
  refine Fn.of_vc cxOK Try.func26 rfl rfl rfl ?_
  repeat (first | refine VIf.tt ?_ | refine VIf.ff ?_)
  refine VArith.ok (by omega) (by omega) ?_
  repeat (first | refine VIf.tt ?_ | refine VIf.ff ?_)
  refine VArith.ok (by omega) (by omega) ?_
  repeat (first | refine VIf.tt ?_ | refine VIf.ff ?_)
  refine VArith.ok (by omega) (by omega) ?_
  repeat (first | refine VIf.tt ?_ | refine VIf.ff ?_)
  refine VArith.ok (by omega) (by omega) ?_
  repeat (first | refine VIf.tt ?_ | refine VIf.ff ?_)
  refine VArith.ok (by omega) (by omega) ?_
  repeat (first | refine VIf.tt ?_ | refine VIf.ff ?_)
  refine VArith.ok (by omega) (by omega) ?_
  repeat (first | refine VIf.tt ?_ | refine VIf.ff ?_)
  refine VArith.ok (by omega) (by omega) ?_
  repeat (first | refine VIf.tt ?_ | refine VIf.ff ?_)
  exact VFact.mk ⟨rfl, rfl⟩ trivial
end Go.Proofs.Ytlihojecopfgfaa

/- Data in memory; the iterator over the sides. -/
namespace Go.Proofs.Ytlihojecopfgfaa
open Go Go.V Go.RowKit
def cellsP (ps : List Pt) : List Value := ps.flatMap fun p => [.int .i64 p.1, .int .i64 p.2]
def Pts (M : Mem) (v : Value) (ps : List Pt) : Prop := SlAt M 2 v ps.length (cellsP ps)
def ptv (p : Pt) : Value := pt p.1 p.2
def sidesL (ps : List Pt) : List (List Value) := (List.range ps.length).map fun i => [ptv (ps.getD i (0,0)), ptv (ps.getD ((i + 1) % ps.length) (0,0))]
theorem cellsP_get : ∀ (ps : List Pt) (i : Nat), i < ps.length → (cellsP ps)[2 * i]? = some (.int .i64 (ps.getD i (0,0)).1) ∧ (cellsP ps)[2 * i + 1]? = some (.int .i64 (ps.getD i (0,0)).2)
  | [], i, h => by cases h
  | p :: ps, 0, _ => ⟨rfl, rfl⟩
  | p :: ps, i + 1, h => by
    have := cellsP_get ps i (by simpa using h)
    have e1 : 2 * (i + 1) = 2 * i + 1 + 1 := by omega
    rw [e1]
    simpa [cellsP] using this
theorem box1 {M : Mem} {B : Nat} {v : Value} {t : TypeId} (h : M B = some (.cells #[v] t (0, 0))) : M.cell ⟨B, 0, none⟩ = some v := by
  simp [Mem.cell, h]

theorem sides_iter (M : Mem) (B : Nat) (v : Value) (ps : List Pt) (hB : M B = some (.cells #[v] 22 (0, 0))) (hv : Pts M v ps) :
    Iter Try.prog 47 #[.pointer (some ⟨B, 0, none⟩)] M (sidesL ps) := by
  obtain ⟨ad, c, rfl, hc, hm, hl, h1, hcell⟩ := hv
  refine Iter.of_vc cxOK Try.func47 rfl rfl rfl rfl fun l => ?_
  repeat (first | refine VIf.tt ?_ | refine VIf.ff ?_)
  refine VRead.mk _ (box1 hB) ?_
  repeat (first | refine VIf.tt ?_ | refine VIf.ff ?_)
  refine VCode.loopG cxOK (fun m => m = fun _ => none) rfl Nat
    (fun i => ⟨[(0, .v (.func (.yield l) #[] #[])), (1, .v (.pointer (some ⟨B, 0, none⟩))), (5, .v (.slice ad ps.length c)), (6, .v (.int .i64 ps.length)), (7, .v (.int .i64 i))], [], 0, M, 25, ⟨fun _ => none, some (l, (sidesL ps).drop i), fun _ => none⟩⟩)
    (fun i => i ≤ ps.length) (fun i => ps.length - i) 0 (Nat.zero_le _) ?_ ?_
  · exact Wk.mk' id ⟨⟨rfl, rfl⟩, ⟨rfl, rfl⟩, ⟨rfl, rfl⟩, ⟨rfl, rfl⟩, ⟨rfl, rfl⟩, trivial⟩ trivial trivial rfl rfl rfl
  rintro i hi m rfl
  repeat (first | refine VIf.tt ?_ | refine VIf.ff ?_)
  refine VIf.mk (fun hlt => ?_) (fun hge => ?_)
  · have hlt : i < ps.length := by simpa using hlt
    obtain ⟨ad', rfl, hrd⟩ := hcell (by omega)
    have hpt : ∀ k, k < ps.length → ∀ j v, [Value.int .i64 (ps.getD k (0,0)).1, .int .i64 (ps.getD k (0,0)).2][j]? = some v → M.cell ((ad'.add (k * 2)).add j) = some v := by
      intro k hk j v hj
      obtain ⟨g1, g2⟩ := cellsP_get ps k hk
      rw [show (ad'.add (k * 2)).add j = ad'.add (2 * k + j) by rw [Addr.add_add]; congr 1; omega]
      refine hrd _ _ ?_
      match j, hj with
      | 0, hj => rw [← hj]; exact g1
      | 1, hj => rw [← hj]; exact g2
      | j + 2, hj => simp at hj
    repeat (first | refine VIf.tt ?_ | refine VIf.ff ?_)
    refine VIdx.mk ad' i rfl rfl hlt ?_
    repeat (first | refine VIf.tt ?_ | refine VIf.ff ?_)
    refine VReads.mk [.int .i64 (ps.getD i (0,0)).1, .int .i64 (ps.getD i (0,0)).2] rfl (hpt i hlt) ?_
    repeat (first | refine VIf.tt ?_ | refine VIf.ff ?_)
    refine VDraw.go (by kernel_rfl) ?_
    have hmod : (i + 1) % ps.length < ps.length := Nat.mod_lt _ (by omega)
    repeat (first | refine VIf.tt ?_ | refine VIf.ff ?_)
    refine VRead.mk _ (box1 hB) ?_
    conv => whnf
    repeat (first | refine VIf.tt ?_ | refine VIf.ff ?_)
    refine VArith.ok (by omega) (by unfold maxLen at hm; omega) ?_
    repeat (first | refine VIf.tt ?_ | refine VIf.ff ?_)
    refine VRead.mk _ (box1 hB) ?_
    conv => whnf
    repeat (first | refine VIf.tt ?_ | refine VIf.ff ?_)
    refine VDiv.mk (by omega) ?_
    repeat (first | refine VIf.tt ?_ | refine VIf.ff ?_)
    refine VIdx.mk ad' ((i + 1) % ps.length) rfl ?_ hmod ?_
    · rw [Int.tmod_eq_emod_of_nonneg (by omega)]; simp
    repeat (first | refine VIf.tt ?_ | refine VIf.ff ?_)
    refine VReads.mk [.int .i64 (ps.getD ((i + 1) % ps.length) (0,0)).1, .int .i64 (ps.getD ((i + 1) % ps.length) (0,0)).2] rfl (hpt _ hmod) ?_
    repeat (first | refine VIf.tt ?_ | refine VIf.ff ?_)
    refine VYield.mk ((sidesL ps).drop (i + 1)) ?_ ?_ ?_
    · simp only [Gh.mk.injEq, and_true, true_and, Option.some.injEq, Prod.mk.injEq]
      rw [List.drop_eq_getElem_cons (by simpa [sidesL] using hlt)]
      simp [sidesL, ptv, pt]
    · refine VIf.ff ?_
      repeat (first | refine VIf.tt ?_ | refine VIf.ff ?_)
      refine VArith.ok (by omega) (by unfold maxLen at hm; omega) ?_
      exact ⟨rfl, i + 1, hlt, by omega, Wk.mk' id ⟨⟨rfl, rfl⟩, ⟨rfl, rfl⟩, ⟨rfl, rfl⟩, ⟨rfl, rfl⟩, ⟨rfl, rfl⟩, trivial⟩ trivial trivial rfl rfl rfl⟩
    · refine VIf.tt ?_
      exact VEnd.stop rfl
  · have hge : i = ps.length := by
      have : ¬ ((i : Int) < (ps.length : Int)) := by simpa using hge
      omega
    subst hge
    exact VEnd.all (by simp [sidesL])
end Go.Proofs.Ytlihojecopfgfaa

/- Contracts: places, comparisons. -/
namespace Go.Proofs.Ytlihojecopfgfaa
open Go Go.V Go.RowKit
theorem bool1 {a b : Bool} (h : a = true ↔ b = true) : [Value.bool a] = [.bool b] := by
  cases a <;> cases b <;> simp_all
theorem isPlace_fn (x y : Int) (M : Mem) (hx : i64r x) (hy : i64r y) : FnP Try.prog 25 [pt x y] M [.bool (isCb x && isCb y)] := by
  unfold i64r at *
  have wmin : IntKind.wrap .i64 (- -9223372036854775808) = -9223372036854775808 := by decide
  refine Fn.of_vc cxOK Try.func25 rfl rfl rfl ?_
  have neg : ∀ (z : Int) (K : Int → Prop), -9223372036854775808 ≤ z → z ≤ 9223372036854775807 → (z ≠ -9223372036854775808 → K (-z)) → (z = -9223372036854775808 → K (-9223372036854775808)) → VArith (-9223372036854775808) 9223372036854775807 .i64 (-z) K := by
    intro z K h1 h2 h3 h4
    by_cases hz : z = -9223372036854775808
    · repeat (first | refine VIf.tt ?_ | refine VIf.ff ?_)
      refine VArith.wr ?_
      rw [hz, wmin]; exact h4 hz
    · repeat (first | refine VIf.tt ?_ | refine VIf.ff ?_)
      exact VArith.ok (by omega) (by omega) (h3 hz)
  repeat' (first | refine neg _ _ (by omega) (by omega) (fun _ => ?_) (fun _ => ?_) | refine VIf.tt ?_ | refine VIf.ff ?_ | refine VIf.mk (fun _ => ?_) (fun _ => ?_) | refine VFact.mk ?_ trivial)
  all_goals (refine ⟨bool1 ?_, rfl⟩; simp only [isCb, Bool.and_eq_true, decide_eq_true_eq, decide_eq_false_iff_not, Bool.false_eq_true, false_iff] at *; simp only [List.foldl] at *; omega)

theorem isNaN_fn (x : Int) (M : Mem) : FnP Try.prog 56 [.int .i64 x] M [.bool false] := by
  refine Fn.of_vc cxOK Try.func56 rfl rfl rfl ?_
  repeat (first | refine VIf.tt ?_ | refine VIf.ff ?_)
  refine VFact.mk ⟨?_, rfl⟩ trivial
  simp
theorem Compare_fn (x y : Int) (M : Mem) : FnP Try.prog 41 [.int .i64 x, .int .i64 y] M [.int .i64 (cmpI x y)] := by
  refine Fn.of_vc cxOK Try.func41 rfl rfl rfl ?_
  repeat' (first | refine VFn.p (isNaN_fn _ _) ?_ | refine VIf.tt ?_ | refine VIf.ff ?_ | refine VIf.mk (fun _ => ?_) (fun _ => ?_) | refine VFact.mk ?_ trivial)
  all_goals (refine ⟨?_, rfl⟩; simp_all [cmpI] <;> omega)
end Go.Proofs.Ytlihojecopfgfaa

/- Contracts: cmp.Or, hull.compare, hull.sides. -/
namespace Go.Proofs.Ytlihojecopfgfaa
open Go Go.V Go.RowKit
def Ints (M : Mem) (v : Value) (xs : List Int) : Prop := SlAt M 1 v xs.length (xs.map (Value.int .i64))

theorem Or_fn (v : Value) (xs : List Int) (M : Mem) (hv : Ints M v xs) : FnP Try.prog 40 [v] M [.int .i64 (orL xs)] := by
  obtain ⟨ad, c, rfl, hc, hm, hl, h1, hcell⟩ := hv
  refine Fn.of_vc cxOK Try.func40 rfl rfl rfl ?_
  repeat (first | refine VIf.tt ?_ | refine VIf.ff ?_)
  refine VCode.loop cxOK Nat
    (fun i => ⟨[(3, .v (.int .i64 0)), (6, .v (.slice ad xs.length c)), (7, .v (.int .i64 xs.length)), (8, .v (.int .i64 i))], [], 0, M, 18, ⟨fun _ => none, none, fun _ => none⟩⟩)
    (fun i => i ≤ xs.length ∧ ∀ j, j < i → xs.getD j 0 = 0) (fun i => xs.length - i) 0 ⟨Nat.zero_le _, fun j hj => by omega⟩ ?_ ?_
  · exact Wk.mk' id ⟨⟨rfl, rfl⟩, ⟨rfl, rfl⟩, ⟨rfl, rfl⟩, ⟨rfl, rfl⟩, trivial⟩ trivial trivial rfl rfl rfl
  rintro i ⟨hi, hz⟩ m
  repeat (first | refine VIf.tt ?_ | refine VIf.ff ?_)
  refine VIf.mk (fun hlt => ?_) (fun hge => ?_)
  · have hlt : i < xs.length := by simpa using hlt
    obtain ⟨ad', rfl, hrd⟩ := hcell (by omega)
    repeat (first | refine VIf.tt ?_ | refine VIf.ff ?_)
    refine VIdx.mk ad' i rfl rfl hlt ?_
    repeat (first | refine VIf.tt ?_ | refine VIf.ff ?_)
    refine VRead.mk (.int .i64 (xs.getD i 0)) ?_ ?_
    · have := hrd i (.int .i64 (xs.getD i 0)) (by simp [hlt])
      simpa using this
    repeat (first | refine VIf.tt ?_ | refine VIf.ff ?_)
    refine VIf.mk (fun hne => ?_) (fun heq => ?_)
    · repeat (first | refine VIf.tt ?_ | refine VIf.ff ?_)
      refine VFact.mk ⟨?_, rfl⟩ trivial
      rw [← orL_drop xs i hz, List.drop_eq_getElem_cons hlt]
      have : xs.getD i 0 ≠ 0 := by simpa using hne
      have e : xs.getD i 0 = xs[i] := by simp [hlt]
      rw [e] at this ⊢
      simp [orL, this]
    · repeat (first | refine VIf.tt ?_ | refine VIf.ff ?_)
      refine VArith.ok (by omega) (by unfold maxLen at hm; omega) ?_
      refine ⟨i + 1, ⟨hlt, fun j hj => ?_⟩, by omega, Wk.mk' id ⟨⟨rfl, rfl⟩, ⟨rfl, rfl⟩, ⟨rfl, rfl⟩, ⟨rfl, rfl⟩, trivial⟩ trivial trivial rfl rfl rfl⟩
      by_cases hji : j = i
      · subst hji; simpa using heq
      · exact hz j (by omega)
  · have hge : i = xs.length := by
      have : ¬ ((i : Int) < (xs.length : Int)) := by simpa using hge
      omega
    subst hge
    repeat (first | refine VIf.tt ?_ | refine VIf.ff ?_)
    refine VFact.mk ⟨?_, rfl⟩ trivial
    rw [← orL_drop xs _ hz]
    simp [orL]

theorem sides_fn (ad : Option Addr) (n c : Nat) (M : Mem) : V.Fn Try.prog 27 [.slice ad n c] M fun rs M' => ∃ B, rs = [.func (.func 47) #[] #[.pointer (some ⟨B, 0, none⟩)]] ∧ M' B = some (.cells #[.slice ad n c] 22 (0, 0)) := by
  refine Fn.of_vc cxOK Try.func27 rfl rfl rfl ?_
  repeat (first | refine VIf.tt ?_ | refine VIf.ff ?_)
  refine VFzB.mk fun x B M' hle hB => ?_
  repeat (first | refine VIf.tt ?_ | refine VIf.ff ?_)
  exact VFact.mk ⟨B, rfl, hB⟩ trivial

theorem compare_fn (ax ay bx by' : Int) (M : Mem) : V.Fn Try.prog 45 [pt ax ay, pt bx by'] M fun rs _ => rs = [.int .i64 (cmpP ax ay bx by')] := by
  refine Fn.of_vc cxOK Try.func45 rfl rfl rfl ?_
  repeat (first | refine VIf.tt ?_ | refine VIf.ff ?_)
  refine VDraw.go (by kernel_rfl) ?_
  repeat (first | refine VIf.tt ?_ | refine VIf.ff ?_)
  refine VFn.p (Compare_fn _ _ _) ?_
  repeat (first | refine VIf.tt ?_ | refine VIf.ff ?_)
  refine VFn.p (Compare_fn _ _ _) ?_
  repeat (first | refine VIf.tt ?_ | refine VIf.ff ?_)
  refine VFz.mk fun x B M' hle hx => ?_
  repeat (first | refine VIf.tt ?_ | refine VIf.ff ?_)
  refine VFn.p (Or_fn x [cmpI ax bx, cmpI ay by'] _ hx) ?_
  repeat (first | refine VIf.tt ?_ | refine VIf.ff ?_)
  refine VFact.mk ?_ trivial
  simp [orL, cmpP]
  by_cases h : cmpI ax bx = 0 <;> by_cases h' : cmpI ay by' = 0 <;> simp [h, h']
end Go.Proofs.Ytlihojecopfgfaa

/- Contracts: hull.Valid. -/
namespace Go.Proofs.Ytlihojecopfgfaa
open Go Go.V Go.RowKit
/-- A point of a list, read. -/
theorem Pts.read {M : Mem} {ad : Addr} {ps : List Pt} (hrd : ∀ (j : Nat) (v : Value), (cellsP ps)[j]? = some v → M.cell (ad.add j) = some v) {k : Nat} (hk : k < ps.length) :
    ∀ j v, [Value.int .i64 (gp ps k).1, .int .i64 (gp ps k).2][j]? = some v → M.cell ((ad.add (k * 2)).add j) = some v := by
  intro j v hj
  obtain ⟨g1, g2⟩ := cellsP_get ps k hk
  rw [show (ad.add (k * 2)).add j = ad.add (2 * k + j) by rw [Addr.add_add]; congr 1; omega]
  refine hrd _ _ ?_
  match j, hj with
  | 0, hj => rw [← hj]; exact g1
  | 1, hj => rw [← hj]; exact g2
  | j + 2, hj => simp at hj

theorem injOK_id : ∀ (l : List (Nat × Option OE)), injOK id l
  | [] => trivial
  | (i, _) :: l => ⟨fun j _ => by by_cases h : i = j; exact .inl h; exact .inr h, injOK_id l⟩
/-- What the cells of a slice of points say, in whatever memory comes. -/
theorem Pts.cellsOf {M : Mem} {ad : Option Addr} {n c : Nat} {ps : List Pt} (h : Pts M (.slice ad n c) ps) : n = ps.length ∧ n ≤ maxLen ∧ ∀ M', M.le M' → ∀ k, k < ps.length → ∃ ad', ad = some ad' ∧ ∀ j v, [Value.int .i64 (gp ps k).1, .int .i64 (gp ps k).2][j]? = some v → M'.cell ((ad'.add (k * 2)).add j) = some v := by
  obtain ⟨ad, c, he, hc, hm, hl, h1, hcell⟩ := h
  cases he
  refine ⟨rfl, by omega, fun M' hM k hk => ?_⟩
  obtain ⟨ad', rfl, hrd⟩ := hcell (by omega)
  exact ⟨ad', rfl, fun j v hj => Mem.cell_le hM (Pts.read hrd hk j v hj)⟩
theorem Pts.shape {M : Mem} {v : Value} {ps : List Pt} (h : Pts M v ps) : ∃ ad c, v = .slice ad ps.length c := let ⟨ad, c, he, _⟩ := h; ⟨ad, c, he⟩

theorem sidesL_get {ps : List Pt} {k : Nat} {args : List Value} (h : (sidesL ps)[k]? = some args) : k < ps.length ∧ args = [ptv (gp ps k), ptv (gp ps ((k + 1) % ps.length))] := by
  simp only [sidesL, List.getElem?_map] at h
  cases hr : (List.range ps.length)[k]? with
  | none => rw [hr] at h; cases h
  | some i =>
    rw [hr] at h
    simp only [Option.map_some, Option.some.injEq] at h
    obtain ⟨h1, h2⟩ := List.getElem?_eq_some_iff.1 hr
    simp at h1 h2
    subst h2
    exact ⟨h1, h.symm⟩
theorem Valid_fn (v : Value) (ps : List Pt) (M : Mem) (hv : Pts M v ps) (hi64 : i64P ps) : V.Fn Try.prog 20 [v] M fun rs _ => rs = [.bool (validB ps)] := by
  obtain ⟨ad, c, rfl⟩ := hv.shape
  obtain ⟨_, hm, hrd⟩ := hv.cellsOf
  unfold maxLen at hm
  refine Fn.of_vc cxOK Try.func20 rfl rfl rfl ?_
  repeat (first | refine VIf.tt ?_ | refine VIf.ff ?_)
  refine VIf.mk (fun hlt => ?_) (fun hge0 => ?_)
  · repeat (first | refine VIf.tt ?_ | refine VIf.ff ?_)
    repeat (first | refine VIf.tt ?_ | refine VIf.ff ?_)
    refine VFact.mk ?_ trivial
    have : ps.length = 0 := by simp at hlt; omega
    simp [validB, this]
  repeat (first | refine VIf.tt ?_ | refine VIf.ff ?_)
  repeat (first | refine VIf.tt ?_ | refine VIf.ff ?_)
  refine VIf.mk (fun hgt => ?_) (fun hle => ?_)
  · repeat (first | refine VIf.tt ?_ | refine VIf.ff ?_)
    repeat (first | refine VIf.tt ?_ | refine VIf.ff ?_)
    refine VFact.mk ?_ trivial
    have : 64 < ps.length := by simp at hgt; omega
    simp [validB]; omega
  repeat (first | refine VIf.tt ?_ | refine VIf.ff ?_)
  repeat (first | refine VIf.tt ?_ | refine VIf.ff ?_)
  refine VCode.loop cxOK (Nat × Mem)
    (fun s => ⟨[(1, .box 0 0), (2, .box 1 0), (17, .v (.slice ad ps.length c)), (18, .v (.int .i64 ps.length)), (19, .v (.int .i64 s.1))], [(1, some (.box 4 [.v (.bool false)])), (0, some (.box 22 [.v (.slice ad ps.length c)]))], 2, s.2, 69, ⟨fun _ => none, none, fun _ => none⟩⟩)
    (fun s => M.le s.2 ∧ s.1 ≤ ps.length ∧ ∀ j, j < s.1 → v1B ps j = true) (fun s => ps.length - s.1) (0, M) ⟨Mem.le_refl _, Nat.zero_le _, fun j hj => by omega⟩ ?_ ?_
  · exact Wk.mk' id ⟨⟨rfl, rfl⟩, ⟨rfl, rfl⟩, ⟨rfl, rfl⟩, ⟨rfl, rfl⟩, ⟨rfl, rfl⟩, trivial⟩ ⟨⟨rfl, rfl, ⟨rfl, rfl⟩, trivial⟩, ⟨rfl, rfl, ⟨rfl, rfl⟩, trivial⟩, trivial⟩ (injOK_id _) rfl rfl rfl
  rintro ⟨i, M1⟩ ⟨hM1, hi, hz⟩ m
  repeat (first | refine VIf.tt ?_ | refine VIf.ff ?_)
  refine VIf.mk (fun hlt => ?_) (fun hge => ?_)
  · have hlt : i < ps.length := by simpa using hlt
    obtain ⟨ad', rfl, hpi⟩ := hrd M1 hM1 i hlt
    repeat (first | refine VIf.tt ?_ | refine VIf.ff ?_)
    refine VIdx.mk ad' i rfl rfl hlt ?_
    repeat (first | refine VIf.tt ?_ | refine VIf.ff ?_)
    refine VReads.mk [.int .i64 (gp ps i).1, .int .i64 (gp ps i).2] rfl hpi ?_
    repeat (first | refine VIf.tt ?_ | refine VIf.ff ?_)
    refine VDraw.go (by kernel_rfl) ?_
    repeat (first | refine VIf.tt ?_ | refine VIf.ff ?_)
    refine VFn.p (isPlace_fn _ _ _ (hi64 i hlt).1 (hi64 i hlt).2) ?_
    repeat (first | refine VIf.tt ?_ | refine VIf.ff ?_)
    refine VIf.mk (fun hnp => ?_) (fun hp => ?_)
    · repeat (first | refine VIf.tt ?_ | refine VIf.ff ?_)
      repeat (first | refine VIf.tt ?_ | refine VIf.ff ?_)
      refine VFact.mk ?_ trivial
      have : v1B ps i = false := by simp [v1B, placeB] at hnp ⊢; intro a b; simp_all
      simp [validB, all_false hlt this]
    have hp : placeB (gp ps i) = true := by simpa [placeB] using hp
    repeat (first | refine VIf.tt ?_ | refine VIf.ff ?_)
    repeat (first | refine VIf.tt ?_ | refine VIf.ff ?_)
    refine VIf.mk (fun hi0 => ?_) (fun hi0 => ?_)
    · have hi0 : 0 < i := by simp at hi0; omega
      repeat (first | refine VIf.tt ?_ | refine VIf.ff ?_)
      obtain ⟨ad2, he2, hp0⟩ := hrd M1 hM1 0 (by omega)
      cases he2
      repeat (first | refine VIf.tt ?_ | refine VIf.ff ?_)
      refine VIdx.mk ad' 0 rfl rfl (by omega) ?_
      repeat (first | refine VIf.tt ?_ | refine VIf.ff ?_)
      repeat (first | refine VIf.tt ?_ | refine VIf.ff ?_)
      refine VReads.mk [.int .i64 (gp ps 0).1, .int .i64 (gp ps 0).2] rfl hp0 ?_
      repeat (first | refine VIf.tt ?_ | refine VIf.ff ?_)
      repeat (first | refine VIf.tt ?_ | refine VIf.ff ?_)
      refine VFn.mk _ (compare_fn _ _ _ _ _) ?_
      rintro rs M' hM rfl
      repeat (first | refine VIf.tt ?_ | refine VIf.ff ?_)
      repeat (first | refine VIf.tt ?_ | refine VIf.ff ?_)
      refine VIf.mk (fun hc => ?_) (fun hc => ?_)
      · repeat (first | refine VIf.tt ?_ | refine VIf.ff ?_)
        repeat (first | refine VIf.tt ?_ | refine VIf.ff ?_)
        refine VFact.mk ?_ trivial
        have hcc : ¬ cmpPt (gp ps 0) (gp ps i) < 0 := by simp [cmpPt] at hc ⊢; exact hc
        have : v1B ps i = false := by simp [v1B, hcc, Nat.ne_of_gt hi0]
        simp [validB, all_false hlt this]
      · repeat (first | refine VIf.tt ?_ | refine VIf.ff ?_)
        repeat (first | refine VIf.tt ?_ | refine VIf.ff ?_)
        refine VArith.ok (by simp only; omega) (by simp only; omega) ?_
        refine ⟨(i + 1, M'), ⟨hM1.trans hM, hlt, fun j hj => ?_⟩, by simp only; omega, Wk.mk' id ⟨⟨rfl, rfl⟩, ⟨rfl, rfl⟩, ⟨rfl, rfl⟩, ⟨rfl, rfl⟩, ⟨rfl, rfl⟩, trivial⟩ ⟨⟨rfl, rfl, ⟨rfl, rfl⟩, trivial⟩, ⟨rfl, rfl, ⟨rfl, rfl⟩, trivial⟩, trivial⟩ (injOK_id _) rfl rfl rfl⟩
        by_cases hji : j = i
        · subst hji
          have hcc : cmpPt (gp ps 0) (gp ps j) < 0 := by simp [cmpPt] at hc ⊢; exact hc
          simp [v1B, hp, hcc]
        · exact hz j (by simp only at hj ⊢; omega)
    · repeat (first | refine VIf.tt ?_ | refine VIf.ff ?_)
      repeat (first | refine VIf.tt ?_ | refine VIf.ff ?_)
      refine VArith.ok (by simp only; omega) (by simp only; omega) ?_
      refine ⟨(i + 1, M1), ⟨hM1, hlt, fun j hj => ?_⟩, by simp only; omega, Wk.mk' id ⟨⟨rfl, rfl⟩, ⟨rfl, rfl⟩, ⟨rfl, rfl⟩, ⟨rfl, rfl⟩, ⟨rfl, rfl⟩, trivial⟩ ⟨⟨rfl, rfl, ⟨rfl, rfl⟩, trivial⟩, ⟨rfl, rfl, ⟨rfl, rfl⟩, trivial⟩, trivial⟩ (injOK_id _) rfl rfl rfl⟩
      by_cases hji : j = i
      · subst hji
        have : j = 0 := by simp at hi0; omega
        simp only [v1B, hp, Bool.true_and, Bool.or_eq_true, beq_iff_eq]
        exact .inl this
      · exact hz j (by simp only at hj ⊢; omega)
  have hin : i = ps.length := by
    have : ¬ ((i : Int) < (ps.length : Int)) := by simpa using hge
    simp only at hi
    omega
  subst hin
  have hall : (List.range ps.length).all (v1B ps) = true := all_true hz
  have hC : ∀ k, k < ps.length → isC (gp ps k).1 ∧ isC (gp ps k).2 := fun k hk => by
    have := hz k hk
    simp only [v1B, placeB, Bool.and_eq_true] at this
    exact ⟨isCb_iff.1 this.1.1, isCb_iff.1 this.1.2⟩
  have hn1 : 1 ≤ ps.length := by simp at hge0; omega
  have hn64 : ps.length ≤ 64 := by simp at hle; omega
  repeat (first | refine VIf.tt ?_ | refine VIf.ff ?_)
  refine VIf.mk (fun h3 => ?_) (fun h3 => ?_)
  · repeat (first | refine VIf.tt ?_ | refine VIf.ff ?_)
    repeat (first | refine VIf.tt ?_ | refine VIf.ff ?_)
    refine VFact.mk ?_ trivial
    have : ps.length < 3 := by simp at h3; omega
    simp [validB, hall, hn1, hn64, this]
  repeat (first | refine VIf.tt ?_ | refine VIf.ff ?_)
  have h3 : ¬ ps.length < 3 := by simp at h3; omega
  repeat (first | refine VIf.tt ?_ | refine VIf.ff ?_)
  refine VFn.mk _ (sides_fn _ _ _ _) ?_
  rintro rs M2 hM2 ⟨B, rfl, hB⟩
  have hM2 : M.le M2 := hM1.trans hM2
  repeat (first | refine VIf.tt ?_ | refine VIf.ff ?_)
  refine VCode.rangeB cxOK rfl (sides_iter M2 B _ ps hB (hv.le hM2)) (fun x hx => ?_) [(1, .box 0 0), (2, .box 1 0)] rfl (by kernel_rfl) (by kernel_rfl) Mem
    (fun k s => ⟨[(1, .box 0 0), (2, .box 1 0)], [(1, some (.box 4 [.v (.bool false)])), (0, some (.box 22 [.v (.slice ad ps.length c)]))], 2, s, 69, ⟨fun _ => none, none, fun _ => none⟩⟩)
    (fun k s => M2.le s ∧ ∀ j, j < k → v3B ps j = true) M2 ⟨Mem.le_refl _, fun j hj => by omega⟩ ?_ (fun k s => ⟨rfl, rfl⟩) ?_ ?_
  · simp only [sidesL, List.mem_map] at hx
    obtain ⟨k, _, rfl⟩ := hx
    rfl
  · exact Wk.mk' id ⟨⟨rfl, rfl⟩, ⟨rfl, rfl⟩, trivial⟩ ⟨⟨rfl, rfl, ⟨rfl, rfl⟩, trivial⟩, ⟨rfl, rfl, ⟨rfl, rfl⟩, trivial⟩, trivial⟩ (injOK_id _) rfl rfl rfl
  · rintro k M3 args ⟨hM3, hz3⟩ hxs m f
    obtain ⟨hk, rfl⟩ := sidesL_get hxs
    have hM3' : M2.le M3 := hM3
    have hM3 : M.le M3 := hM2.trans hM3
    have hk' : (k + 1) % ps.length < ps.length := Nat.mod_lt _ (by omega)
    intro m'
    repeat (first | refine VIf.tt ?_ | refine VIf.ff ?_)
    refine VCode.loop cxOK (Nat × Mem)
      (fun s => ⟨[(1, .box 0 0), (2, .box 1 0), (5, .box 2 0), (6, .box 3 0), (47, .v (.slice ad ps.length c)), (48, .v (.int .i64 ps.length)), (49, .v (.int .i64 s.1))],
        [(3, some (.box 26 [.v (.int .i64 (gp ps ((k + 1) % ps.length)).1), .v (.int .i64 (gp ps ((k + 1) % ps.length)).2)])), (2, some (.box 26 [.v (.int .i64 (gp ps k).1), .v (.int .i64 (gp ps k).2)])), (1, some (.box 4 [.v (.bool false)])), (0, some (.box 22 [.v (.slice ad ps.length c)]))], 4, s.2, 69, ⟨fun _ => none, none, fun _ => none⟩⟩)
      (fun s => M3.le s.2 ∧ s.1 ≤ ps.length ∧ ∀ j, j < s.1 → v2B (gp ps k) (gp ps ((k + 1) % ps.length)) (gp ps j) = true) (fun s => ps.length - s.1) (0, M3) ⟨Mem.le_refl _, Nat.zero_le _, fun j hj => by omega⟩ ?_ ?_
    · exact Wk.mk' id ⟨⟨rfl, rfl⟩, ⟨rfl, rfl⟩, ⟨rfl, rfl⟩, ⟨rfl, rfl⟩, ⟨rfl, rfl⟩, ⟨rfl, rfl⟩, ⟨rfl, rfl⟩, trivial⟩ ⟨⟨rfl, rfl, ⟨rfl, rfl⟩, ⟨rfl, rfl⟩, trivial⟩, ⟨rfl, rfl, ⟨rfl, rfl⟩, ⟨rfl, rfl⟩, trivial⟩, ⟨rfl, rfl, ⟨rfl, rfl⟩, trivial⟩, ⟨rfl, rfl, ⟨rfl, rfl⟩, trivial⟩, trivial⟩ (injOK_id _) rfl rfl rfl
    rintro ⟨i, M4⟩ ⟨hM4, hi4, hz4⟩ m4
    have hM4' : M3.le M4 := hM4
    have hM4 : M.le M4 := hM3.trans hM4
    have step : ∀ {f : Nat → Bool} (i : Nat), (∀ j, j < i → f j = true) → f i = true → ∀ j, j < i + 1 → f j = true := fun i h hi j hj => by
      by_cases e : j = i
      · rw [e]; exact hi
      · exact h j (by omega)
    repeat (first | refine VIf.tt ?_ | refine VIf.ff ?_)
    refine VIf.mk (fun hlt => ?_) (fun hge => ?_)
    · have hlt : i < ps.length := by simpa using hlt
      obtain ⟨ad', rfl, hpi⟩ := hrd M4 hM4 i hlt
      repeat (first | refine VIf.tt ?_ | refine VIf.ff ?_)
      refine VIdx.mk ad' i rfl rfl hlt ?_
      repeat (first | refine VIf.tt ?_ | refine VIf.ff ?_)
      refine VReads.mk [.int .i64 (gp ps i).1, .int .i64 (gp ps i).2] rfl hpi ?_
      conv => whnf
      repeat (first | refine VIf.tt ?_ | refine VIf.ff ?_)
      refine VIf.mk (fun hxa => ?_) (fun hxa => ?_)
      · repeat (first | refine VIf.tt ?_ | refine VIf.ff ?_)
        repeat (first | refine VIf.tt ?_ | refine VIf.ff ?_)
        refine VIf.mk (fun hxb => ?_) (fun hxb => ?_)
        · repeat (first | refine VIf.tt ?_ | refine VIf.ff ?_)
          repeat (first | refine VIf.tt ?_ | refine VIf.ff ?_)
          refine VFn.p (turn_fn _ _ _ _ _ _ _ (hC k hk).1 (hC k hk).2 (hC _ hk').1 (hC _ hk').2 (hC i hlt).1 (hC i hlt).2) ?_
          repeat (first | refine VIf.tt ?_ | refine VIf.ff ?_)
          repeat (first | refine VIf.tt ?_ | refine VIf.ff ?_)
          refine VIf.mk (fun ht => ?_) (fun ht => ?_)
          · repeat (first | refine VIf.tt ?_ | refine VIf.ff ?_)
            refine ⟨(⟨[(1, .box 0 0), (2, .box 1 0)], [(1, some (.box 4 [.v (.bool false)])), (0, some (.box 22 [.v (.slice (some ad') ps.length c)]))], 2, M4, 69, ⟨fun _ => none, none, fun _ => none⟩⟩ : St), (Wk.mk' id (by repeat' constructor) (by repeat' constructor) (injOK_id _) rfl rfl rfl), rfl, rfl, fun m => ?_⟩
            repeat (first | refine VIf.tt ?_ | refine VIf.ff ?_)
            refine VFact.mk ?_ trivial
            have h2 : v2B (gp ps k) (gp ps ((k + 1) % ps.length)) (gp ps i) = false := by
              have hx := of_decide_eq_true ht
              have hc : ¬ (0 < crossP (gp ps k) (gp ps ((k + 1) % ps.length)) (gp ps i)) := by unfold crossP; omega
              simp only [Bool.not_eq_true', Bool.and_eq_false_iff, beq_eq_false_iff_ne] at hxa hxb
              simp only [v2B, Bool.or_eq_false_iff, beq_eq_false_iff_ne, decide_eq_false_iff_not]
              exact ⟨⟨fun e => by rw [e] at hxa; simp at hxa, fun e => by rw [e] at hxb; simp at hxb⟩, hc⟩
            have h3' : (List.range ps.length).all (v3B ps) = false := all_false hk (all_false hlt h2)
            simp [validB, h3', h3]
          · repeat (first | refine VIf.tt ?_ | refine VIf.ff ?_)
            repeat (first | refine VIf.tt ?_ | refine VIf.ff ?_)
            refine VArith.ok (by simp only; omega) (by simp only; omega) ?_
            refine ⟨(i + 1, M4), ⟨hM4', hlt, step i hz4 ?_⟩, by simp only; omega, (Wk.mk' id (by repeat' constructor) (by repeat' constructor) (injOK_id _) rfl rfl rfl)⟩
            have hx := of_decide_eq_false ht
            have hc : 0 < crossP (gp ps k) (gp ps ((k + 1) % ps.length)) (gp ps i) := by unfold crossP; omega
            simp [v2B, hc]
        · repeat (first | refine VIf.tt ?_ | refine VIf.ff ?_)
          repeat (first | refine VIf.tt ?_ | refine VIf.ff ?_)
          refine VArith.ok (by simp only; omega) (by simp only; omega) ?_
          refine ⟨(i + 1, M4), ⟨hM4', hlt, step i hz4 ?_⟩, by simp only; omega, (Wk.mk' id (by repeat' constructor) (by repeat' constructor) (injOK_id _) rfl rfl rfl)⟩
          have e : gp ps i = gp ps ((k + 1) % ps.length) := by
            simp only [Bool.not_eq_false', Bool.and_eq_true, beq_iff_eq] at hxb
            exact Prod.ext hxb.1 hxb.2
          simp [v2B, e]
      · repeat (first | refine VIf.tt ?_ | refine VIf.ff ?_)
        repeat (first | refine VIf.tt ?_ | refine VIf.ff ?_)
        refine VArith.ok (by simp only; omega) (by simp only; omega) ?_
        refine ⟨(i + 1, M4), ⟨hM4', hlt, step i hz4 ?_⟩, by simp only; omega, (Wk.mk' id (by repeat' constructor) (by repeat' constructor) (injOK_id _) rfl rfl rfl)⟩
        have e : gp ps i = gp ps k := by
          simp only [Bool.not_eq_false', Bool.and_eq_true, beq_iff_eq] at hxa
          exact Prod.ext hxa.1 hxa.2
        simp [v2B, e]
    · have hin : i = ps.length := by
        have : ¬ ((i : Int) < (ps.length : Int)) := by simpa using hge
        simp only at hi4
        omega
      subst hin
      refine ⟨M4, ⟨hM3'.trans hM4', step k hz3 (all_true hz4)⟩, (Wk.mk' id (by repeat' constructor) (by repeat' constructor) (injOK_id _) rfl rfl rfl)⟩
  · rintro M3 m ⟨hM3, hz3⟩
    repeat (first | refine VIf.tt ?_ | refine VIf.ff ?_)
    refine VFact.mk ?_ trivial
    have : (List.range ps.length).all (v3B ps) = true := all_true fun j hj => hz3 j (by simpa [sidesL] using hj)
    simp [validB, hall, hn1, hn64, this]
end Go.Proofs.Ytlihojecopfgfaa

/- Data in memory: lists of integers, polygons, regions, cases, beliefs. -/
namespace Go.Proofs.Ytlihojecopfgfaa
open Go Go.V Go.RowKit
/-- A slice whose elements say the elements of a list. -/
def Arr {α : Type} (D : Mem → α → List Value → Prop) (M : Mem) (k : Nat) (v : Value) (l : List α) : Prop :=
  ∃ rows : List (List Value), rows.length = l.length ∧ (∀ r ∈ rows, r.length = k) ∧ SlAt M k v l.length rows.flatten ∧ ∀ (i : Nat) (x : α) (r : List Value), l[i]? = some x → rows[i]? = some r → D M x r
theorem Arr.le {α : Type} {D : Mem → α → List Value → Prop} (hD : ∀ M M' x r, M.le M' → D M x r → D M' x r) {M M' : Mem} {k : Nat} {v : Value} {l : List α} (h : Arr D M k v l) (hM : M.le M') : Arr D M' k v l :=
  let ⟨rows, h1, h2, h3, h4⟩ := h
  ⟨rows, h1, h2, h3.le hM, fun i x r hx hr => hD _ _ _ _ hM (h4 i x r hx hr)⟩
theorem flat_get {k : Nat} : ∀ (rows : List (List Value)) (i : Nat) (r : List Value), (∀ r ∈ rows, r.length = k) → rows[i]? = some r → ∀ j x, r[j]? = some x → rows.flatten[i * k + j]? = some x
  | [], i, r, _, h, _, _, _ => by simp at h
  | r0 :: rows, 0, r, hk, h, j, x, hx => by
    simp at h; subst h
    rw [List.flatten_cons, Nat.zero_mul, Nat.zero_add, List.getElem?_append_left (List.getElem?_eq_some_iff.1 hx).1]
    exact hx
  | r0 :: rows, i + 1, r, hk, h, j, x, hx => by
    have h0 := hk r0 (List.mem_cons_self)
    rw [List.flatten_cons, List.getElem?_append_right (by rw [h0, Nat.add_mul]; omega)]
    rw [show (i + 1) * k + j - r0.length = i * k + j by rw [h0, Nat.add_mul]; omega]
    exact flat_get rows i r (fun r hr => hk r (List.mem_cons_of_mem _ hr)) (by simpa using h) j x hx
/-- What a slice's elements are. -/
theorem Arr.get {α : Type} {D : Mem → α → List Value → Prop} {M : Mem} {k : Nat} {v : Value} {l : List α} (h : Arr D M k v l) :
    ∃ ad c, v = .slice ad l.length c ∧ l.length ≤ 9223372036854775807 ∧ ∀ i x, l[i]? = some x → ∃ ad' r, ad = some ad' ∧ r.length = k ∧ D M x r ∧ ∀ M', M.le M' → ∀ j y, r[j]? = some y → M'.cell ((ad'.add (i * k)).add j) = some y := by
  obtain ⟨rows, h1, h2, ⟨ad, c, rfl, hc, hm, hl, ho, hcell⟩, h4⟩ := h
  refine ⟨ad, c, rfl, ?_, fun i x hx => ?_⟩
  · unfold maxLen at hm; omega
  have hi := (List.getElem?_eq_some_iff.1 hx).1
  obtain ⟨ad', rfl, hrd⟩ := hcell (by omega)
  have hr : rows[i]? = some (rows[i]'(by omega)) := List.getElem?_eq_getElem (by omega)
  refine ⟨ad', _, rfl, h2 _ (List.getElem_mem _), h4 i x _ hx hr, fun M' hM j y hy => ?_⟩
  rw [Addr.add_add]
  exact Mem.cell_le hM (hrd _ _ (flat_get rows i _ h2 hr j y hy))
theorem add0 (a : Addr) : a.add 0 = a := by simp [Addr.add]
def IntD (_ : Mem) (n : Int) (r : List Value) : Prop := r = [.int .i64 n] ∧ i64r n
def PolyD (M : Mem) (ps : List Pt) (r : List Value) : Prop := ∃ v, r = [v] ∧ Pts M v ps ∧ i64P ps
def IntsV (M : Mem) (v : Value) (l : List Int) : Prop := Arr IntD M 1 v l
def RegV (M : Mem) (v : Value) (l : List (List Pt)) : Prop := Arr PolyD M 1 v l
def CaseD (M : Mem) (c : CaseS) (r : List Value) : Prop := ∃ a b s, r = [a, b, s] ∧ IntsV M a c.sn ∧ IntsV M b c.cl ∧ RegV M s c.st
def CasV (M : Mem) (v : Value) (l : List CaseS) : Prop := Arr CaseD M 3 v l
def BelD (M : Mem) (b : BelS) (r : List Value) : Prop := ∃ v, r = [.int .i64 b.t, v] ∧ i64r b.t ∧ CasV M v b.cs
def BelsV (M : Mem) (v : Value) (l : List BelS) : Prop := Arr BelD M 2 v l
theorem IntsV.le {M M' : Mem} {v : Value} {l : List Int} (h : IntsV M v l) (hM : M.le M') : IntsV M' v l := Arr.le (fun _ _ _ _ _ h => h) h hM
theorem RegV.le {M M' : Mem} {v : Value} {l : List (List Pt)} (h : RegV M v l) (hM : M.le M') : RegV M' v l :=
  Arr.le (fun _ _ _ _ hM ⟨v, h1, h2, h3⟩ => ⟨v, h1, SlAt.le hM h2, h3⟩) h hM
theorem CasV.le {M M' : Mem} {v : Value} {l : List CaseS} (h : CasV M v l) (hM : M.le M') : CasV M' v l :=
  Arr.le (fun _ _ _ _ hM ⟨a, b, s, h1, h2, h3, h4⟩ => ⟨a, b, s, h1, h2.le hM, h3.le hM, h4.le hM⟩) h hM
theorem BelsV.le {M M' : Mem} {v : Value} {l : List BelS} (h : BelsV M v l) (hM : M.le M') : BelsV M' v l :=
  Arr.le (fun _ _ _ _ hM ⟨v, h1, h2, h3⟩ => ⟨v, h1, h2, h3.le hM⟩) h hM
theorem getD_get {α : Type} {l : List α} {i : Nat} (d : α) (h : i < l.length) : l[i]? = some (l.getD i d) := by simp [h]
/-- A slice of integers. -/
theorem IntsV.get {M : Mem} {v : Value} {l : List Int} (h : IntsV M v l) : ∃ ad c, v = .slice ad l.length c ∧ l.length ≤ 9223372036854775807 ∧ ∀ M', M.le M' → ∀ i, i < l.length → ∃ ad', ad = some ad' ∧ i64r (gi l i) ∧ M'.cell (ad'.add (i * 1)) = some (.int .i64 (gi l i)) := by
  obtain ⟨ad, c, h1, h2, h3⟩ := Arr.get h
  refine ⟨ad, c, h1, h2, fun M' hM i hi => ?_⟩
  obtain ⟨ad', r, h4, _, ⟨rfl, h5⟩, h6⟩ := h3 i _ (getD_get 0 hi)
  exact ⟨ad', h4, h5, by have := h6 M' hM 0 _ rfl; rw [add0] at this; exact this⟩
theorem RegV.get {M : Mem} {v : Value} {l : List (List Pt)} (h : RegV M v l) : ∃ ad c, v = .slice ad l.length c ∧ l.length ≤ 9223372036854775807 ∧ ∀ M', M.le M' → ∀ i, i < l.length → ∃ ad' w, ad = some ad' ∧ Pts M' w (l.getD i []) ∧ i64P (l.getD i []) ∧ M'.cell (ad'.add (i * 1)) = some w := by
  obtain ⟨ad, c, h1, h2, h3⟩ := Arr.get h
  refine ⟨ad, c, h1, h2, fun M' hM i hi => ?_⟩
  obtain ⟨ad', r, h4, _, ⟨w, rfl, h5, h5'⟩, h6⟩ := h3 i _ (getD_get [] hi)
  exact ⟨ad', w, h4, SlAt.le hM h5, h5', by have := h6 M' hM 0 _ rfl; rw [add0] at this; exact this⟩
theorem CasV.get {M : Mem} {v : Value} {l : List CaseS} (h : CasV M v l) : ∃ ad c, v = .slice ad l.length c ∧ l.length ≤ 9223372036854775807 ∧ ∀ M', M.le M' → ∀ i, i < l.length → ∃ ad' a b s, ad = some ad' ∧ IntsV M' a (gc l i).sn ∧ IntsV M' b (gc l i).cl ∧ RegV M' s (gc l i).st ∧ ∀ j y, [a, b, s][j]? = some y → M'.cell ((ad'.add (i * 3)).add j) = some y := by
  obtain ⟨ad, c, h1, h2, h3⟩ := Arr.get h
  refine ⟨ad, c, h1, h2, fun M' hM i hi => ?_⟩
  obtain ⟨ad', r, h4, _, ⟨a, b, s, rfl, h5, h5', h5''⟩, h6⟩ := h3 i _ (getD_get ⟨[], [], []⟩ hi)
  exact ⟨ad', a, b, s, h4, h5.le hM, h5'.le hM, h5''.le hM, h6 M' hM⟩
theorem BelsV.get {M : Mem} {v : Value} {l : List BelS} (h : BelsV M v l) : ∃ ad c, v = .slice ad l.length c ∧ l.length ≤ 9223372036854775807 ∧ ∀ M', M.le M' → ∀ i, i < l.length → ∃ ad' w, ad = some ad' ∧ i64r (gb l i).t ∧ CasV M' w (gb l i).cs ∧ ∀ j y, [.int .i64 (gb l i).t, w][j]? = some y → M'.cell ((ad'.add (i * 2)).add j) = some y := by
  obtain ⟨ad, c, h1, h2, h3⟩ := Arr.get h
  refine ⟨ad, c, h1, h2, fun M' hM i hi => ?_⟩
  obtain ⟨ad', r, h4, _, ⟨w, rfl, h5, h5'⟩, h6⟩ := h3 i _ (getD_get ⟨0, []⟩ hi)
  exact ⟨ad', w, h4, h5, h5'.le hM, h6 M' hM⟩
theorem RegV.shape {M : Mem} {v : Value} {l : List (List Pt)} (h : RegV M v l) : ∃ ad c, v = .slice ad l.length c := let ⟨ad, c, he, _⟩ := h.get; ⟨ad, c, he⟩
end Go.Proofs.Ytlihojecopfgfaa

/- Contracts: the reference's Less, places, between. -/
namespace Go.Proofs.Ytlihojecopfgfaa
open Go Go.V Go.RowKit
theorem stepI {f : Nat → Bool} {i : Nat} (h : ∀ j, j < i → f j = true) (hi : f i = true) : ∀ j, j < i + 1 → f j = true := fun j hj => by
  by_cases e : j = i
  · rw [e]; exact hi
  · exact h j (by omega)
theorem lt_of_dec {a b : Nat} (h : decide ((a : Int) < (b : Int)) = true) : a < b := by simpa using h
theorem ge_of_dec {a b : Nat} (h : decide ((a : Int) < (b : Int)) = false) : b ≤ a := by simpa using h
theorem eq_of_bne {a b : Nat} (h : ((a : Int) != (b : Int)) = false) : a = b := by have := (bne_eq_false_iff_eq).1 h; omega
theorem ne_of_bne {a b : Nat} (h : ((a : Int) != (b : Int)) = true) : a ≠ b := by have := bne_iff_ne.1 h; omega
theorem bn1 {b : Bool} (h : (!b) = true) : b = false := by simpa using h
theorem bn2 {b : Bool} (h : (!b) = false) : b = true := by simpa using h
theorem FnP.cast {P : Program} {f : Nat} {args : List Value} {M : Mem} {vs ws : List Value} (h : FnP P f args M vs) (e : vs = ws) : FnP P f args M ws := e ▸ h
end Go.Proofs.Ytlihojecopfgfaa

/- Contracts: the reference's Inside; Has, Box and ends of package hull. -/
namespace Go.Proofs.Ytlihojecopfgfaa
open Go Go.V Go.RowKit
def allC (ps : List Pt) : Prop := ∀ k, k < ps.length → isC (gp ps k).1 ∧ isC (gp ps k).2
theorem allC_of {ps : List Pt} (h : validB ps = true) : allC ps := fun k hk => by
  simp only [validB, Bool.and_eq_true, all_iff, v1B, placeB] at h
  have := (h.1.2 k hk).1
  exact ⟨isCb_iff.1 this.1, isCb_iff.1 this.2⟩
theorem tmod_nat {i n : Nat} : ((i : Int) + 1).tmod (n : Int) = (((i + 1) % n : Nat) : Int) := by
  rw [Int.tmod_eq_emod_of_nonneg (by omega)]; simp
def loB (g : Pt → Int) (ps : List Pt) : Int := ps.foldl (fun a p => min a (g p)) (g (gp ps 0))
def hiB (g : Pt → Int) (ps : List Pt) : Int := ps.foldl (fun a p => max a (g p)) (g (gp ps 0))
theorem take_step {α β : Type} (f : β → α → β) (b : β) (l : List α) (d : α) {i : Nat} (h : i < l.length) : (l.take (i + 1)).foldl f b = f ((l.take i).foldl f b) (l.getD i d) := by
  rw [List.take_add_one, List.foldl_append]
  simp [h]
theorem ends_fn (v : Value) (ps : List Pt) (fid : Nat) (g : Pt → Int) (M : Mem) (hv : Pts M v ps) (hn : 1 ≤ ps.length) (hg : ∀ i, i < ps.length → ∀ M', FnP Try.prog fid [ptv (gp ps i)] M' [.int .i64 (g (gp ps i))]) : FnP Try.prog 36 [v, .func (.func fid) #[] #[]] M [.int .i64 (loB g ps), .int .i64 (hiB g ps)] := by
  obtain ⟨ad, c, rfl⟩ := hv.shape
  obtain ⟨_, hm, hrd⟩ := hv.cellsOf
  unfold maxLen at hm
  refine Fn.of_vc cxOK Try.func36 rfl rfl rfl ?_
  have rd : ∀ k, k < ps.length → _ := hrd M (Mem.le_refl _)
  obtain ⟨ad', rfl, hp0⟩ := rd 0 (by omega)
  repeat (first | refine VIf.tt ?_ | refine VIf.ff ?_)
  refine VDraw.go (by kernel_rfl) ?_
  repeat (first | refine VIf.tt ?_ | refine VIf.ff ?_)
  refine VIdx.mk ad' 0 rfl rfl (by omega) ?_
  repeat (first | refine VIf.tt ?_ | refine VIf.ff ?_)
  refine VReads.mk [.int .i64 (gp ps 0).1, .int .i64 (gp ps 0).2] rfl hp0 ?_
  repeat (first | refine VIf.tt ?_ | refine VIf.ff ?_)
  refine VIdx.mk ad' 0 rfl rfl (by omega) ?_
  repeat (first | refine VIf.tt ?_ | refine VIf.ff ?_)
  refine VReads.mk [.int .i64 (gp ps 0).1, .int .i64 (gp ps 0).2] rfl hp0 ?_
  repeat (first | refine VIf.tt ?_ | refine VIf.ff ?_)
  refine VFn.p (hg 0 (by omega) _) ?_
  repeat (first | refine VIf.tt ?_ | refine VIf.ff ?_)
  refine VFn.p (hg 0 (by omega) _) ?_
  repeat (first | refine VIf.tt ?_ | refine VIf.ff ?_)
  refine VCode.loop cxOK Nat (fun i => ⟨[(1, .v (.func (.func fid) #[] #[])), (6, .v (.int .i64 ((ps.take i).foldl (fun a p => min a (g p)) (g (gp ps 0))))), (7, .v (.int .i64 ((ps.take i).foldl (fun a p => max a (g p)) (g (gp ps 0))))), (20, .v (.slice (some ad') ps.length c)), (21, .v (.int .i64 ps.length)), (22, .v (.int .i64 i))], [], 0, M, 39, ⟨fun _ => none, none, fun _ => none⟩⟩)
    (fun i => i ≤ ps.length) (fun i => ps.length - i) 0 (Nat.zero_le _) (Wk.mk' id (by repeat' constructor) (by repeat' constructor) (injOK_id _) rfl rfl rfl) ?_
  rintro i hi m
  repeat (first | refine VIf.tt ?_ | refine VIf.ff ?_)
  refine VIf.mk (fun hlt => ?_) (fun hge => ?_)
  · have hlt := lt_of_dec hlt
    obtain ⟨_, he, hpi⟩ := rd i hlt
    cases he
    repeat (first | refine VIf.tt ?_ | refine VIf.ff ?_)
    refine VIdx.mk ad' i rfl rfl hlt ?_
    repeat (first | refine VIf.tt ?_ | refine VIf.ff ?_)
    refine VReads.mk [.int .i64 (gp ps i).1, .int .i64 (gp ps i).2] rfl hpi ?_
    repeat (first | refine VIf.tt ?_ | refine VIf.ff ?_)
    refine VDraw.go (by kernel_rfl) ?_
    repeat (first | refine VIf.tt ?_ | refine VIf.ff ?_)
    refine VFn.p (hg i hlt _) ?_
    repeat (first | refine VIf.tt ?_ | refine VIf.ff ?_)
    refine VFn.p (hg i hlt _) ?_
    repeat (first | refine VIf.tt ?_ | refine VIf.ff ?_)
    refine VArith.ok (by first | omega | (simp only; omega)) (by first | omega | (simp only; omega)) ?_
    refine ⟨i + 1, hlt, (by first | omega | (simp only; omega)), ?_⟩
    dsimp only
    rw [take_step _ _ ps (0, 0) hlt, take_step _ _ ps (0, 0) hlt]
    exact (Wk.mk' id (by repeat' constructor) (by repeat' constructor) (injOK_id _) rfl rfl rfl)
  · have : i = ps.length := by have := ge_of_dec hge; omega
    subst this
    repeat (first | refine VIf.tt ?_ | refine VIf.ff ?_)
    refine VFact.mk ⟨?_, rfl⟩ trivial
    rw [List.take_length]
    rfl
theorem Box1_fn (p : Pt) (M : Mem) : FnP Try.prog 37 [ptv p] M [.int .i64 p.1] := by
  refine Fn.of_vc cxOK Try.func37 rfl rfl rfl ?_
  repeat (first | refine VIf.tt ?_ | refine VIf.ff ?_)
  exact VFact.mk ⟨rfl, rfl⟩ trivial
theorem Box2_fn (p : Pt) (M : Mem) : FnP Try.prog 38 [ptv p] M [.int .i64 p.2] := by
  refine Fn.of_vc cxOK Try.func38 rfl rfl rfl ?_
  repeat (first | refine VIf.tt ?_ | refine VIf.ff ?_)
  exact VFact.mk ⟨rfl, rfl⟩ trivial
def boxLo (ps : List Pt) : Pt := (loB (·.1) ps, loB (·.2) ps)
def boxHi (ps : List Pt) : Pt := (hiB (·.1) ps, hiB (·.2) ps)
theorem Box_fn (v : Value) (ps : List Pt) (M : Mem) (hv : Pts M v ps) (hi64 : i64P ps) : V.Fn Try.prog 16 [v] M fun rs _ => rs = if validB ps = true then [ptv (boxLo ps), ptv (boxHi ps), .int .i64 0] else [pt 0 0, pt 0 0, .int .i64 1] := by
  refine Fn.of_vc cxOK Try.func16 rfl rfl rfl ?_
  repeat (first | refine VIf.tt ?_ | refine VIf.ff ?_)
  refine VFn.mk _ (Valid_fn v ps M hv hi64) ?_
  rintro rs M' hM rfl
  repeat (first | refine VIf.tt ?_ | refine VIf.ff ?_)
  refine VIf.mk (fun hV => ?_) (fun hV => ?_)
  · repeat (first | refine VIf.tt ?_ | refine VIf.ff ?_)
    refine VDraw.go (by kernel_rfl) ?_
    have := bn1 hV
    repeat (first | refine VIf.tt ?_ | refine VIf.ff ?_)
    refine VFact.mk rfl ?_
    repeat (first | refine VIf.tt ?_ | refine VIf.ff ?_)
    refine VFact.mk ?_ trivial
    rw [this]; rfl
  · have hV := bn2 hV
    have hn : 1 ≤ ps.length := by simp only [validB, Bool.and_eq_true, decide_eq_true_eq] at hV; omega
    repeat (first | refine VIf.tt ?_ | refine VIf.ff ?_)
    refine VFn.p (ends_fn v ps _ (·.1) _ (hv.le hM) hn (fun i _ M' => Box1_fn _ M')) ?_
    repeat (first | refine VIf.tt ?_ | refine VIf.ff ?_)
    refine VFn.p (ends_fn v ps _ (·.2) _ (hv.le hM) hn (fun i _ M' => Box2_fn _ M')) ?_
    repeat (first | refine VIf.tt ?_ | refine VIf.ff ?_)
    refine VDraw.go (by kernel_rfl) ?_
    repeat (first | refine VIf.tt ?_ | refine VIf.ff ?_)
    refine VFact.mk rfl ?_
    repeat (first | refine VIf.tt ?_ | refine VIf.ff ?_)
    refine VFact.mk ?_ trivial
    rw [hV]; rfl
end Go.Proofs.Ytlihojecopfgfaa

/- Contracts: hull.Has. -/
namespace Go.Proofs.Ytlihojecopfgfaa
open Go Go.V Go.RowKit
theorem has_small (ps : List Pt) (hn : ps.length = 1 ∨ ps.length = 2) (x : Pt) :
    hasB ps x = (decide (crossP (gp ps 0) (gp ps (ps.length - 1)) x = 0) && decide ((boxLo ps).1 ≤ x.1) && decide (x.1 ≤ (boxHi ps).1) && decide ((boxLo ps).2 ≤ x.2) && decide (x.2 ≤ (boxHi ps).2)) := by
  match ps, hn with
  | [p], _ =>
    rw [Bool.eq_iff_iff]
    simp only [hasB, List.length_cons, List.length_nil, boxLo, boxHi, loB, hiB, gp, List.getD_cons_zero, List.foldl_cons, List.foldl_nil, Bool.and_eq_true, decide_eq_true_eq, if_true, beq_iff_eq]
    constructor
    · rintro rfl; simp [crossP_self]
    · rintro ⟨⟨⟨h1, h2⟩, h3⟩, h4⟩
      exact Prod.ext (by omega) (by omega)
  | [p, q], _ =>
    rw [Bool.eq_iff_iff]
    simp only [hasB, betwB, List.length_cons, List.length_nil, boxLo, boxHi, loB, hiB, gp, List.getD_cons_zero, List.getD_cons_succ, List.foldl_cons, List.foldl_nil, Bool.and_eq_true, decide_eq_true_eq, Nat.reduceAdd, Nat.reduceSub, Nat.reduceEqDiff, if_true, if_false]
    omega
  | [], h => simp at h
  | _ :: _ :: _ :: _, h => simp at h
set_option maxRecDepth 20000 in
theorem Has_fn (v : Value) (ps : List Pt) (x y : Int) (M : Mem) (hv : Pts M v ps) (hi64 : i64P ps) (hx : i64r x) (hy : i64r y) : V.Fn Try.prog 11 [v, pt x y] M fun rs _ => rs = if (validB ps && placeB (x, y)) = true then [.bool (hasB ps (x, y)), .int .i64 0] else [.bool false, .int .i64 1] := by
  obtain ⟨ad, c, rfl⟩ := hv.shape
  obtain ⟨_, hm, hrd⟩ := hv.cellsOf
  unfold maxLen at hm
  refine Fn.of_vc cxOK Try.func11 rfl rfl rfl ?_
  repeat (first | refine VIf.tt ?_ | refine VIf.ff ?_)
  refine VFn.mk _ (Valid_fn _ ps M hv hi64) ?_
  rintro rs M1 hM1 rfl
  repeat (first | refine VIf.tt ?_ | refine VIf.ff ?_)
  refine VIf.mk (fun hV => ?_) (fun hV => ?_)
  · repeat (first | refine VIf.tt ?_ | refine VIf.ff ?_)
    refine VFact.mk ?_ trivial
    rw [bn1 hV]; rfl
  have hV := bn2 hV
  have hC := allC_of hV
  have hn1 : 1 ≤ ps.length := by simp only [validB, Bool.and_eq_true, decide_eq_true_eq] at hV; omega
  repeat (first | refine VIf.tt ?_ | refine VIf.ff ?_)
  refine VFn.p (isPlace_fn _ _ _ hx hy) ?_
  repeat (first | refine VIf.tt ?_ | refine VIf.ff ?_)
  refine VIf.mk (fun hP => ?_) (fun hP => ?_)
  · repeat (first | refine VIf.tt ?_ | refine VIf.ff ?_)
    refine VFact.mk ?_ trivial
    rw [show placeB (x, y) = false from bn1 hP, Bool.and_false]; rfl
  have hP : placeB (x, y) = true := bn2 hP
  have hxy : isC x ∧ isC y := by
    simp only [placeB, Bool.and_eq_true] at hP
    exact ⟨isCb_iff.1 hP.1, isCb_iff.1 hP.2⟩
  rw [hV, hP]
  repeat (first | refine VIf.tt ?_ | refine VIf.ff ?_)
  refine VIf.mk (fun h3 => ?_) (fun h3 => ?_)
  · have h3 : ps.length = 1 ∨ ps.length = 2 := by simp only [decide_eq_true_eq] at h3; omega
    repeat (first | refine VIf.tt ?_ | refine VIf.ff ?_)
    refine VFn.mk _ (Box_fn _ ps M1 (hv.le hM1) hi64) ?_
    rintro rs M2 hM2 rfl
    rw [hV]
    have hs := has_small ps h3 (x, y)
    obtain ⟨lx, ly, hlo⟩ : ∃ lx ly, boxLo ps = (lx, ly) := ⟨_, _, rfl⟩
    obtain ⟨hx', hy', hhi⟩ : ∃ hx hy, boxHi ps = (hx, hy) := ⟨_, _, rfl⟩
    rw [hlo, hhi] at hs
    rw [hlo, hhi, hs]
    obtain ⟨ad', rfl, hp0⟩ := hrd M2 (hM1.trans hM2) 0 (by omega)
    obtain ⟨_, he, hp1⟩ := hrd M2 (hM1.trans hM2) (ps.length - 1) (by omega)
    cases he
    repeat (first | refine VIf.tt ?_ | refine VIf.ff ?_)
    refine VDraw.go (by kernel_rfl) ?_
    repeat (first | refine VIf.tt ?_ | refine VIf.ff ?_)
    refine VIdx.mk ad' 0 rfl rfl (by omega) ?_
    repeat (first | refine VIf.tt ?_ | refine VIf.ff ?_)
    refine VReads.mk [.int .i64 (gp ps 0).1, .int .i64 (gp ps 0).2] rfl hp0 ?_
    repeat (first | refine VIf.tt ?_ | refine VIf.ff ?_)
    refine VArith.ok (by first | omega | (simp only; omega)) (by first | omega | (simp only; omega)) ?_
    repeat (first | refine VIf.tt ?_ | refine VIf.ff ?_)
    refine VIdx.mk ad' (ps.length - 1) rfl (by omega) (by omega) ?_
    repeat (first | refine VIf.tt ?_ | refine VIf.ff ?_)
    refine VReads.mk [.int .i64 (gp ps (ps.length - 1)).1, .int .i64 (gp ps (ps.length - 1)).2] rfl hp1 ?_
    have htf := turn_fn _ _ _ _ _ _ M2 (hC 0 (by omega)).1 (hC 0 (by omega)).2 (hC (ps.length - 1) (by omega)).1 (hC (ps.length - 1) (by omega)).2 hxy.1 hxy.2
    have hcr : crossP (gp ps 0) (gp ps (ps.length - 1)) (x, y) = cross (gp ps 0).1 (gp ps 0).2 (gp ps (ps.length - 1)).1 (gp ps (ps.length - 1)).2 x y := rfl
    generalize cross (gp ps 0).1 (gp ps 0).2 (gp ps (ps.length - 1)).1 (gp ps (ps.length - 1)).2 x y = cr at htf hcr
    repeat (first | refine VIf.tt ?_ | refine VIf.ff ?_)
    refine VFn.p htf ?_
    repeat' (first | refine VIf.tt ?_ | refine VIf.ff ?_ | refine VIf.mk (fun _ => ?_) (fun _ => ?_))
    all_goals (refine VFact.mk ?_ trivial)
    all_goals (show _ = _; rw [hcr]; refine congrArg (fun b => [Value.bool b, Value.int .i64 0]) ?_)
    all_goals simp_all
    all_goals omega
  · have h3 : ¬ ps.length < 3 := by simp only [decide_eq_false_iff_not] at h3; omega
    repeat (first | refine VIf.tt ?_ | refine VIf.ff ?_)
    refine VFn.mk _ (sides_fn _ _ _ _) ?_
    rintro rs M2 hM2 ⟨B, rfl, hB⟩
    have hM2' : M.le M2 := hM1.trans hM2
    repeat (first | refine VIf.tt ?_ | refine VIf.ff ?_)
    refine VCode.rangeB cxOK rfl (sides_iter M2 B _ ps hB (hv.le hM2')) (fun x hx => ?_) [(3, .box 0 0), (4, .box 1 0), (5, .box 2 0)] rfl (by kernel_rfl) (by kernel_rfl) Unit
      (fun k s => ⟨[(3, .box 0 0), (4, .box 1 0), (5, .box 2 0)], [(2, some (.box 29 [.v (.int .i64 0)])), (1, some (.box 4 [.v (.bool false)])), (0, some (.box 26 [.v (.int .i64 x), .v (.int .i64 y)]))], 3, M2, 77, ⟨fun _ => none, none, fun _ => none⟩⟩)
      (fun k s => ∀ j, j < k → sideB ps (x, y) j = true) () (fun j hj => by omega) ?_ (fun k s => ⟨rfl, rfl⟩) ?_ ?_
    · simp only [sidesL, List.mem_map] at hx
      obtain ⟨k, _, rfl⟩ := hx
      rfl
    · exact (Wk.mk' id (by repeat' constructor) (by repeat' constructor) (injOK_id _) rfl rfl rfl)
    · rintro k s args hz hxs m f
      obtain ⟨hk, rfl⟩ := sidesL_get hxs
      have hk' : (k + 1) % ps.length < ps.length := Nat.mod_lt _ (by omega)
      intro m'
      repeat (first | refine VIf.tt ?_ | refine VIf.ff ?_)
      refine VFn.p (turn_fn _ _ _ _ _ _ _ (hC k hk).1 (hC k hk).2 (hC _ hk').1 (hC _ hk').2 hxy.1 hxy.2) ?_
      repeat (first | refine VIf.tt ?_ | refine VIf.ff ?_)
      refine VIf.mk (fun ht => ?_) (fun ht => ?_)
      · refine ⟨(⟨[(3, .box 0 0), (4, .box 1 0), (5, .box 2 0)], [(2, some (.box 29 [.v (.int .i64 0)])), (1, some (.box 4 [.v (.bool false)])), (0, some (.box 26 [.v (.int .i64 x), .v (.int .i64 y)]))], 3, M2, 77, ⟨fun _ => none, none, fun _ => none⟩⟩ : St), (Wk.mk' id (by repeat' constructor) (by repeat' constructor) (injOK_id _) rfl rfl rfl), rfl, rfl, fun m => ?_⟩
        repeat (first | refine VIf.tt ?_ | refine VIf.ff ?_)
        refine VFact.mk ?_ trivial
        have ht := of_decide_eq_true ht
        have : sideB ps (x, y) k = false := decide_eq_false (Int.not_le.2 ht)
        simp [hasB, show ps.length ≠ 1 by omega, show ps.length ≠ 2 by omega, all_false hk this]
      · have ht := of_decide_eq_false ht
        exact ⟨(), stepI hz (decide_eq_true (Int.not_lt.1 ht)), (Wk.mk' id (by repeat' constructor) (by repeat' constructor) (injOK_id _) rfl rfl rfl)⟩
    · rintro s m hz
      repeat (first | refine VIf.tt ?_ | refine VIf.ff ?_)
      refine VFact.mk ?_ trivial
      have : (List.range ps.length).all (sideB ps (x, y)) = true := all_true fun j hj => hz j (by simpa [sidesL] using hj)
      simp [hasB, show ps.length ≠ 1 by omega, show ps.length ≠ 2 by omega, this]
end Go.Proofs.Ytlihojecopfgfaa

/- Contracts: rising lists, comparisons of lists. -/
namespace Go.Proofs.Ytlihojecopfgfaa
open Go Go.V Go.RowKit
theorem gi_idx {l : List Int} {i : Nat} (h : i < l.length) : l[i]? = some (gi l i) := getD_get 0 h
theorem lexB_drop : ∀ (a b : List Int) (i : Nat), i ≤ a.length → i ≤ b.length → (∀ j, j < i → gi a j = gi b j) → lexB (a.drop i) (b.drop i) = lexB a b
  | _, _, 0, _, _, _ => by simp
  | [], _, i + 1, h, _, _ => by simp at h
  | _ :: _, [], i + 1, _, h, _ => by simp at h
  | x :: a, y :: b, i + 1, h1, h2, h => by
    have h0 := h 0 (by omega)
    simp only [gi, List.getD_cons_zero] at h0
    subst h0
    rw [List.drop_succ_cons, List.drop_succ_cons, lexB_drop a b i (by simpa using h1) (by simpa using h2) (fun j hj => by have := h (j + 1) (by omega); simpa [gi] using this)]
    simp [lexB, (cmpI_sgn x x).2]
theorem drop_gi {l : List Int} {i : Nat} (h : i < l.length) : l.drop i = gi l i :: l.drop (i + 1) := by
  rw [List.drop_eq_getElem_cons h]; simp [gi, h]
end Go.Proofs.Ytlihojecopfgfaa

/- Contracts: comparisons of cases. -/
namespace Go.Proofs.Ytlihojecopfgfaa
open Go Go.V Go.RowKit
def small (l : List Int) : Prop := ∀ i, i < l.length → -1000000 ≤ gi l i ∧ gi l i ≤ 1000000
theorem small_of {lo hi : Int} {l : List Int} (h : risingB lo hi l = true) (h1 : -1000000 ≤ lo) (h2 : hi ≤ 1000000) : small l := fun i hi' => by
  have := all_iff.1 h i hi'
  simp only [rise1, Bool.and_eq_true, decide_eq_true_eq] at this
  omega
theorem diffB_drop : ∀ (a b : List Int) (i : Nat), i ≤ a.length → i ≤ b.length → (∀ j, j < i → gi a j = gi b j) → diffB (a.drop i) (b.drop i) = diffB a b
  | _, _, 0, _, _, _ => by simp
  | [], _, i + 1, h, _, _ => by simp at h
  | _ :: _, [], i + 1, _, h, _ => by simp at h
  | x :: a, y :: b, i + 1, h1, h2, h => by
    have h0 := h 0 (by omega)
    simp only [gi, List.getD_cons_zero] at h0
    subst h0
    rw [List.drop_succ_cons, List.drop_succ_cons, diffB_drop a b i (by simpa using h1) (by simpa using h2) (fun j hj => by have := h (j + 1) (by omega); simpa [gi] using this)]
    simp [diffB]
theorem one_get {xs : List Value} {off : Nat} {x : Value} (h : xs[off + 0]? = some x) : ∀ (j : Nat) (v : Value), [x][j]? = some v → xs[off + j]? = some v
  | 0, v, hj => by rw [← hj]; exact h
  | j + 1, v, hj => by simp at hj
theorem cellAt {M : Mem} {B : Nat} {cs : Array Value} {t : TypeId} (h : M B = some (.cells cs t (0, 0))) (j : Nat) {v : Value} (hv : cs[j]? = some v) : M.cell ((⟨B, 0, none⟩ : Addr).add j) = some v := by
  unfold Mem.cell Addr.add
  by_cases e : j = 0
  · subst e; simp only [if_true, h]; exact hv
  · simp only [e, if_false, h, Nat.zero_add]; exact hv
end Go.Proofs.Ytlihojecopfgfaa

/- Contracts: regions. -/
namespace Go.Proofs.Ytlihojecopfgfaa
open Go Go.V Go.RowKit
def gr (r : List (List Pt)) (i : Nat) : List Pt := r.getD i []
theorem any_getD {α : Type} (d : α) (g : α → Bool) (l : List α) {i : Nat} (hi : i < l.length) (h : g (l.getD i d) = true) : l.any g = true := by
  rw [List.any_eq_true]
  exact ⟨_, List.getElem_mem hi, by simpa [hi] using h⟩
theorem any_none {α : Type} (d : α) (g : α → Bool) (l : List α) (h : ∀ i, i < l.length → g (l.getD i d) = false) : l.any g = false := by
  rw [List.any_eq_false]
  intro x hx
  obtain ⟨i, hi, rfl⟩ := List.getElem_of_mem hx
  have := h i hi
  simp [hi] at this
  simp [this]
theorem all_getD {α : Type} (d : α) (g : α → Bool) (l : List α) (h : ∀ i, i < l.length → g (l.getD i d) = true) : l.all g = true := by
  rw [List.all_eq_true]
  intro x hx
  obtain ⟨i, hi, rfl⟩ := List.getElem_of_mem hx
  have := h i hi
  simpa [hi] using this
theorem all_getD' {α : Type} (d : α) (g : α → Bool) (l : List α) {i : Nat} (hi : i < l.length) (h : g (l.getD i d) = false) : l.all g = false := by
  cases hb : l.all g with
  | false => rfl
  | true =>
    have := List.all_eq_true.1 hb _ (List.getElem_mem hi)
    simp [hi] at h
    rw [h] at this; cases this
theorem all_at {α : Type} (d : α) {g : α → Bool} {l : List α} (h : l.all g = true) {i : Nat} (hi : i < l.length) : g (l.getD i d) = true := by
  have := List.all_eq_true.1 h _ (List.getElem_mem hi)
  simpa [hi] using this
theorem not_any {α : Type} (g : α → Bool) : ∀ l : List α, (!l.any fun x => !g x) = l.all g
  | [] => rfl
  | x :: l => by
    have := not_any g l
    simp only [List.any_cons, List.all_cons, Bool.not_or, Bool.not_not, this]
end Go.Proofs.Ytlihojecopfgfaa

/- Contracts: lists of cases. -/
namespace Go.Proofs.Ytlihojecopfgfaa
open Go Go.V Go.RowKit
theorem IntsV.one {M : Mem} {v : Value} {l : List Int} (h : IntsV M v l) : v.oneCell' = true := by obtain ⟨ad, c, rfl, _⟩ := h.get; rfl
theorem RegV.one {M : Mem} {v : Value} {l : List (List Pt)} (h : RegV M v l) : v.oneCell' = true := by obtain ⟨ad, c, rfl, _⟩ := h.get; rfl
theorem gc_step {cs : List CaseS} {i : Nat} (h1 : case1 (gc cs i) = true) (h2 : 0 < i → caseC (gc cs (i - 1)) (gc cs i) < 0) : caseV cs i = true := by
  simp only [caseV, h1, Bool.true_and, Bool.or_eq_true, beq_iff_eq, decide_eq_true_eq]
  by_cases e : i = 0
  · exact .inl e
  · exact .inr (h2 (by omega))
end Go.Proofs.Ytlihojecopfgfaa

/- Contracts: cut.Within, and the reference's. -/
namespace Go.Proofs.Ytlihojecopfgfaa
open Go Go.V Go.RowKit
theorem len_eq (a b : Nat) : ((a : Int) == (b : Int)) = decide (a = b) := by rw [Bool.eq_iff_iff]; simp; omega
theorem injOK_one (r : Nat → Nat) (i : Nat) (e : Option OE) : injOK r [(i, e)] := ⟨fun j hj => by simp at hj, trivial⟩
theorem take_filter {α : Type} (d : α) (g : α → Bool) (l : List α) {i : Nat} (h : i < l.length) : (l.take (i + 1)).filter g = (l.take i).filter g ++ (if g (l.getD i d) = true then [l.getD i d] else []) := by
  rw [List.take_add_one, List.filter_append]
  simp [h, List.filter_cons]
theorem cellsP_snoc (l : List Pt) (p : Pt) : cellsP (l ++ [p]) = cellsP l ++ [.int .i64 p.1, .int .i64 p.2] := by simp [cellsP]
theorem flt_le {α : Type} (g : α → Bool) (l : List α) (i : Nat) : ((l.take i).filter g).length ≤ l.length := Nat.le_trans (List.length_filter_le _ _) (by rw [List.length_take]; omega)
theorem valid_len {ps : List Pt} (h : validB ps = true) : 1 ≤ ps.length ∧ ps.length ≤ 64 := by simp only [validB, Bool.and_eq_true, decide_eq_true_eq] at h; exact h.1.1
theorem allC_place {ps : List Pt} (h : allC ps) {i : Nat} (hi : i < ps.length) : placeB (gp ps i) = true := by
  simp only [placeB, Bool.and_eq_true]; exact ⟨isCb_iff.2 (h i hi).1, isCb_iff.2 (h i hi).2⟩
theorem isC_i64 {x : Int} (h : isC x) : i64r x := by unfold isC i64r at *; omega
theorem corners_fn (v w : Value) (ps qs : List Pt) (M : Mem) (hv : Pts M v ps) (hw : Pts M w qs) (hC : allC ps) (hl : ps.length ≤ 100000) (hq : validB qs = true) : V.Fn Try.prog 42 [v, w] M fun rs M' => ∃ u, rs = [u] ∧ Pts M' u (ps.filter (hasB qs)) := by
  obtain ⟨ad, c, rfl⟩ := hv.shape
  obtain ⟨_, hm, hrd⟩ := hv.cellsOf
  unfold maxLen at hm
  refine Fn.of_vc cxOK Try.func42 rfl rfl rfl ?_
  have hq64 : i64P qs := fun i hi => ⟨isC_i64 (allC_of hq i hi).1, isC_i64 (allC_of hq i hi).2⟩
  repeat (first | refine VIf.tt ?_ | refine VIf.ff ?_)
  refine VCode.loop cxOK (Nat × Mem × List Pt)
    (fun s => ⟨[(0, .v (.slice ad ps.length c)), (1, .v w), (5, .row 0), (10, .v (.slice ad ps.length c)), (11, .v (.int .i64 ps.length)), (12, .v (.int .i64 s.1))], [(0, some (.row 26 2 s.2.2.length (cellsP s.2.2)))], 1, s.2.1, 29, ⟨fun _ => none, none, fun _ => none⟩⟩)
    (fun s => M.le s.2.1 ∧ s.1 ≤ ps.length ∧ s.2.2 = (ps.take s.1).filter (hasB qs)) (fun s => ps.length - s.1) (0, M, []) ⟨Mem.le_refl _, Nat.zero_le _, by simp⟩ ?_ ?_
  · exact Wk.nil 5 26 2 rfl (Wk.mk' id (by repeat' constructor) (by repeat' constructor) (injOK_id _) rfl rfl rfl)
  rintro ⟨i, M1, F⟩ ⟨hM1, hi, hF⟩ m
  have hM1 : M.le M1 := hM1
  have hi : i ≤ ps.length := hi
  have hF : F = (ps.take i).filter (hasB qs) := hF
  have hFl : F.length ≤ ps.length := by rw [hF]; exact flt_le _ _ _
  repeat (first | refine VIf.tt ?_ | refine VIf.ff ?_)
  refine VIf.mk (fun hlt => ?_) (fun hge => ?_)
  · have hlt : i < ps.length := lt_of_dec hlt
    obtain ⟨ad', rfl, hpi⟩ := hrd M1 hM1 i hlt
    have hs := take_filter (0, 0) (hasB qs) ps hlt
    rw [← hF] at hs
    repeat (first | refine VIf.tt ?_ | refine VIf.ff ?_)
    refine VIdx.mk ad' i rfl rfl hlt ?_
    repeat (first | refine VIf.tt ?_ | refine VIf.ff ?_)
    refine VReads.mk [.int .i64 (gp ps i).1, .int .i64 (gp ps i).2] rfl hpi ?_
    repeat (first | refine VIf.tt ?_ | refine VIf.ff ?_)
    refine VFn.mk _ (Has_fn w qs (gp ps i).1 (gp ps i).2 M1 (hw.le hM1) hq64 (isC_i64 (hC i hlt).1) (isC_i64 (hC i hlt).2)) ?_
    rintro rs M2 hM2 rfl
    rw [hq, allC_place hC hlt]
    repeat (first | refine VIf.tt ?_ | refine VIf.ff ?_)
    refine VIf.mk (fun hb => ?_) (fun hb => ?_)
    · repeat (first | refine VIf.tt ?_ | refine VIf.ff ?_)
      refine VFact.mk (by simp only; omega) ?_
      repeat (first | refine VIf.tt ?_ | refine VIf.ff ?_)
      refine VArith.ok (by first | omega | (simp only; omega)) (by first | omega | (simp only; omega)) ?_
      rw [show hasB qs (ps.getD i (0, 0)) = true from hb, if_pos rfl] at hs
      exact ⟨(i + 1, M2, F ++ [gp ps i]), ⟨hM1.trans hM2, hlt, hs.symm⟩, (by first | omega | (simp only; omega)), Wk.mk' (fun _ => 3) (by repeat' constructor) ⟨⟨rfl, rfl, rfl, by simp, cellsP_snoc F _⟩, trivial⟩ (injOK_one _ _ _) rfl rfl rfl⟩
    · repeat (first | refine VIf.tt ?_ | refine VIf.ff ?_)
      refine VArith.ok (by first | omega | (simp only; omega)) (by first | omega | (simp only; omega)) ?_
      rw [show hasB qs (ps.getD i (0, 0)) = false from hb] at hs
      exact ⟨(i + 1, M2, F), ⟨hM1.trans hM2, hlt, by simpa using hs.symm⟩, (by first | omega | (simp only; omega)), (Wk.mk' id (by repeat' constructor) (by repeat' constructor) (injOK_id _) rfl rfl rfl)⟩
  · have : i = ps.length := by have := ge_of_dec hge; omega
    subst this
    repeat (first | refine VIf.tt ?_ | refine VIf.ff ?_)
    refine VFz.mk fun x B M' hle hx => ?_
    repeat (first | refine VIf.tt ?_ | refine VIf.ff ?_)
    refine VFact.mk ⟨x, rfl, ?_⟩ trivial
    rw [List.take_length] at hF
    rw [← hF]; exact hx
theorem Within_fn (v w : Value) (ps qs : List Pt) (M : Mem) (hv : Pts M v ps) (hw : Pts M w qs) (hp64 : i64P ps) (hq64 : i64P qs) : V.Fn Try.prog 19 [v, w] M fun rs _ => rs = if (validB ps && validB qs) = true then [.bool (withinB ps qs), .int .i64 0] else [.bool false, .int .i64 1] := by
  obtain ⟨ad, c, rfl⟩ := hv.shape
  refine Fn.of_vc cxOK Try.func19 rfl rfl rfl ?_
  repeat (first | refine VIf.tt ?_ | refine VIf.ff ?_)
  refine VFn.mk _ (Valid_fn _ ps M hv hp64) ?_
  rintro rs M1 hM1 rfl
  repeat (first | refine VIf.tt ?_ | refine VIf.ff ?_)
  refine VIf.mk (fun h1 => ?_) (fun h1 => ?_)
  · repeat (first | refine VIf.tt ?_ | refine VIf.ff ?_)
    refine VFact.mk ?_ trivial
    rw [bn1 h1]; rfl
  repeat (first | refine VIf.tt ?_ | refine VIf.ff ?_)
  refine VFn.mk _ (Valid_fn _ qs M1 (hw.le hM1) hq64) ?_
  rintro rs M2 hM2 rfl
  repeat (first | refine VIf.tt ?_ | refine VIf.ff ?_)
  refine VIf.mk (fun h2 => ?_) (fun h2 => ?_)
  · repeat (first | refine VIf.tt ?_ | refine VIf.ff ?_)
    refine VFact.mk ?_ trivial
    rw [bn1 h2, Bool.and_false]; rfl
  have h1 := bn2 h1
  have h2 := bn2 h2
  have hl := valid_len h1
  repeat (first | refine VIf.tt ?_ | refine VIf.ff ?_)
  refine VFn.mk _ (corners_fn _ w ps qs M2 (hv.le (hM1.trans hM2)) (hw.le (hM1.trans hM2)) (allC_of h1) (by omega) h2) ?_
  rintro rs M3 hM3 ⟨u, rfl, hu⟩
  obtain ⟨ud, uc, rfl⟩ := hu.shape
  repeat (first | refine VIf.tt ?_ | refine VIf.ff ?_)
  refine VFact.mk ?_ trivial
  rw [h1, h2]
  show [Value.bool _, _] = [Value.bool _, _]
  rw [withinB, ← filter_len (hasB qs) ps, ← len_eq]
  try rfl
end Go.Proofs.Ytlihojecopfgfaa

/- Contracts: the polygons of cases, one after the other. -/
namespace Go.Proofs.Ytlihojecopfgfaa
open Go Go.V Go.RowKit
/-- Values that say polygons. -/
def PW (M : Mem) : List Value → List (List Pt) → Prop
  | [], [] => True
  | w :: ws, p :: ps => (Pts M w p ∧ i64P p) ∧ PW M ws ps
  | _, _ => False
theorem PW.append {M : Mem} : ∀ {a : List Value} {b : List (List Pt)} {c d}, PW M a b → PW M c d → PW M (a ++ c) (b ++ d)
  | [], [], _, _, _, h => h
  | _ :: _, _ :: _, _, _, h, k => ⟨h.1, PW.append h.2 k⟩
  | [], _ :: _, _, _, h, _ => h.elim
  | _ :: _, [], _, _, h, _ => h.elim
theorem PW.get {M : Mem} : ∀ {a : List Value} {b : List (List Pt)}, PW M a b → a.length = b.length ∧ ∀ k w, a[k]? = some w → Pts M w (gr b k) ∧ i64P (gr b k)
  | [], [], _ => ⟨rfl, fun k w h => by simp at h⟩
  | x :: a, y :: b, h => by
    obtain ⟨h1, h2⟩ := PW.get h.2
    refine ⟨by simp [h1], fun k w hk => ?_⟩
    match k, hk with
    | 0, hk => simp at hk; subst hk; exact h.1
    | k + 1, hk => simp at hk; simpa [gr] using h2 k w hk
  | [], _ :: _, h => h.elim
  | _ :: _, [], h => h.elim
theorem PW.of {M : Mem} (d : Value) : ∀ {a : List Value} {b : List (List Pt)}, a.length = b.length → (∀ k, k < b.length → Pts M (a.getD k d) (gr b k) ∧ i64P (gr b k)) → PW M a b
  | [], [], _, _ => trivial
  | x :: a, y :: b, h, hk => ⟨by simpa [gr] using hk 0 (by simp), PW.of d (by simpa using h) fun k h' => by simpa [gr] using hk (k + 1) (by simpa using h')⟩
  | [], _ :: _, h, _ => by simp at h
  | _ :: _, [], h, _ => by simp at h
theorem PW.flat {M : Mem} (f : Nat → List Value) (g : Nat → List (List Pt)) : ∀ l : List Nat, (∀ i ∈ l, PW M (f i) (g i)) → PW M (l.flatMap f) (l.flatMap g)
  | [], _ => trivial
  | i :: l, h => by
    rw [List.flatMap_cons, List.flatMap_cons]
    exact PW.append (h i (List.mem_cons_self)) (PW.flat f g l fun j hj => h j (List.mem_cons_of_mem _ hj))
theorem flat_range {α β : Type} (d : α) (g : α → List β) (l : List α) : l.flatMap g = (List.range l.length).flatMap fun i => g (l.getD i d) := by
  have : l = (List.range l.length).map fun i => l.getD i d := by
    apply List.ext_getElem
    · simp
    · intro i h1 h2
      simp at h2
      simp [h2]
  conv => lhs; rw [this]
  rw [List.flatMap_map]
/-- A region whose polygons' values are named. -/
def RegW (M : Mem) (s : Value) (st : List (List Pt)) (ws : List Value) : Prop :=
  ws.length = st.length ∧ ∃ ad c, s = .slice ad st.length c ∧ st.length ≤ 9223372036854775807 ∧ ∀ M', M.le M' → ∀ j, j < st.length → ∃ ad', ad = some ad' ∧ M'.cell (ad'.add (j * 1)) = some (ws.getD j (.bool false)) ∧ Pts M' (ws.getD j (.bool false)) (gr st j) ∧ i64P (gr st j)
theorem RegV.w {M : Mem} {s : Value} {st : List (List Pt)} (h : RegV M s st) : ∃ ws, RegW M s st ws := by
  obtain ⟨ad, c, h1, h2, h3⟩ := h.get
  have h4 : ∀ i, ∃ w, i < st.length → ∃ ad', ad = some ad' ∧ Pts M w (gr st i) ∧ i64P (gr st i) ∧ M.cell (ad'.add (i * 1)) = some w := fun i => by
    by_cases hi : i < st.length
    · obtain ⟨ad', w, h⟩ := h3 M (Mem.le_refl _) i hi
      exact ⟨w, fun _ => ⟨ad', h⟩⟩
    · exact ⟨.bool false, fun h => absurd h hi⟩
  obtain ⟨f, hf⟩ := Classical.axiomOfChoice h4
  refine ⟨(List.range st.length).map f, by simp, ad, c, h1, h2, fun M' hM j hj => ?_⟩
  obtain ⟨ad', h5, h6, h7, h8⟩ := hf j hj
  have e : ((List.range st.length).map f).getD j (.bool false) = f j := by simp [hj]
  rw [e]
  exact ⟨ad', h5, Mem.cell_le hM h8, h6.le hM, h7⟩
theorem range_drop {n i : Nat} (h : i < n) : (List.range n).drop i = i :: (List.range n).drop (i + 1) := by
  rw [List.drop_eq_getElem_cons (by simpa using h)]; simp

end Go.Proofs.Ytlihojecopfgfaa

/- Contracts: the kind of an alarm, in the program and in the reference. -/
namespace Go.Proofs.Ytlihojecopfgfaa
open Go Go.V Go.RowKit
theorem cases_valid {cs : List CaseS} (h : casesB cs = true) {i : Nat} (hi : i < cs.length) : (gc cs i).st.all validB = true := by
  simp only [casesB, Bool.and_eq_true, all_iff] at h
  have := h.2 i hi
  simp only [caseV, case1, regionB, Bool.and_eq_true] at this
  exact this.1.1.1.2.2
theorem polys_valid {cs : List CaseS} (h : casesB cs = true) {k : Nat} (hk : k < (cs.flatMap (·.st)).length) : validB (gr (cs.flatMap (·.st)) k) = true := by
  have hm : gr (cs.flatMap (·.st)) k ∈ cs.flatMap (·.st) := by
    simp only [gr, List.getD_eq_getElem?_getD, List.getElem?_eq_getElem hk, Option.getD_some]; exact List.getElem_mem hk
  obtain ⟨c, hc, hp⟩ := List.mem_flatMap.1 hm
  obtain ⟨i, hi, rfl⟩ := List.getElem_of_mem hc
  have := cases_valid h hi
  simp only [gc, List.getD_eq_getElem?_getD, List.getElem?_eq_getElem hi, Option.getD_some] at this
  exact List.all_eq_true.1 this _ hp
theorem left_flat (cs : List CaseS) (q : List Pt) : leftB cs q = (cs.flatMap (·.st)).any fun p => !withinB p q := by
  rw [leftB, List.any_flatMap]
theorem any_all {α : Type} (g : α → Bool) : ∀ l : List α, (l.any fun x => !g x) = !l.all g
  | [] => rfl
  | x :: l => by simp only [List.any_cons, List.all_cons, Bool.not_and, any_all g l]
theorem left_all (cs : List CaseS) (q : List Pt) : leftB cs q = !cs.all fun c => c.st.all fun p => withinB p q := by
  rw [leftB, ← any_all]
  congr 1
  funext c
  exact any_all _ _
def raiseV (r : Int × Int) : List Value := [.int .i64 r.1, .int .i64 r.2]
end Go.Proofs.Ytlihojecopfgfaa

/- Contracts: the first alarm of beliefs; what is few. -/
namespace Go.Proofs.Ytlihojecopfgfaa
open Go Go.V Go.RowKit
def firstV (r : Int × Int × Int) : List Value := [.int .i64 r.1, .int .i64 r.2.1, .int .i64 r.2.2]
theorem first_lim {bs : List BelS} {q : List Pt} (h : 2001 < bs.length) : firstB bs q = (0, 0, 2) := if_pos h
theorem first_arg {bs : List BelS} {q : List Pt} (h : ¬ 2001 < bs.length) (hb : (belB bs && validB q) = false) : firstB bs q = (0, 0, 1) := by rw [firstB, if_neg h, hb]; rfl
theorem first_ok {bs : List BelS} {q : List Pt} (h : ¬ 2001 < bs.length) (hb : belB bs = true) (hq : validB q = true) : firstB bs q = ((fstB q bs).1, (fstB q bs).2, 0) := by rw [firstB, if_neg h, hb, hq]; rfl
theorem bel_cases {bs : List BelS} (h : belB bs = true) {i : Nat} (hi : i < bs.length) : casesB (gb bs i).cs = true := by
  have := all_iff.1 h i hi
  simp only [belV, Bool.and_eq_true] at this
  exact this.2
end Go.Proofs.Ytlihojecopfgfaa

/- Contracts: what is few; the head of the alarm's laws. -/
namespace Go.Proofs.Ytlihojecopfgfaa
open Go Go.V Go.RowKit
/-- The elements, one by one. -/
def DL {α : Type} (D : Mem → α → List Value → Prop) (M : Mem) : List α → List (List Value) → Prop
  | [], [] => True
  | x :: l, r :: rows => D M x r ∧ DL D M l rows
  | _, _ => False
theorem DL.get {α : Type} {D : Mem → α → List Value → Prop} {M : Mem} : ∀ {l : List α} {rows : List (List Value)}, DL D M l rows → rows.length = l.length ∧ ∀ (i : Nat) (x : α) (r : List Value), l[i]? = some x → rows[i]? = some r → D M x r
  | [], [], _ => ⟨rfl, fun i x r h => by simp at h⟩
  | x :: l, r :: rows, h => by
    obtain ⟨h1, h2⟩ := DL.get h.2
    refine ⟨by simp [h1], fun i y s hy hs => ?_⟩
    match i, hy, hs with
    | 0, hy, hs => simp at hy hs; subst hy hs; exact h.1
    | i + 1, hy, hs => exact h2 i y s (by simpa using hy) (by simpa using hs)
  | [], _ :: _, h => h.elim
  | _ :: _, [], h => h.elim
theorem Arr.of {α : Type} {D : Mem → α → List Value → Prop} {M : Mem} {k : Nat} {v : Value} {l : List α} (rows : List (List Value)) (hk : ∀ r ∈ rows, r.length = k) (h : SlAt M k v l.length rows.flatten) (hd : DL D M l rows) : Arr D M k v l :=
  ⟨rows, hd.get.1, hk, h, hd.get.2⟩
theorem SlAt.nil (M : Mem) (k : Nat) : SlAt M k (.slice none 0 0) 0 [] := ⟨none, 0, rfl, Nat.le_refl _, Nat.zero_le _, by simp, by simp, fun h => absurd h (Nat.lt_irrefl _)⟩
theorem IntsV.nil (M : Mem) : IntsV M (.slice none 0 0) [] := Arr.of [] (by simp) (SlAt.nil M 1) trivial
theorem RegV.nil (M : Mem) : RegV M (.slice none 0 0) [] := Arr.of [] (by simp) (SlAt.nil M 1) trivial
theorem CasV.nil (M : Mem) : CasV M (.slice none 0 0) [] := Arr.of [] (by simp) (SlAt.nil M 3) trivial
theorem RegV.of1 {M : Mem} {s p : Value} {ps : List Pt} (h : SlAt M 1 s 1 [p]) (hp : Pts M p ps) (h64 : i64P ps) : RegV M s [ps] :=
  Arr.of [[p]] (by simp) h ⟨⟨p, rfl, hp, h64⟩, trivial⟩
theorem CasV.of1 {M : Mem} {c s : Value} {st : List (List Pt)} (h : SlAt M 3 c 1 [.slice none 0 0, .slice none 0 0, s]) (hs : RegV M s st) : CasV M c [⟨[], [], st⟩] :=
  Arr.of [[.slice none 0 0, .slice none 0 0, s]] (by simp) h ⟨⟨_, _, _, rfl, IntsV.nil M, IntsV.nil M, hs⟩, trivial⟩
instance (x : Int) : Decidable (i64r x) := by unfold i64r; infer_instance
theorem i64_of {ps : List Pt} (h : (ps.all fun p => decide (i64r p.1) && decide (i64r p.2)) = true) : i64P ps := fun i hi => by
  have := all_at (0, 0) h hi
  simp only [Bool.and_eq_true, decide_eq_true_eq] at this
  exact this
theorem SlAt.shape {M : Mem} {k n : Nat} {v : Value} {xs : List Value} (h : SlAt M k v n xs) : ∃ a c, v = .slice a n c := let ⟨a, c, e, _⟩ := h; ⟨a, c, e⟩
theorem Pts.nil (M : Mem) : Pts M (.slice none 0 0) [] := SlAt.nil M 2
def protH : List Pt := [(0, 0), (10, 0), (10, 10), (0, 10)]
def outH : List CaseS := [⟨[], [], [[(11, 5)]]⟩]
def inH : List CaseS := [⟨[], [], [[(10, 5)]]⟩]
end Go.Proofs.Ytlihojecopfgfaa

/- The bridge from a law's arguments to the data in memory. -/
namespace Go.Proofs.Ytlihojecopfgfaa
open Go Go.V Go.RowKit
section
variable {H : Type} {enc : TypeId × Value → H} {P : Program} {w : World} {sp : Nat → Bool} {held : Bool}
/-- All that is in memory. -/
def memOf (w : World) : Mem := fun b => w.heap[b]?
theorem memOf_ok (w : World) : (memOf w).ok w := fun _ _ h => h
theorem memOf_cell {w : World} {a : Addr} {v : Value} (h : w.cell? a = some v) : (memOf w).cell a = some v := by
  unfold Mem.cell memOf
  unfold World.cell? at h
  cases hb : w.heap[a.block]? with
  | none => rw [hb] at h; cases h
  | some o => rw [hb] at h; cases o <;> first | exact h | cases h
/-- What a type's cells say. -/
def Opens {α : Type} (enc : TypeId × Value → H) (P : Program) (w : World) (sp : Nat → Bool) (held : Bool) (D : Mem → α → List Value → Prop) (t : TypeId) (k : Nat) : Prop :=
  ∀ fuel cs x, DataW.trod enc P w 0 sp held fuel t cs = some x → ∃ a, D (memOf w) a cs ∧ cs.length = k ∧ ∀ v ∈ cs, v.oneCell' = true
theorem wf_i64 {n : Int} (h : (Lit.int .i64 n).wf = true) : i64r n := by
  simp [Lit.wf, IntKind.min, IntKind.max, IntKind.signed, IntKind.bits] at h
  unfold i64r; omega
theorem opens_int {t : TypeId} (hu : P.underlying t = some (.int .i64)) : Opens enc P w sp held IntD t 1 := by
  intro fuel cs x h
  obtain ⟨n, rfl, _, hw⟩ := DataW.trod_int hu h
  exact ⟨n, ⟨rfl, wf_i64 hw⟩, rfl, by simp [Value.oneCell']⟩
/-- A list of what was found. -/
theorem list_of {α : Type} {R : Nat → α → Prop} : ∀ (n : Nat), (∀ i, i < n → ∃ x, R i x) → ∃ l : List α, l.length = n ∧ ∀ (i : Nat) (x : α), l[i]? = some x → R i x
  | 0, _ => ⟨[], rfl, fun i x h => by simp at h⟩
  | n + 1, h => by
    obtain ⟨l, h1, h2⟩ := list_of n fun i hi => h i (by omega)
    obtain ⟨x, hx⟩ := h n (by omega)
    refine ⟨l ++ [x], by simp [h1], fun i y hy => ?_⟩
    by_cases e : i < l.length
    · rw [List.getElem?_append_left e] at hy; exact h2 i y hy
    · rw [List.getElem?_append_right (by omega)] at hy
      have hi := (List.getElem?_eq_some_iff.1 hy).1
      simp at hi
      have : i = n := by omega
      subst this
      rw [h1] at hy
      simp at hy
      subst hy; exact hx
theorem opens_slice {α : Type} {D : Mem → α → List Value → Prop} {t e : TypeId} {k : Nat} (hu : P.underlying t = some (.slice e)) (hk : P.cellsOf e = k) (_hk0 : 0 < k) (hD : Opens enc P w sp held D e k) :
    Opens enc P w sp held (fun M l r => ∃ v, r = [v] ∧ Arr D M k v l) t 1 := by
  intro fuel cs x h
  rcases DataW.trod_slice hu h with ⟨rfl, _⟩ | ⟨a, len, cap, elems, rest, n, _, rfl, _, _, hl, hm, hlen, hel, _⟩
  · exact ⟨[], ⟨_, rfl, Arr.of [] (by simp) (SlAt.nil _ k) trivial⟩, rfl, by simp [Value.oneCell']⟩
  have h1 : ∀ i, i < len → ∃ q : α × List Value, D (memOf w) q.1 q.2 ∧ q.2.length = k ∧ (∀ v ∈ q.2, v.oneCell' = true) ∧ ∀ (j : Nat) (y : Value), q.2[j]? = some y → (memOf w).cell (a.add (i * k + j)) = some y := by
    intro i hi
    have h2 := hel i hi
    rw [List.getElem?_eq_getElem (by omega), Option.bind_eq_some_iff] at h2
    obtain ⟨r, hr, hy⟩ := h2
    obtain ⟨x, h3, h4, h5⟩ := hD _ _ _ hy
    obtain ⟨_, h6, h7⟩ := World.cells?_some hr
    refine ⟨(x, r), h3, h4, h5, fun j y hj => ?_⟩
    have hj' := (List.getElem?_eq_some_iff.1 hj).1
    simp only at hj'
    have h8 := h7 j (by omega)
    rw [hj, hk, Addr.add_add] at h8
    exact memOf_cell h8
  obtain ⟨l, hl1, hl2⟩ := list_of len h1
  have hrows : ∀ r ∈ l.map (·.2), r.length = k := fun r hr => by
    obtain ⟨q, hq, rfl⟩ := List.mem_map.1 hr
    obtain ⟨i, hi⟩ := List.getElem?_of_mem hq
    exact (hl2 i q hi).2.1
  refine ⟨l.map (·.1), ⟨_, rfl, l.map (·.2), by simp, hrows, ⟨some a, cap, ?_, ?_, hm, ?_, ?_, ?_⟩, ?_⟩, rfl, by simp [Value.oneCell']⟩
  · simp [hl1]
  · simp [hl1, hl]
  · have : ∀ rows : List (List Value), (∀ r ∈ rows, r.length = k) → rows.flatten.length = rows.length * k := by
      intro rows
      induction rows with
      | nil => simp
      | cons r rows ih => intro h; rw [List.flatten_cons, List.length_append, ih (fun r hr => h r (List.mem_cons_of_mem _ hr)), h r (List.mem_cons_self), List.length_cons, Nat.add_mul]; omega
    rw [this _ hrows]; simp
  · intro v hv
    obtain ⟨r, hr, hv⟩ := List.mem_flatten.1 hv
    obtain ⟨q, hq, rfl⟩ := List.mem_map.1 hr
    obtain ⟨i, hi⟩ := List.getElem?_of_mem hq
    exact (hl2 i q hi).2.2.1 v hv
  · intro _
    refine ⟨a, rfl, fun j v hj => ?_⟩
    have key : ∀ (rows : List (List Value)) (b : Nat), (∀ r ∈ rows, r.length = k) → (∀ i r, rows[i]? = some r → ∀ (j : Nat) (y : Value), r[j]? = some y → (memOf w).cell (a.add ((b + i) * k + j)) = some y) → ∀ (j : Nat) (v : Value), rows.flatten[j]? = some v → (memOf w).cell (a.add (b * k + j)) = some v := by
      intro rows
      induction rows with
      | nil => intro b _ _ j v hj; simp at hj
      | cons r rows ih =>
        intro b hk1 hk2 j v hj
        have hr := hk1 r (List.mem_cons_self)
        rw [List.flatten_cons] at hj
        by_cases e : j < r.length
        · rw [List.getElem?_append_left e] at hj
          exact hk2 0 r rfl j v hj
        · rw [List.getElem?_append_right (by omega)] at hj
          have := ih (b + 1) (fun r hr => hk1 r (List.mem_cons_of_mem _ hr)) (fun i r hi => by rw [show b + 1 + i = b + (i + 1) by omega]; exact hk2 (i + 1) r (by simpa using hi)) _ v hj
          rw [show (b + 1) * k + (j - r.length) = b * k + j by rw [Nat.add_mul, hr]; omega] at this
          exact this
    have := key (l.map (·.2)) 0 hrows (fun i r hi j y hj => by
      rw [List.getElem?_map] at hi
      cases hq : l[i]? with
      | none => rw [hq] at hi; cases hi
      | some q =>
        rw [hq] at hi
        simp only [Option.map_some, Option.some.injEq] at hi
        subst hi
        rw [Nat.zero_add]
        exact (hl2 i q hq).2.2.2 j y hj) j v hj
    simpa using this
  · intro i x r hx hr
    rw [List.getElem?_map] at hx hr
    cases hq : l[i]? with
    | none => rw [hq] at hx; cases hx
    | some q =>
      rw [hq] at hx hr
      simp only [Option.map_some, Option.some.injEq] at hx hr
      subst hx hr
      exact (hl2 i q hq).1
end
end Go.Proofs.Ytlihojecopfgfaa

/- The bridge: the types of this program; what a law leaves. -/
namespace Go.Proofs.Ytlihojecopfgfaa
open Go Go.V Go.RowKit
section
variable {H : Type} {enc : TypeId × Value → H} {w : World} {sp : Nat → Bool} {held : Bool}
def PtD (_ : Mem) (p : Pt) (r : List Value) : Prop := r = [.int .i64 p.1, .int .i64 p.2] ∧ i64r p.1 ∧ i64r p.2
theorem field0 {P : Program} {t : TypeId} {fs : Array Field} {fuel : Nat} {cs : List Value} {x : DataW H × List MemPlace} (hu : P.underlying t = some (.struct fs)) (h : DataW.trod enc P w 0 sp held fuel t cs = some x) :
    cs.length = P.cellsOf t ∧ ∃ n, ∀ (i : Nat) (f : Field), fs[i]? = some f → ∃ y, DataW.trod enc P w 0 sp held n f.type ((cs.drop f.offset).take (P.cellsOf f.type)) = some y := by
  obtain ⟨xs, n, _, _, hl, hx, hf⟩ := DataW.trod_struct hu h
  refine ⟨hl, n, fun i f hi => ?_⟩
  have := hf i f hi
  have hlt := (Array.getElem?_eq_some_iff.1 hi).1
  rw [List.getElem?_eq_getElem (by omega)] at this
  exact ⟨_, this⟩
theorem len2 {α : Type} {l : List α} (h : l.length = 2) : ∃ a b, l = [a, b] := by
  match l, h with
  | [a, b], _ => exact ⟨a, b, rfl⟩
theorem len3 {α : Type} {l : List α} (h : l.length = 3) : ∃ a b c, l = [a, b, c] := by
  match l, h with
  | [a, b, c], _ => exact ⟨a, b, c, rfl⟩
theorem opens3 : Opens enc Try.prog w sp held IntD 3 1 := opens_int Try.underlying3
theorem opens26 : Opens enc Try.prog w sp held PtD 26 2 := by
  intro fuel cs x h
  obtain ⟨hl, n, hf⟩ := field0 Try.underlying26 h
  have hk : Try.prog.cellsOf 26 = 2 := by kernel_rfl
  have hk3 : Try.prog.cellsOf 3 = 1 := by kernel_rfl
  rw [hk] at hl
  obtain ⟨a, b, rfl⟩ : ∃ a b, cs = [a, b] := len2 hl
  obtain ⟨y, hy⟩ := hf 0 _ rfl
  obtain ⟨z, hz⟩ := hf 1 _ rfl
  have hy : DataW.trod enc Try.prog w 0 sp held n 3 ((List.drop 0 [a, b]).take (Try.prog.cellsOf 3)) = some y := hy
  rw [hk3] at hy
  have hz : DataW.trod enc Try.prog w 0 sp held n 3 ((List.drop 1 [a, b]).take (Try.prog.cellsOf 3)) = some z := hz
  rw [hk3] at hz
  obtain ⟨n1, ⟨h1, g1⟩, _⟩ := opens3 _ _ _ hy
  obtain ⟨n2, ⟨h2, g2⟩, _⟩ := opens3 _ _ _ hz
  simp at h1 h2
  subst h1 h2
  exact ⟨(n1, n2), ⟨rfl, g1, g2⟩, rfl, by simp [Value.oneCell']⟩
theorem cellsP_rows (ps : List Pt) : (ps.map fun p => [Value.int .i64 p.1, Value.int .i64 p.2]).flatten = cellsP ps := by
  induction ps with
  | nil => rfl
  | cons p ps ih => simp only [List.map_cons, List.flatten_cons, ih]; rfl
theorem Pts.of_arr {M : Mem} {v : Value} {ps : List Pt} (h : Arr PtD M 2 v ps) : Pts M v ps ∧ i64P ps := by
  obtain ⟨rows, h1, h2, h3, h4⟩ := h
  have e : rows = ps.map fun p => [Value.int .i64 p.1, Value.int .i64 p.2] := by
    apply List.ext_getElem?
    intro i
    rw [List.getElem?_map]
    cases hp : ps[i]? with
    | none =>
      have := List.getElem?_eq_none_iff.1 hp
      simp only [Option.map_none]
      exact List.getElem?_eq_none (by omega)
    | some p =>
      have hi := (List.getElem?_eq_some_iff.1 hp).1
      have hr : rows[i]? = some (rows[i]'(by omega)) := List.getElem?_eq_getElem (by omega)
      rw [hr]
      simp only [Option.map_some, Option.some.injEq]
      exact (h4 i p _ hp hr).1
  rw [e, cellsP_rows] at h3
  refine ⟨h3, fun i hi => ?_⟩
  have hp := getD_get (0, 0) hi
  have hr : rows[i]? = some (rows[i]'(by omega)) := List.getElem?_eq_getElem (by omega)
  exact (h4 i _ _ hp hr).2
theorem opens22 : Opens enc Try.prog w sp held PolyD 22 1 := by
  intro fuel cs x h
  obtain ⟨l, ⟨v, rfl, ha⟩, h2, h3⟩ := opens_slice Try.underlying22 (k := 2) (by kernel_rfl) (by omega) opens26 fuel cs x h
  exact ⟨l, ⟨v, rfl, Pts.of_arr ha⟩, h2, h3⟩
theorem opens77 : Opens enc Try.prog w sp held (fun M l r => ∃ v, r = [v] ∧ IntsV M v l) 77 1 := opens_slice Try.underlying77 (by kernel_rfl) (by omega) opens3
theorem opens37 : Opens enc Try.prog w sp held (fun M l r => ∃ v, r = [v] ∧ RegV M v l) 37 1 := opens_slice Try.underlying37 (by kernel_rfl) (by omega) opens22
theorem CasV.one {M : Mem} {v : Value} {l : List CaseS} (h : CasV M v l) : v.oneCell' = true := by obtain ⟨ad, c, rfl, _⟩ := h.get; rfl
end
section
variable {H : Type} {enc : TypeId × Value → H} {P : Program}
theorem trodAll_stays (hl : laidOutB P = true) {W W' : World} (hb : Below W.heap.size W W') (sp : Nat → Bool) : ∀ {ts : List TypeId} {vs : List Value} {ds : List (DataW H)} {ps : List MemPlace}, (∀ t ∈ ts, P.readableRec t = true ∧ t < P.types.size) →
    DataW.TrodAll enc P W 0 (fun _ => true) true ts vs ds ps → (∀ x ∈ ps, x.block < W.heap.size) → (∀ x ∈ ps, sp x.block = true) → DataW.TrodAll enc P W' 0 sp true ts vs ds ps
  | [], _, _, _, _, h, _, _ => by
    obtain ⟨rfl, rfl, rfl⟩ := ChangeShapes.trodAll_nil h
    rfl
  | t :: ts, _, _, _, ht, h, hlt, hsp => by
    obtain ⟨v, vs, d, ds, p, q, rfl, rfl, rfl, h1, h2⟩ := ChangeShapes.trodAll_cons h
    refine ⟨p, q, ?_, trodAll_stays hl hb sp (fun t h => ht t (List.mem_cons_of_mem _ h)) h2 (fun x hx => hlt x (List.mem_append_right _ hx)) (fun x hx => hsp x (List.mem_append_right _ hx)), rfl⟩
    exact WideElems.Trod_stays hl (ht t List.mem_cons_self).1 (ht t List.mem_cons_self).2 h1 (fun x hx => hb.same (hlt x (List.mem_append_left _ hx))) (fun x hx => hsp x (List.mem_append_left _ hx))
theorem post_of_below {f : Func} {s : ChangeSpec} {apart fresh handsOn again : Bool} {W W' : World} {args : Array Value} {v : Value} {ds : List (DataW H)} {before : List MemPlace}
    (hl : laidOutB P = true) (hr : ∀ t ∈ f.params.toList, P.readableRec t = true ∧ t < P.types.size) (hvs : s.vars = [])
    (hW : DataW.Whole enc P f.params.toList s.vars apart W args.toList ds [] before) (hA : DataW.TrodAll enc P W 0 (fun _ => true) true f.params.toList args.toList ds before)
    (hres : ∀ (b : Nat) (sp : Nat → Bool) (hd : Bool), DataW.TrodAll enc P W' b sp hd f.resultTypes.toList (v.resultList f.resultTypes.size) (s.fn H (ds ++ [])).results [])
    (hargs : (s.fn H (ds ++ [])).args = ds) (hvars : (s.fn H (ds ++ [])).vars = []) (hb : Below W.heap.size W W')
    (hok : ∀ (j : Nat) (t : TypeId) (r : Value), f.resultTypes[j]? = some t → (v.resultList f.resultTypes.size)[j]? = some r → Value.okWide P W' .any 0 t r) :
    s.post enc P f apart fresh handsOn again W args v W' := by
  have hlt : ∀ p ∈ before, p.block < W.heap.size := fun p hp => by simpa using hW.lt p hp
  have hold : ∀ p ∈ before, (fun b => decide (b < W.heap.size)) p.block = true := fun p hp => by simpa using hlt p hp
  have st : ∀ sp : Nat → Bool, (∀ p ∈ before, sp p.block = true) → DataW.TrodAll enc P W' 0 sp true f.params.toList args.toList (s.fn H (ds ++ [])).args before := fun sp hsp => by
    rw [hargs]; exact trodAll_stays hl hb sp hr hA hlt hsp
  have sv : ∀ sp : Nat → Bool, DataW.TrodVars enc P W' sp s.vars (s.fn H (ds ++ [])).vars [] := fun sp => by rw [hvs, hvars]; rfl
  refine ⟨ds, [], before, [], before, [], hW, hres _ _ _, st _ hold, sv _, hb.frame _, fun _ => ?_⟩
  obtain ⟨_, _, _, _, _, hz, hn⟩ := hW
  refine ⟨hok, _, _, ([] ++ before) ++ [], ⟨[] ++ before, [], ChangeShapes.trodAll_append (st _ (fun _ _ => rfl)) (hres _ _ _), sv _, rfl, ?_, ?_⟩, ?_⟩
  · intro b off hp
    have hp' : MemPlace.cell b off ∈ before := by simpa using hp
    rw [hb.frozen (show (⟨b, off, none⟩ : Addr).block < W.heap.size from hlt _ hp')]
    exact hz b off hp'
  · intro ha
    simpa using hn ha
  · intro p hp _
    simpa using hp
end
theorem laid : laidOutB Try.prog = true := by kernel_rfl
theorem own : ownKnob Try.prog.godebug = none := by kernel_rfl
end Go.Proofs.Ytlihojecopfgfaa

/- The bridge: structs, whichever they are. -/
namespace Go.Proofs.Ytlihojecopfgfaa
open Go Go.V Go.RowKit
section
variable {H : Type} {enc : TypeId × Value → H} {P : Program} {w : World} {sp : Nat → Bool} {held : Bool}
abbrev RQ := Mem → List Value → Prop
/-- What a type's cells say. -/
def OpQ (enc : TypeId × Value → H) (P : Program) (w : World) (sp : Nat → Bool) (held : Bool) (Q : RQ) (t : TypeId) (k : Nat) : Prop :=
  ∀ fuel cs x, DataW.trod enc P w 0 sp held fuel t cs = some x → Q (memOf w) cs ∧ cs.length = k ∧ ∀ v ∈ cs, v.oneCell' = true
theorem OpQ.of {α : Type} {D : Mem → α → List Value → Prop} {t : TypeId} {k : Nat} (h : Opens enc P w sp held D t k) : OpQ enc P w sp held (fun M r => ∃ a, D M a r) t k := fun fuel cs x hx => by
  obtain ⟨a, h1, h2, h3⟩ := h fuel cs x hx
  exact ⟨⟨a, h1⟩, h2, h3⟩
theorem OpQ.to {α : Type} {Q : RQ} {D : Mem → α → List Value → Prop} {t : TypeId} {k : Nat} (h : OpQ enc P w sp held Q t k) (hQ : ∀ M r, Q M r → ∃ a, D M a r) : Opens enc P w sp held D t k := fun fuel cs x hx => by
  obtain ⟨h1, h2, h3⟩ := h fuel cs x hx
  obtain ⟨a, ha⟩ := hQ _ _ h1
  exact ⟨a, ha, h2, h3⟩
structure FQ where
  t : TypeId
  k : Nat
  Q : RQ
def AllQ (M : Mem) : List FQ → List Value → Prop
  | [], cs => cs = []
  | q :: qs, cs => ∃ r cs', cs = r ++ cs' ∧ r.length = q.k ∧ q.Q M r ∧ AllQ M qs cs'
def sumQ : List FQ → Nat
  | [] => 0
  | q :: qs => q.k + sumQ qs
def offQ : Nat → List FQ → List (Nat × TypeId)
  | _, [] => []
  | o, q :: qs => (o, q.t) :: offQ (o + q.k) qs
theorem allQ_go {n : Nat} {full : List Value} : ∀ (qs : List FQ) (off : Nat) (fl : List Field), fl.map (fun f => (f.offset, f.type)) = offQ off qs → full.length = off + sumQ qs →
    (∀ f ∈ fl, ∃ y, DataW.trod enc P w 0 sp held n f.type ((full.drop f.offset).take (P.cellsOf f.type)) = some y) → (∀ q ∈ qs, P.cellsOf q.t = q.k ∧ OpQ enc P w sp held q.Q q.t q.k) → AllQ (memOf w) qs (full.drop off) ∧ ∀ v ∈ full.drop off, v.oneCell' = true
  | [], off, fl, _, hl, _, _ => by
    have : full.drop off = [] := List.drop_eq_nil_of_le (by simp [sumQ] at hl; omega)
    rw [this]; exact ⟨rfl, by simp⟩
  | q :: qs, off, fl, hf, hl, hy, hq => by
    match fl, hf with
    | f :: fl, hf =>
      simp only [List.map_cons, offQ, List.cons.injEq, Prod.mk.injEq] at hf
      obtain ⟨⟨h1, h2⟩, h3⟩ := hf
      obtain ⟨y, hy1⟩ := hy f List.mem_cons_self
      obtain ⟨g1, g2⟩ := hq q List.mem_cons_self
      rw [h1, h2, g1] at hy1
      obtain ⟨k1, k2, k3⟩ := g2 _ _ _ hy1
      obtain ⟨i1, i2⟩ := allQ_go qs (off + q.k) fl h3 (by simp only [sumQ] at hl; omega) (fun f hf => hy f (List.mem_cons_of_mem _ hf)) (fun q hq' => hq q (List.mem_cons_of_mem _ hq'))
      have e : full.drop off = (full.drop off).take q.k ++ full.drop (off + q.k) := by
        rw [← List.drop_drop]; exact (List.take_append_drop _ _).symm
      refine ⟨⟨_, _, e, k2, k1, i1⟩, fun v hv => ?_⟩
      rw [e] at hv
      rcases List.mem_append.1 hv with hv | hv
      · exact k3 v hv
      · exact i2 v hv
theorem opens_st {t : TypeId} {fs : Array Field} (qs : List FQ) (hu : P.underlying t = some (.struct fs)) (hf : fs.toList.map (fun f => (f.offset, f.type)) = offQ 0 qs) (hk : P.cellsOf t = sumQ qs) (hq : ∀ q ∈ qs, P.cellsOf q.t = q.k ∧ OpQ enc P w sp held q.Q q.t q.k) :
    OpQ enc P w sp held (fun M r => AllQ M qs r) t (sumQ qs) := fun fuel cs x hx => by
  obtain ⟨hl, n, h⟩ := field0 hu hx
  rw [hk] at hl
  obtain ⟨i1, i2⟩ := allQ_go (n := n) (full := cs) qs 0 fs.toList hf (by omega) (fun f hf => by
    obtain ⟨i, hi⟩ := List.getElem?_of_mem hf
    exact h i f (by simpa using hi)) hq
  exact ⟨by simpa using i1, hl, by simpa using i2⟩
theorem hq_nil : ∀ q ∈ ([] : List FQ), P.cellsOf q.t = q.k ∧ OpQ enc P w sp held q.Q q.t q.k := fun _ h => by cases h
theorem hq_cons {q : FQ} {qs : List FQ} (h1 : P.cellsOf q.t = q.k) (h2 : OpQ enc P w sp held q.Q q.t q.k) (h3 : ∀ q ∈ qs, P.cellsOf q.t = q.k ∧ OpQ enc P w sp held q.Q q.t q.k) : ∀ x ∈ q :: qs, P.cellsOf x.t = x.k ∧ OpQ enc P w sp held x.Q x.t x.k := fun x hx => by
  rcases List.mem_cons.1 hx with rfl | hx
  · exact ⟨h1, h2⟩
  · exact h3 x hx
end
theorem wf_u32 {n : Int} (h : (Lit.int .u32 n).wf = true) : 0 ≤ n ∧ n < 4294967296 := by
  simp [Lit.wf, IntKind.min, IntKind.max, IntKind.signed, IntKind.bits] at h; omega
theorem wf_u16 {n : Int} (h : (Lit.int .u16 n).wf = true) : 0 ≤ n ∧ n < 65536 := by
  simp [Lit.wf, IntKind.min, IntKind.max, IntKind.signed, IntKind.bits] at h; omega
theorem wf_u8 {n : Int} (h : (Lit.int .u8 n).wf = true) : 0 ≤ n ∧ n < 256 := by
  simp [Lit.wf, IntKind.min, IntKind.max, IntKind.signed, IntKind.bits] at h; omega
theorem wf_u64 {n : Int} (h : (Lit.int .u64 n).wf = true) : 0 ≤ n ∧ n < 18446744073709551616 := by
  simp [Lit.wf, IntKind.min, IntKind.max, IntKind.signed, IntKind.bits] at h; omega
theorem wf_i16 {n : Int} (h : (Lit.int .i16 n).wf = true) : -32768 ≤ n ∧ n < 32768 := by
  simp [Lit.wf, IntKind.min, IntKind.max, IntKind.signed, IntKind.bits] at h; omega
end Go.Proofs.Ytlihojecopfgfaa

/- The bridge: half-planes. -/
namespace Go.Proofs.Ytlihojecopfgfaa
open Go Go.V Go.RowKit
section
variable {H : Type} {enc : TypeId × Value → H} {w : World} {sp : Nat → Bool} {held : Bool}
def IQ3 : RQ := fun _ r => ∃ n, r = [.int .i64 n] ∧ i64r n
def HalfD (_ : Mem) (l : Int × Int × Int) (r : List Value) : Prop := r = [.int .i64 l.1, .int .i64 l.2.1, .int .i64 l.2.2] ∧ i64r l.1 ∧ i64r l.2.1 ∧ i64r l.2.2
theorem opQ_int3 : OpQ enc Try.prog w sp held IQ3 3 1 := fun f c x h => OpQ.of (D := IntD) opens3 f c x h
theorem opens24 : Opens enc Try.prog w sp held HalfD 24 3 := fun fu c x h => by
  obtain ⟨⟨_, _, rfl, _, ⟨a, rfl, ha⟩, _, _, rfl, _, ⟨b, rfl, hb⟩, _, _, rfl, _, ⟨d, rfl, hd⟩, rfl⟩, h3⟩ := opens_st [⟨3, 1, IQ3⟩, ⟨3, 1, IQ3⟩, ⟨3, 1, IQ3⟩] Try.underlying24 rfl (by kernel_rfl)
    (hq_cons (by kernel_rfl) opQ_int3 (hq_cons (by kernel_rfl) opQ_int3 (hq_cons (by kernel_rfl) opQ_int3 hq_nil))) fu c x h
  exact ⟨(a, b, d), ⟨rfl, ha, hb, hd⟩, h3⟩
end
end Go.Proofs.Ytlihojecopfgfaa

/- Contracts: region.Has. -/
namespace Go.Proofs.Ytlihojecopfgfaa
open Go Go.V Go.RowKit
theorem Has_is {v : Value} {ps : List Pt} {x y : Int} {M : Mem} {b : Bool} (hv : Pts M v ps) (hi64 : i64P ps) (hx : i64r x) (hy : i64r y) (hV : validB ps = true) (hP : placeB (x, y) = true) (hb : hasB ps (x, y) = b) : V.Fn Try.prog 11 [v, pt x y] M fun rs _ => rs = [.bool b, .int .i64 0] :=
  (Has_fn v ps x y M hv hi64 hx hy).mono fun rs M' _ h => by rw [h, hV, hP, hb]; rfl
theorem Valid_is {v : Value} {ps : List Pt} {M : Mem} {b : Bool} (hv : Pts M v ps) (hi64 : i64P ps) (hb : validB ps = b) : V.Fn Try.prog 20 [v] M fun rs _ => rs = [.bool b] :=
  (Valid_fn v ps M hv hi64).mono fun rs M' _ h => by rw [h, hb]
end Go.Proofs.Ytlihojecopfgfaa
