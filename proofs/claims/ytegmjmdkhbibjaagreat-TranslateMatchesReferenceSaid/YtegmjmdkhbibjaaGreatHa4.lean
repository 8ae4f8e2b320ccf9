import Derived.Test.YtegmjmdkhbibjaaGreatHa3
import Derived.Test.YtegmjmdkhbibjaaGreatProg
import Derived.WalkKit
import Derived.Handy
import Derived.Lib.Hide
import Derived.WalkLawsBesides
import Derived.WalkSpells
import Derived.Deep.RegionHeld3
import Derived.Deep.Draws
import Derived.Sort.Grow
import Derived.Shelf.SlSortCmp.NoneTotal
set_option linter.unusedVariables false
set_option linter.unusedSimpArgs false
/- The types of the translation, for the framework. Printed by gen_types.py. -/
namespace Go.Proofs.YtegmjmdkhbibjaaGreat
open Go Go.V

theorem ty1 : TyOK Tryz.prog 1 ⟨.sc, [.nilFunc], 8⟩ := .mk' (z := .nilFunc) (by kernel_rfl) rfl Tryz.underlying1 trivial
theorem ty2 : TyOK Tryz.prog 2 ⟨.int .i64, [.int .i64 0], 8⟩ := .mk' (z := .int .i64 0) (by kernel_rfl) rfl Tryz.underlying2 rfl
theorem ty3 : TyOK Tryz.prog 3 ⟨.int .i64, [.int .i64 0], 8⟩ := .mk' (z := .int .i64 0) (by kernel_rfl) rfl Tryz.underlying3 rfl
theorem ty4 : TyOK Tryz.prog 4 ⟨.bool, [.bool false], 1⟩ := .mk' (z := .bool false) (by kernel_rfl) rfl Tryz.underlying4 rfl
theorem ty5 : TyOK Tryz.prog 5 ⟨.int .u8, [.int .u8 0], 1⟩ := .mk' (z := .int .u8 0) (by kernel_rfl) rfl Tryz.underlying5 rfl
theorem ty6 : TyOK Tryz.prog 6 ⟨.int .u8, [.int .u8 0], 1⟩ := .mk' (z := .int .u8 0) (by kernel_rfl) rfl Tryz.underlying6 rfl
theorem ty7 : TyOK Tryz.prog 7 ⟨.st [(0, 2), (1, 3), (2, 4), (3, 6)], [.int .i64 0, .int .i64 0, .bool false, .int .u8 0], 24⟩ := .mk' (z := .agg #[.int .i64 0, .int .i64 0, .bool false, .int .u8 0]) (by kernel_rfl) rfl Tryz.underlying7 ⟨_, rfl, rfl⟩
theorem ty8 : TyOK Tryz.prog 8 ⟨.st [(0, 2), (1, 3), (2, 4), (3, 6)], [.int .i64 0, .int .i64 0, .bool false, .int .u8 0], 24⟩ := .mk' (z := .agg #[.int .i64 0, .int .i64 0, .bool false, .int .u8 0]) (by kernel_rfl) rfl Tryz.underlying8 ⟨_, rfl, rfl⟩
theorem ty9 : TyOK Tryz.prog 9 ⟨.sc, [.string ByteArray.empty], 16⟩ := .mk' (z := .string ByteArray.empty) (by kernel_rfl) rfl Tryz.underlying9 trivial
theorem ty10 : TyOK Tryz.prog 10 ⟨.sc, [.string ByteArray.empty], 16⟩ := .mk' (z := .string ByteArray.empty) (by kernel_rfl) rfl Tryz.underlying10 trivial
theorem ty11 : TyOK Tryz.prog 11 ⟨.sc, [.string ByteArray.empty], 16⟩ := .mk' (z := .string ByteArray.empty) (by kernel_rfl) rfl Tryz.underlying11 trivial
theorem ty12 : TyOK Tryz.prog 12 ⟨.int .u64, [.int .u64 0], 8⟩ := .mk' (z := .int .u64 0) (by kernel_rfl) rfl Tryz.underlying12 rfl
theorem ty13 : TyOK Tryz.prog 13 ⟨.st [(0, 9), (1, 12)], [.string ByteArray.empty, .int .u64 0], 24⟩ := .mk' (z := .agg #[.string ByteArray.empty, .int .u64 0]) (by kernel_rfl) rfl Tryz.underlying13 ⟨_, rfl, rfl⟩
theorem ty14 : TyOK Tryz.prog 14 ⟨.st [(0, 9), (1, 12)], [.string ByteArray.empty, .int .u64 0], 24⟩ := .mk' (z := .agg #[.string ByteArray.empty, .int .u64 0]) (by kernel_rfl) rfl Tryz.underlying14 ⟨_, rfl, rfl⟩
theorem ty15 : TyOK Tryz.prog 15 ⟨.sc, [.pointer none], 8⟩ := .mk' (z := .pointer none) (by kernel_rfl) rfl Tryz.underlying15 trivial
theorem ty16 : TyOK Tryz.prog 16 ⟨.sc, [.pointer none], 8⟩ := .mk' (z := .pointer none) (by kernel_rfl) rfl Tryz.underlying16 trivial
theorem ty17 : TyOK Tryz.prog 17 ⟨.sc, [.pointer none], 8⟩ := .mk' (z := .pointer none) (by kernel_rfl) rfl Tryz.underlying17 trivial
theorem ty18 : TyOK Tryz.prog 18 ⟨.st [(0, 17)], [.pointer none], 8⟩ := .mk' (z := .agg #[.pointer none]) (by kernel_rfl) rfl Tryz.underlying18 ⟨_, rfl, rfl⟩
theorem ty19 : TyOK Tryz.prog 19 ⟨.st [(0, 17)], [.pointer none], 8⟩ := .mk' (z := .agg #[.pointer none]) (by kernel_rfl) rfl Tryz.underlying19 ⟨_, rfl, rfl⟩
theorem ty21 : TyOK Tryz.prog 21 ⟨.int .i32, [.int .i32 0], 4⟩ := .mk' (z := .int .i32 0) (by kernel_rfl) rfl Tryz.underlying21 rfl
theorem ty22 : TyOK Tryz.prog 22 ⟨.sl 56, [.slice none 0 0], 24⟩ := .mk' (z := .slice none 0 0) (by kernel_rfl) rfl Tryz.underlying22 rfl
theorem ty23 : TyOK Tryz.prog 23 ⟨.sl 88, [.slice none 0 0], 24⟩ := .mk' (z := .slice none 0 0) (by kernel_rfl) rfl Tryz.underlying23 rfl
theorem ty24 : TyOK Tryz.prog 24 ⟨.sl 73, [.slice none 0 0], 24⟩ := .mk' (z := .slice none 0 0) (by kernel_rfl) rfl Tryz.underlying24 rfl
theorem ty25 : TyOK Tryz.prog 25 ⟨.st [(0, 3), (1, 3), (2, 3), (3, 3), (4, 3), (5, 3), (6, 22), (7, 23), (8, 24)], [.int .i64 0, .int .i64 0, .int .i64 0, .int .i64 0, .int .i64 0, .int .i64 0, .slice none 0 0, .slice none 0 0, .slice none 0 0], 120⟩ := .mk' (z := .agg #[.int .i64 0, .int .i64 0, .int .i64 0, .int .i64 0, .int .i64 0, .int .i64 0, .slice none 0 0, .slice none 0 0, .slice none 0 0]) (by kernel_rfl) rfl Tryz.underlying25 ⟨_, rfl, rfl⟩
theorem ty26 : TyOK Tryz.prog 26 ⟨.st [(0, 3), (1, 3), (2, 3), (3, 3), (4, 3), (5, 3), (6, 22), (7, 23), (8, 24)], [.int .i64 0, .int .i64 0, .int .i64 0, .int .i64 0, .int .i64 0, .int .i64 0, .slice none 0 0, .slice none 0 0, .slice none 0 0], 120⟩ := .mk' (z := .agg #[.int .i64 0, .int .i64 0, .int .i64 0, .int .i64 0, .int .i64 0, .int .i64 0, .slice none 0 0, .slice none 0 0, .slice none 0 0]) (by kernel_rfl) rfl Tryz.underlying26 ⟨_, rfl, rfl⟩
theorem ty27 : TyOK Tryz.prog 27 ⟨.sl 3, [.slice none 0 0], 24⟩ := .mk' (z := .slice none 0 0) (by kernel_rfl) rfl Tryz.underlying27 rfl
theorem ty28 : TyOK Tryz.prog 28 ⟨.sc, [.nilFunc], 8⟩ := .mk' (z := .nilFunc) (by kernel_rfl) rfl Tryz.underlying28 trivial
theorem ty29 : TyOK Tryz.prog 29 ⟨.sc, [.nilFunc], 8⟩ := .mk' (z := .nilFunc) (by kernel_rfl) rfl Tryz.underlying29 trivial
theorem ty30 : TyOK Tryz.prog 30 ⟨.int .i64, [.int .i64 0], 8⟩ := .mk' (z := .int .i64 0) (by kernel_rfl) rfl Tryz.underlying30 rfl
theorem ty32 : TyOK Tryz.prog 32 ⟨.sc, [.nilFunc], 8⟩ := .mk' (z := .nilFunc) (by kernel_rfl) rfl Tryz.underlying32 trivial
theorem ty33 : TyOK Tryz.prog 33 ⟨.sc, [.nilFunc], 8⟩ := .mk' (z := .nilFunc) (by kernel_rfl) rfl Tryz.underlying33 trivial
theorem ty34 : TyOK Tryz.prog 34 ⟨.sc, [.nilFunc], 8⟩ := .mk' (z := .nilFunc) (by kernel_rfl) rfl Tryz.underlying34 trivial
theorem ty36 : TyOK Tryz.prog 36 ⟨.sc, [.nilFunc], 8⟩ := .mk' (z := .nilFunc) (by kernel_rfl) rfl Tryz.underlying36 trivial
theorem ty37 : TyOK Tryz.prog 37 ⟨.sc, [.nilFunc], 8⟩ := .mk' (z := .nilFunc) (by kernel_rfl) rfl Tryz.underlying37 trivial
theorem ty38 : TyOK Tryz.prog 38 ⟨.sc, [.nilFunc], 8⟩ := .mk' (z := .nilFunc) (by kernel_rfl) rfl Tryz.underlying38 trivial
theorem ty39 : TyOK Tryz.prog 39 ⟨.sc, [.nilFunc], 8⟩ := .mk' (z := .nilFunc) (by kernel_rfl) rfl Tryz.underlying39 trivial
theorem ty40 : TyOK Tryz.prog 40 ⟨.int .u64, [.int .u64 0], 8⟩ := .mk' (z := .int .u64 0) (by kernel_rfl) rfl Tryz.underlying40 rfl
theorem ty41 : TyOK Tryz.prog 41 ⟨.sc, [.nilFunc], 8⟩ := .mk' (z := .nilFunc) (by kernel_rfl) rfl Tryz.underlying41 trivial
theorem ty42 : TyOK Tryz.prog 42 ⟨.sc, [.nilFunc], 8⟩ := .mk' (z := .nilFunc) (by kernel_rfl) rfl Tryz.underlying42 trivial
theorem ty43 : TyOK Tryz.prog 43 ⟨.sc, [.nilFunc], 8⟩ := .mk' (z := .nilFunc) (by kernel_rfl) rfl Tryz.underlying43 trivial
theorem ty44 : TyOK Tryz.prog 44 ⟨.sc, [.nilFunc], 8⟩ := .mk' (z := .nilFunc) (by kernel_rfl) rfl Tryz.underlying44 trivial
theorem ty45 : TyOK Tryz.prog 45 ⟨.st [(0, 3), (1, 3)], [.int .i64 0, .int .i64 0], 16⟩ := .mk' (z := .agg #[.int .i64 0, .int .i64 0]) (by kernel_rfl) rfl Tryz.underlying45 ⟨_, rfl, rfl⟩
theorem ty46 : TyOK Tryz.prog 46 ⟨.st [(0, 3), (1, 3)], [.int .i64 0, .int .i64 0], 16⟩ := .mk' (z := .agg #[.int .i64 0, .int .i64 0]) (by kernel_rfl) rfl Tryz.underlying46 ⟨_, rfl, rfl⟩
theorem ty47 : TyOK Tryz.prog 47 ⟨.sc, [.nilFunc], 8⟩ := .mk' (z := .nilFunc) (by kernel_rfl) rfl Tryz.underlying47 trivial
theorem ty48 : TyOK Tryz.prog 48 ⟨.sc, [.nilFunc], 8⟩ := .mk' (z := .nilFunc) (by kernel_rfl) rfl Tryz.underlying48 trivial
theorem ty49 : TyOK Tryz.prog 49 ⟨.sc, [.nilFunc], 8⟩ := .mk' (z := .nilFunc) (by kernel_rfl) rfl Tryz.underlying49 trivial
theorem ty51 : TyOK Tryz.prog 51 ⟨.sc, [.nilFunc], 8⟩ := .mk' (z := .nilFunc) (by kernel_rfl) rfl Tryz.underlying51 trivial
theorem ty52 : TyOK Tryz.prog 52 ⟨.sc, [.nilFunc], 8⟩ := .mk' (z := .nilFunc) (by kernel_rfl) rfl Tryz.underlying52 trivial
theorem ty53 : TyOK Tryz.prog 53 ⟨.st [(0, 3), (1, 3)], [.int .i64 0, .int .i64 0], 16⟩ := .mk' (z := .agg #[.int .i64 0, .int .i64 0]) (by kernel_rfl) rfl Tryz.underlying53 ⟨_, rfl, rfl⟩
theorem ty54 : TyOK Tryz.prog 54 ⟨.st [(0, 3), (1, 3)], [.int .i64 0, .int .i64 0], 16⟩ := .mk' (z := .agg #[.int .i64 0, .int .i64 0]) (by kernel_rfl) rfl Tryz.underlying54 ⟨_, rfl, rfl⟩
theorem ty55 : TyOK Tryz.prog 55 ⟨.st [(0, 54), (2, 3), (3, 4)], [.int .i64 0, .int .i64 0, .int .i64 0, .bool false], 32⟩ := .mk' (z := .agg #[.int .i64 0, .int .i64 0, .int .i64 0, .bool false]) (by kernel_rfl) rfl Tryz.underlying55 ⟨_, rfl, rfl⟩
theorem ty56 : TyOK Tryz.prog 56 ⟨.st [(0, 54), (2, 3), (3, 4)], [.int .i64 0, .int .i64 0, .int .i64 0, .bool false], 32⟩ := .mk' (z := .agg #[.int .i64 0, .int .i64 0, .int .i64 0, .bool false]) (by kernel_rfl) rfl Tryz.underlying56 ⟨_, rfl, rfl⟩
theorem ty57 : TyOK Tryz.prog 57 ⟨.sc, [.nilFunc], 8⟩ := .mk' (z := .nilFunc) (by kernel_rfl) rfl Tryz.underlying57 trivial
theorem ty58 : TyOK Tryz.prog 58 ⟨.sc, [.nilFunc], 8⟩ := .mk' (z := .nilFunc) (by kernel_rfl) rfl Tryz.underlying58 trivial
theorem ty60 : TyOK Tryz.prog 60 ⟨.sc, [.nilFunc], 8⟩ := .mk' (z := .nilFunc) (by kernel_rfl) rfl Tryz.underlying60 trivial
theorem ty61 : TyOK Tryz.prog 61 ⟨.sc, [.nilFunc], 8⟩ := .mk' (z := .nilFunc) (by kernel_rfl) rfl Tryz.underlying61 trivial
theorem ty62 : TyOK Tryz.prog 62 ⟨.sc, [.nilFunc], 8⟩ := .mk' (z := .nilFunc) (by kernel_rfl) rfl Tryz.underlying62 trivial
theorem ty64 : TyOK Tryz.prog 64 ⟨.sc, [.nilFunc], 8⟩ := .mk' (z := .nilFunc) (by kernel_rfl) rfl Tryz.underlying64 trivial
theorem ty65 : TyOK Tryz.prog 65 ⟨.sc, [.nilFunc], 8⟩ := .mk' (z := .nilFunc) (by kernel_rfl) rfl Tryz.underlying65 trivial
theorem ty66 : TyOK Tryz.prog 66 ⟨.sc, [.nilFunc], 8⟩ := .mk' (z := .nilFunc) (by kernel_rfl) rfl Tryz.underlying66 trivial
theorem ty67 : TyOK Tryz.prog 67 ⟨.sc, [.nilFunc], 8⟩ := .mk' (z := .nilFunc) (by kernel_rfl) rfl Tryz.underlying67 trivial
theorem ty68 : TyOK Tryz.prog 68 ⟨.sc, [.nilFunc], 8⟩ := .mk' (z := .nilFunc) (by kernel_rfl) rfl Tryz.underlying68 trivial
theorem ty69 : TyOK Tryz.prog 69 ⟨.sc, [.nilFunc], 8⟩ := .mk' (z := .nilFunc) (by kernel_rfl) rfl Tryz.underlying69 trivial
theorem ty70 : TyOK Tryz.prog 70 ⟨.sl 28, [.slice none 0 0], 24⟩ := .mk' (z := .slice none 0 0) (by kernel_rfl) rfl Tryz.underlying70 rfl
theorem ty71 : TyOK Tryz.prog 71 ⟨.sl 46, [.slice none 0 0], 24⟩ := .mk' (z := .slice none 0 0) (by kernel_rfl) rfl Tryz.underlying71 rfl
theorem ty72 : TyOK Tryz.prog 72 ⟨.st [(0, 3), (1, 71)], [.int .i64 0, .slice none 0 0], 32⟩ := .mk' (z := .agg #[.int .i64 0, .slice none 0 0]) (by kernel_rfl) rfl Tryz.underlying72 ⟨_, rfl, rfl⟩
theorem ty73 : TyOK Tryz.prog 73 ⟨.st [(0, 3), (1, 71)], [.int .i64 0, .slice none 0 0], 32⟩ := .mk' (z := .agg #[.int .i64 0, .slice none 0 0]) (by kernel_rfl) rfl Tryz.underlying73 ⟨_, rfl, rfl⟩
theorem ty74 : TyOK Tryz.prog 74 ⟨.sc, [.nilFunc], 8⟩ := .mk' (z := .nilFunc) (by kernel_rfl) rfl Tryz.underlying74 trivial
theorem ty75 : TyOK Tryz.prog 75 ⟨.sc, [.nilFunc], 8⟩ := .mk' (z := .nilFunc) (by kernel_rfl) rfl Tryz.underlying75 trivial
theorem ty76 : TyOK Tryz.prog 76 ⟨.sc, [.nilFunc], 8⟩ := .mk' (z := .nilFunc) (by kernel_rfl) rfl Tryz.underlying76 trivial
theorem ty77 : TyOK Tryz.prog 77 ⟨.sc, [.nilFunc], 8⟩ := .mk' (z := .nilFunc) (by kernel_rfl) rfl Tryz.underlying77 trivial
theorem ty78 : TyOK Tryz.prog 78 ⟨.sc, [.nilFunc], 8⟩ := .mk' (z := .nilFunc) (by kernel_rfl) rfl Tryz.underlying78 trivial
theorem ty79 : TyOK Tryz.prog 79 ⟨.sl 54, [.slice none 0 0], 24⟩ := .mk' (z := .slice none 0 0) (by kernel_rfl) rfl Tryz.underlying79 rfl
theorem ty81 : TyOK Tryz.prog 81 ⟨.sc, [.nilFunc], 8⟩ := .mk' (z := .nilFunc) (by kernel_rfl) rfl Tryz.underlying81 trivial
theorem ty82 : TyOK Tryz.prog 82 ⟨.sc, [.nilFunc], 8⟩ := .mk' (z := .nilFunc) (by kernel_rfl) rfl Tryz.underlying82 trivial
theorem ty83 : TyOK Tryz.prog 83 ⟨.sc, [.nilFunc], 8⟩ := .mk' (z := .nilFunc) (by kernel_rfl) rfl Tryz.underlying83 trivial
theorem ty84 : TyOK Tryz.prog 84 ⟨.sc, [.nilFunc], 8⟩ := .mk' (z := .nilFunc) (by kernel_rfl) rfl Tryz.underlying84 trivial
theorem ty85 : TyOK Tryz.prog 85 ⟨.sc, [.nilFunc], 8⟩ := .mk' (z := .nilFunc) (by kernel_rfl) rfl Tryz.underlying85 trivial
theorem ty86 : TyOK Tryz.prog 86 ⟨.sc, [.nilFunc], 8⟩ := .mk' (z := .nilFunc) (by kernel_rfl) rfl Tryz.underlying86 trivial
theorem ty87 : TyOK Tryz.prog 87 ⟨.st [(0, 3), (1, 46)], [.int .i64 0, .int .i64 0, .int .i64 0], 24⟩ := .mk' (z := .agg #[.int .i64 0, .int .i64 0, .int .i64 0]) (by kernel_rfl) rfl Tryz.underlying87 ⟨_, rfl, rfl⟩
theorem ty88 : TyOK Tryz.prog 88 ⟨.st [(0, 3), (1, 46)], [.int .i64 0, .int .i64 0, .int .i64 0], 24⟩ := .mk' (z := .agg #[.int .i64 0, .int .i64 0, .int .i64 0]) (by kernel_rfl) rfl Tryz.underlying88 ⟨_, rfl, rfl⟩
theorem ty89 : TyOK Tryz.prog 89 ⟨.sc, [.nilFunc], 8⟩ := .mk' (z := .nilFunc) (by kernel_rfl) rfl Tryz.underlying89 trivial
theorem ty90 : TyOK Tryz.prog 90 ⟨.sc, [.nilFunc], 8⟩ := .mk' (z := .nilFunc) (by kernel_rfl) rfl Tryz.underlying90 trivial
theorem ty91 : TyOK Tryz.prog 91 ⟨.sc, [.nilFunc], 8⟩ := .mk' (z := .nilFunc) (by kernel_rfl) rfl Tryz.underlying91 trivial
theorem ty92 : TyOK Tryz.prog 92 ⟨.sc, [.nilFunc], 8⟩ := .mk' (z := .nilFunc) (by kernel_rfl) rfl Tryz.underlying92 trivial
theorem ty93 : TyOK Tryz.prog 93 ⟨.sc, [.nilFunc], 8⟩ := .mk' (z := .nilFunc) (by kernel_rfl) rfl Tryz.underlying93 trivial
theorem ty94 : TyOK Tryz.prog 94 ⟨.sc, [.nilFunc], 8⟩ := .mk' (z := .nilFunc) (by kernel_rfl) rfl Tryz.underlying94 trivial
theorem ty95 : TyOK Tryz.prog 95 ⟨.sc, [.nilFunc], 8⟩ := .mk' (z := .nilFunc) (by kernel_rfl) rfl Tryz.underlying95 trivial
theorem ty97 : TyOK Tryz.prog 97 ⟨.sc, [.nilFunc], 8⟩ := .mk' (z := .nilFunc) (by kernel_rfl) rfl Tryz.underlying97 trivial
theorem ty98 : TyOK Tryz.prog 98 ⟨.sc, [.nilFunc], 8⟩ := .mk' (z := .nilFunc) (by kernel_rfl) rfl Tryz.underlying98 trivial
theorem ty99 : TyOK Tryz.prog 99 ⟨.sc, [.nilFunc], 8⟩ := .mk' (z := .nilFunc) (by kernel_rfl) rfl Tryz.underlying99 trivial
theorem ty100 : TyOK Tryz.prog 100 ⟨.sc, [.nilFunc], 8⟩ := .mk' (z := .nilFunc) (by kernel_rfl) rfl Tryz.underlying100 trivial
theorem ty101 : TyOK Tryz.prog 101 ⟨.sc, [.nilFunc], 8⟩ := .mk' (z := .nilFunc) (by kernel_rfl) rfl Tryz.underlying101 trivial
theorem ty102 : TyOK Tryz.prog 102 ⟨.sc, [.nilFunc], 8⟩ := .mk' (z := .nilFunc) (by kernel_rfl) rfl Tryz.underlying102 trivial
theorem ty103 : TyOK Tryz.prog 103 ⟨.int .u64, [.int .u64 0], 8⟩ := .mk' (z := .int .u64 0) (by kernel_rfl) rfl Tryz.underlying103 rfl
theorem ty104 : TyOK Tryz.prog 104 ⟨.sc, [.nilFunc], 8⟩ := .mk' (z := .nilFunc) (by kernel_rfl) rfl Tryz.underlying104 trivial
theorem ty105 : TyOK Tryz.prog 105 ⟨.sc, [.nilFunc], 8⟩ := .mk' (z := .nilFunc) (by kernel_rfl) rfl Tryz.underlying105 trivial
theorem ty106 : TyOK Tryz.prog 106 ⟨.sc, [.nilFunc], 8⟩ := .mk' (z := .nilFunc) (by kernel_rfl) rfl Tryz.underlying106 trivial
theorem ty107 : TyOK Tryz.prog 107 ⟨.sc, [.nilFunc], 8⟩ := .mk' (z := .nilFunc) (by kernel_rfl) rfl Tryz.underlying107 trivial
theorem ty108 : TyOK Tryz.prog 108 ⟨.int .i64, [.int .i64 0], 8⟩ := .mk' (z := .int .i64 0) (by kernel_rfl) rfl Tryz.underlying108 rfl
theorem ty110 : TyOK Tryz.prog 110 ⟨.sc, [.nilFunc], 8⟩ := .mk' (z := .nilFunc) (by kernel_rfl) rfl Tryz.underlying110 trivial
theorem ty111 : TyOK Tryz.prog 111 ⟨.sc, [.nilFunc], 8⟩ := .mk' (z := .nilFunc) (by kernel_rfl) rfl Tryz.underlying111 trivial
theorem ty112 : TyOK Tryz.prog 112 ⟨.sc, [.nilFunc], 8⟩ := .mk' (z := .nilFunc) (by kernel_rfl) rfl Tryz.underlying112 trivial
theorem ty113 : TyOK Tryz.prog 113 ⟨.sc, [.nilFunc], 8⟩ := .mk' (z := .nilFunc) (by kernel_rfl) rfl Tryz.underlying113 trivial
theorem ty115 : TyOK Tryz.prog 115 ⟨.sc, [.nilFunc], 8⟩ := .mk' (z := .nilFunc) (by kernel_rfl) rfl Tryz.underlying115 trivial
theorem ty116 : TyOK Tryz.prog 116 ⟨.sc, [.nilFunc], 8⟩ := .mk' (z := .nilFunc) (by kernel_rfl) rfl Tryz.underlying116 trivial
theorem ty117 : TyOK Tryz.prog 117 ⟨.int .u32, [.int .u32 0], 4⟩ := .mk' (z := .int .u32 0) (by kernel_rfl) rfl Tryz.underlying117 rfl
theorem ty118 : TyOK Tryz.prog 118 ⟨.sc, [.nilFunc], 8⟩ := .mk' (z := .nilFunc) (by kernel_rfl) rfl Tryz.underlying118 trivial
theorem ty119 : TyOK Tryz.prog 119 ⟨.sc, [.nilFunc], 8⟩ := .mk' (z := .nilFunc) (by kernel_rfl) rfl Tryz.underlying119 trivial
theorem ty120 : TyOK Tryz.prog 120 ⟨.sc, [.nilFunc], 8⟩ := .mk' (z := .nilFunc) (by kernel_rfl) rfl Tryz.underlying120 trivial
theorem ty121 : TyOK Tryz.prog 121 ⟨.sc, [.nilFunc], 8⟩ := .mk' (z := .nilFunc) (by kernel_rfl) rfl Tryz.underlying121 trivial
theorem ty122 : TyOK Tryz.prog 122 ⟨.sl 46, [.slice none 0 0], 24⟩ := .mk' (z := .slice none 0 0) (by kernel_rfl) rfl Tryz.underlying122 rfl
theorem ty123 : TyOK Tryz.prog 123 ⟨.sc, [.nilFunc], 8⟩ := .mk' (z := .nilFunc) (by kernel_rfl) rfl Tryz.underlying123 trivial
theorem ty124 : TyOK Tryz.prog 124 ⟨.sc, [.nilFunc], 8⟩ := .mk' (z := .nilFunc) (by kernel_rfl) rfl Tryz.underlying124 trivial
theorem ty125 : TyOK Tryz.prog 125 ⟨.sc, [.nilFunc], 8⟩ := .mk' (z := .nilFunc) (by kernel_rfl) rfl Tryz.underlying125 trivial
theorem ty126 : TyOK Tryz.prog 126 ⟨.sc, [.nilFunc], 8⟩ := .mk' (z := .nilFunc) (by kernel_rfl) rfl Tryz.underlying126 trivial
theorem ty127 : TyOK Tryz.prog 127 ⟨.int .u64, [.int .u64 0], 8⟩ := .mk' (z := .int .u64 0) (by kernel_rfl) rfl Tryz.underlying127 rfl
theorem ty128 : TyOK Tryz.prog 128 ⟨.sc, [.nilFunc], 8⟩ := .mk' (z := .nilFunc) (by kernel_rfl) rfl Tryz.underlying128 trivial
theorem ty129 : TyOK Tryz.prog 129 ⟨.sc, [.nilFunc], 8⟩ := .mk' (z := .nilFunc) (by kernel_rfl) rfl Tryz.underlying129 trivial
theorem ty130 : TyOK Tryz.prog 130 ⟨.sc, [.nilFunc], 8⟩ := .mk' (z := .nilFunc) (by kernel_rfl) rfl Tryz.underlying130 trivial
theorem ty131 : TyOK Tryz.prog 131 ⟨.sc, [.pointer none], 8⟩ := .mk' (z := .pointer none) (by kernel_rfl) rfl Tryz.underlying131 trivial
theorem ty132 : TyOK Tryz.prog 132 ⟨.sc, [.nilFunc], 8⟩ := .mk' (z := .nilFunc) (by kernel_rfl) rfl Tryz.underlying132 trivial
theorem ty133 : TyOK Tryz.prog 133 ⟨.sc, [.nilFunc], 8⟩ := .mk' (z := .nilFunc) (by kernel_rfl) rfl Tryz.underlying133 trivial
theorem ty134 : TyOK Tryz.prog 134 ⟨.sc, [.nilFunc], 8⟩ := .mk' (z := .nilFunc) (by kernel_rfl) rfl Tryz.underlying134 trivial
theorem ty135 : TyOK Tryz.prog 135 ⟨.sc, [.nilFunc], 8⟩ := .mk' (z := .nilFunc) (by kernel_rfl) rfl Tryz.underlying135 trivial
theorem ty136 : TyOK Tryz.prog 136 ⟨.sc, [.pointer none], 8⟩ := .mk' (z := .pointer none) (by kernel_rfl) rfl Tryz.underlying136 trivial
theorem ty137 : TyOK Tryz.prog 137 ⟨.sc, [.nilFunc], 8⟩ := .mk' (z := .nilFunc) (by kernel_rfl) rfl Tryz.underlying137 trivial
theorem ty138 : TyOK Tryz.prog 138 ⟨.sc, [.nilFunc], 8⟩ := .mk' (z := .nilFunc) (by kernel_rfl) rfl Tryz.underlying138 trivial
theorem ty139 : TyOK Tryz.prog 139 ⟨.sc, [.pointer none], 8⟩ := .mk' (z := .pointer none) (by kernel_rfl) rfl Tryz.underlying139 trivial
theorem ty141 : TyOK Tryz.prog 141 ⟨.sc, [.nilFunc], 8⟩ := .mk' (z := .nilFunc) (by kernel_rfl) rfl Tryz.underlying141 trivial
theorem ty142 : TyOK Tryz.prog 142 ⟨.sc, [.nilFunc], 8⟩ := .mk' (z := .nilFunc) (by kernel_rfl) rfl Tryz.underlying142 trivial
theorem ty143 : TyOK Tryz.prog 143 ⟨.sc, [.nilFunc], 8⟩ := .mk' (z := .nilFunc) (by kernel_rfl) rfl Tryz.underlying143 trivial
theorem ty144 : TyOK Tryz.prog 144 ⟨.sc, [.nilFunc], 8⟩ := .mk' (z := .nilFunc) (by kernel_rfl) rfl Tryz.underlying144 trivial
theorem ty145 : TyOK Tryz.prog 145 ⟨.sc, [.nilFunc], 8⟩ := .mk' (z := .nilFunc) (by kernel_rfl) rfl Tryz.underlying145 trivial
theorem ty146 : TyOK Tryz.prog 146 ⟨.sc, [.nilFunc], 8⟩ := .mk' (z := .nilFunc) (by kernel_rfl) rfl Tryz.underlying146 trivial
theorem ty147 : TyOK Tryz.prog 147 ⟨.sc, [.nilFunc], 8⟩ := .mk' (z := .nilFunc) (by kernel_rfl) rfl Tryz.underlying147 trivial
theorem ty148 : TyOK Tryz.prog 148 ⟨.sc, [.nilFunc], 8⟩ := .mk' (z := .nilFunc) (by kernel_rfl) rfl Tryz.underlying148 trivial
theorem ty149 : TyOK Tryz.prog 149 ⟨.sc, [.nilFunc], 8⟩ := .mk' (z := .nilFunc) (by kernel_rfl) rfl Tryz.underlying149 trivial
theorem ty150 : TyOK Tryz.prog 150 ⟨.sc, [.nilFunc], 8⟩ := .mk' (z := .nilFunc) (by kernel_rfl) rfl Tryz.underlying150 trivial
theorem ty151 : TyOK Tryz.prog 151 ⟨.st [(0, 17), (1, 17), (2, 17), (3, 9)], [.pointer none, .pointer none, .pointer none, .string ByteArray.empty], 40⟩ := .mk' (z := .agg #[.pointer none, .pointer none, .pointer none, .string ByteArray.empty]) (by kernel_rfl) rfl Tryz.underlying151 ⟨_, rfl, rfl⟩
theorem ty152 : TyOK Tryz.prog 152 ⟨.st [(0, 17), (1, 17), (2, 17), (3, 9)], [.pointer none, .pointer none, .pointer none, .string ByteArray.empty], 40⟩ := .mk' (z := .agg #[.pointer none, .pointer none, .pointer none, .string ByteArray.empty]) (by kernel_rfl) rfl Tryz.underlying152 ⟨_, rfl, rfl⟩
theorem ty153 : TyOK Tryz.prog 153 ⟨.ar 0 16, [], 0⟩ := .mk' (z := .agg #[]) (by kernel_rfl) rfl Tryz.underlying153 rfl
theorem ty154 : TyOK Tryz.prog 154 ⟨.st [(0, 153)], [], 0⟩ := .mk' (z := .agg #[]) (by kernel_rfl) rfl Tryz.underlying154 ⟨_, rfl, rfl⟩
theorem ty155 : TyOK Tryz.prog 155 ⟨.st [(0, 153)], [], 0⟩ := .mk' (z := .agg #[]) (by kernel_rfl) rfl Tryz.underlying155 ⟨_, rfl, rfl⟩
theorem ty156 : TyOK Tryz.prog 156 ⟨.sc, [.nilFunc], 8⟩ := .mk' (z := .nilFunc) (by kernel_rfl) rfl Tryz.underlying156 trivial
theorem ty157 : TyOK Tryz.prog 157 ⟨.int .u8, [.int .u8 0], 1⟩ := .mk' (z := .int .u8 0) (by kernel_rfl) rfl Tryz.underlying157 rfl
theorem ty158 : TyOK Tryz.prog 158 ⟨.int .u8, [.int .u8 0], 1⟩ := .mk' (z := .int .u8 0) (by kernel_rfl) rfl Tryz.underlying158 rfl
theorem ty159 : TyOK Tryz.prog 159 ⟨.sc, [.nilFunc], 8⟩ := .mk' (z := .nilFunc) (by kernel_rfl) rfl Tryz.underlying159 trivial
theorem ty160 : TyOK Tryz.prog 160 ⟨.sc, [.pointer none], 8⟩ := .mk' (z := .pointer none) (by kernel_rfl) rfl Tryz.underlying160 trivial
theorem ty161 : TyOK Tryz.prog 161 ⟨.int .i32, [.int .i32 0], 4⟩ := .mk' (z := .int .i32 0) (by kernel_rfl) rfl Tryz.underlying161 rfl
theorem ty162 : TyOK Tryz.prog 162 ⟨.int .i32, [.int .i32 0], 4⟩ := .mk' (z := .int .i32 0) (by kernel_rfl) rfl Tryz.underlying162 rfl
theorem ty163 : TyOK Tryz.prog 163 ⟨.st [(0, 12), (1, 12), (2, 117), (3, 157), (4, 5), (5, 5), (6, 158), (7, 159), (8, 160), (9, 161), (10, 162)], [.int .u64 0, .int .u64 0, .int .u32 0, .int .u8 0, .int .u8 0, .int .u8 0, .int .u8 0, .nilFunc, .pointer none, .int .i32 0, .int .i32 0], 48⟩ := .mk' (z := .agg #[.int .u64 0, .int .u64 0, .int .u32 0, .int .u8 0, .int .u8 0, .int .u8 0, .int .u8 0, .nilFunc, .pointer none, .int .i32 0, .int .i32 0]) (by kernel_rfl) rfl Tryz.underlying163 ⟨_, rfl, rfl⟩
theorem ty164 : TyOK Tryz.prog 164 ⟨.st [(0, 12), (1, 12), (2, 117), (3, 157), (4, 5), (5, 5), (6, 158), (7, 159), (8, 160), (9, 161), (10, 162)], [.int .u64 0, .int .u64 0, .int .u32 0, .int .u8 0, .int .u8 0, .int .u8 0, .int .u8 0, .nilFunc, .pointer none, .int .i32 0, .int .i32 0], 48⟩ := .mk' (z := .agg #[.int .u64 0, .int .u64 0, .int .u32 0, .int .u8 0, .int .u8 0, .int .u8 0, .int .u8 0, .nilFunc, .pointer none, .int .i32 0, .int .i32 0]) (by kernel_rfl) rfl Tryz.underlying164 ⟨_, rfl, rfl⟩
theorem ty165 : TyOK Tryz.prog 165 ⟨.sc, [.pointer none], 8⟩ := .mk' (z := .pointer none) (by kernel_rfl) rfl Tryz.underlying165 trivial

def te : List (Nat × TI) := [(1, ⟨.sc, [.nilFunc], 8⟩),
  (2, ⟨.int .i64, [.int .i64 0], 8⟩),
  (3, ⟨.int .i64, [.int .i64 0], 8⟩),
  (4, ⟨.bool, [.bool false], 1⟩),
  (5, ⟨.int .u8, [.int .u8 0], 1⟩),
  (6, ⟨.int .u8, [.int .u8 0], 1⟩),
  (7, ⟨.st [(0, 2), (1, 3), (2, 4), (3, 6)], [.int .i64 0, .int .i64 0, .bool false, .int .u8 0], 24⟩),
  (8, ⟨.st [(0, 2), (1, 3), (2, 4), (3, 6)], [.int .i64 0, .int .i64 0, .bool false, .int .u8 0], 24⟩),
  (9, ⟨.sc, [.string ByteArray.empty], 16⟩),
  (10, ⟨.sc, [.string ByteArray.empty], 16⟩),
  (11, ⟨.sc, [.string ByteArray.empty], 16⟩),
  (12, ⟨.int .u64, [.int .u64 0], 8⟩),
  (13, ⟨.st [(0, 9), (1, 12)], [.string ByteArray.empty, .int .u64 0], 24⟩),
  (14, ⟨.st [(0, 9), (1, 12)], [.string ByteArray.empty, .int .u64 0], 24⟩),
  (15, ⟨.sc, [.pointer none], 8⟩),
  (16, ⟨.sc, [.pointer none], 8⟩),
  (17, ⟨.sc, [.pointer none], 8⟩),
  (18, ⟨.st [(0, 17)], [.pointer none], 8⟩),
  (19, ⟨.st [(0, 17)], [.pointer none], 8⟩),
  (21, ⟨.int .i32, [.int .i32 0], 4⟩),
  (22, ⟨.sl 56, [.slice none 0 0], 24⟩),
  (23, ⟨.sl 88, [.slice none 0 0], 24⟩),
  (24, ⟨.sl 73, [.slice none 0 0], 24⟩),
  (25, ⟨.st [(0, 3), (1, 3), (2, 3), (3, 3), (4, 3), (5, 3), (6, 22), (7, 23), (8, 24)], [.int .i64 0, .int .i64 0, .int .i64 0, .int .i64 0, .int .i64 0, .int .i64 0, .slice none 0 0, .slice none 0 0, .slice none 0 0], 120⟩),
  (26, ⟨.st [(0, 3), (1, 3), (2, 3), (3, 3), (4, 3), (5, 3), (6, 22), (7, 23), (8, 24)], [.int .i64 0, .int .i64 0, .int .i64 0, .int .i64 0, .int .i64 0, .int .i64 0, .slice none 0 0, .slice none 0 0, .slice none 0 0], 120⟩),
  (27, ⟨.sl 3, [.slice none 0 0], 24⟩),
  (28, ⟨.sc, [.nilFunc], 8⟩),
  (29, ⟨.sc, [.nilFunc], 8⟩),
  (30, ⟨.int .i64, [.int .i64 0], 8⟩),
  (32, ⟨.sc, [.nilFunc], 8⟩),
  (33, ⟨.sc, [.nilFunc], 8⟩),
  (34, ⟨.sc, [.nilFunc], 8⟩),
  (36, ⟨.sc, [.nilFunc], 8⟩),
  (37, ⟨.sc, [.nilFunc], 8⟩),
  (38, ⟨.sc, [.nilFunc], 8⟩),
  (39, ⟨.sc, [.nilFunc], 8⟩),
  (40, ⟨.int .u64, [.int .u64 0], 8⟩),
  (41, ⟨.sc, [.nilFunc], 8⟩),
  (42, ⟨.sc, [.nilFunc], 8⟩),
  (43, ⟨.sc, [.nilFunc], 8⟩),
  (44, ⟨.sc, [.nilFunc], 8⟩),
  (45, ⟨.st [(0, 3), (1, 3)], [.int .i64 0, .int .i64 0], 16⟩),
  (46, ⟨.st [(0, 3), (1, 3)], [.int .i64 0, .int .i64 0], 16⟩),
  (47, ⟨.sc, [.nilFunc], 8⟩),
  (48, ⟨.sc, [.nilFunc], 8⟩),
  (49, ⟨.sc, [.nilFunc], 8⟩),
  (51, ⟨.sc, [.nilFunc], 8⟩),
  (52, ⟨.sc, [.nilFunc], 8⟩),
  (53, ⟨.st [(0, 3), (1, 3)], [.int .i64 0, .int .i64 0], 16⟩),
  (54, ⟨.st [(0, 3), (1, 3)], [.int .i64 0, .int .i64 0], 16⟩),
  (55, ⟨.st [(0, 54), (2, 3), (3, 4)], [.int .i64 0, .int .i64 0, .int .i64 0, .bool false], 32⟩),
  (56, ⟨.st [(0, 54), (2, 3), (3, 4)], [.int .i64 0, .int .i64 0, .int .i64 0, .bool false], 32⟩),
  (57, ⟨.sc, [.nilFunc], 8⟩),
  (58, ⟨.sc, [.nilFunc], 8⟩),
  (60, ⟨.sc, [.nilFunc], 8⟩),
  (61, ⟨.sc, [.nilFunc], 8⟩),
  (62, ⟨.sc, [.nilFunc], 8⟩),
  (64, ⟨.sc, [.nilFunc], 8⟩),
  (65, ⟨.sc, [.nilFunc], 8⟩),
  (66, ⟨.sc, [.nilFunc], 8⟩),
  (67, ⟨.sc, [.nilFunc], 8⟩),
  (68, ⟨.sc, [.nilFunc], 8⟩),
  (69, ⟨.sc, [.nilFunc], 8⟩),
  (70, ⟨.sl 28, [.slice none 0 0], 24⟩),
  (71, ⟨.sl 46, [.slice none 0 0], 24⟩),
  (72, ⟨.st [(0, 3), (1, 71)], [.int .i64 0, .slice none 0 0], 32⟩),
  (73, ⟨.st [(0, 3), (1, 71)], [.int .i64 0, .slice none 0 0], 32⟩),
  (74, ⟨.sc, [.nilFunc], 8⟩),
  (75, ⟨.sc, [.nilFunc], 8⟩),
  (76, ⟨.sc, [.nilFunc], 8⟩),
  (77, ⟨.sc, [.nilFunc], 8⟩),
  (78, ⟨.sc, [.nilFunc], 8⟩),
  (79, ⟨.sl 54, [.slice none 0 0], 24⟩),
  (81, ⟨.sc, [.nilFunc], 8⟩),
  (82, ⟨.sc, [.nilFunc], 8⟩),
  (83, ⟨.sc, [.nilFunc], 8⟩),
  (84, ⟨.sc, [.nilFunc], 8⟩),
  (85, ⟨.sc, [.nilFunc], 8⟩),
  (86, ⟨.sc, [.nilFunc], 8⟩),
  (87, ⟨.st [(0, 3), (1, 46)], [.int .i64 0, .int .i64 0, .int .i64 0], 24⟩),
  (88, ⟨.st [(0, 3), (1, 46)], [.int .i64 0, .int .i64 0, .int .i64 0], 24⟩),
  (89, ⟨.sc, [.nilFunc], 8⟩),
  (90, ⟨.sc, [.nilFunc], 8⟩),
  (91, ⟨.sc, [.nilFunc], 8⟩),
  (92, ⟨.sc, [.nilFunc], 8⟩),
  (93, ⟨.sc, [.nilFunc], 8⟩),
  (94, ⟨.sc, [.nilFunc], 8⟩),
  (95, ⟨.sc, [.nilFunc], 8⟩),
  (97, ⟨.sc, [.nilFunc], 8⟩),
  (98, ⟨.sc, [.nilFunc], 8⟩),
  (99, ⟨.sc, [.nilFunc], 8⟩),
  (100, ⟨.sc, [.nilFunc], 8⟩),
  (101, ⟨.sc, [.nilFunc], 8⟩),
  (102, ⟨.sc, [.nilFunc], 8⟩),
  (103, ⟨.int .u64, [.int .u64 0], 8⟩),
  (104, ⟨.sc, [.nilFunc], 8⟩),
  (105, ⟨.sc, [.nilFunc], 8⟩),
  (106, ⟨.sc, [.nilFunc], 8⟩),
  (107, ⟨.sc, [.nilFunc], 8⟩),
  (108, ⟨.int .i64, [.int .i64 0], 8⟩),
  (110, ⟨.sc, [.nilFunc], 8⟩),
  (111, ⟨.sc, [.nilFunc], 8⟩),
  (112, ⟨.sc, [.nilFunc], 8⟩),
  (113, ⟨.sc, [.nilFunc], 8⟩),
  (115, ⟨.sc, [.nilFunc], 8⟩),
  (116, ⟨.sc, [.nilFunc], 8⟩),
  (117, ⟨.int .u32, [.int .u32 0], 4⟩),
  (118, ⟨.sc, [.nilFunc], 8⟩),
  (119, ⟨.sc, [.nilFunc], 8⟩),
  (120, ⟨.sc, [.nilFunc], 8⟩),
  (121, ⟨.sc, [.nilFunc], 8⟩),
  (122, ⟨.sl 46, [.slice none 0 0], 24⟩),
  (123, ⟨.sc, [.nilFunc], 8⟩),
  (124, ⟨.sc, [.nilFunc], 8⟩),
  (125, ⟨.sc, [.nilFunc], 8⟩),
  (126, ⟨.sc, [.nilFunc], 8⟩),
  (127, ⟨.int .u64, [.int .u64 0], 8⟩),
  (128, ⟨.sc, [.nilFunc], 8⟩),
  (129, ⟨.sc, [.nilFunc], 8⟩),
  (130, ⟨.sc, [.nilFunc], 8⟩),
  (131, ⟨.sc, [.pointer none], 8⟩),
  (132, ⟨.sc, [.nilFunc], 8⟩),
  (133, ⟨.sc, [.nilFunc], 8⟩),
  (134, ⟨.sc, [.nilFunc], 8⟩),
  (135, ⟨.sc, [.nilFunc], 8⟩),
  (136, ⟨.sc, [.pointer none], 8⟩),
  (137, ⟨.sc, [.nilFunc], 8⟩),
  (138, ⟨.sc, [.nilFunc], 8⟩),
  (139, ⟨.sc, [.pointer none], 8⟩),
  (141, ⟨.sc, [.nilFunc], 8⟩),
  (142, ⟨.sc, [.nilFunc], 8⟩),
  (143, ⟨.sc, [.nilFunc], 8⟩),
  (144, ⟨.sc, [.nilFunc], 8⟩),
  (145, ⟨.sc, [.nilFunc], 8⟩),
  (146, ⟨.sc, [.nilFunc], 8⟩),
  (147, ⟨.sc, [.nilFunc], 8⟩),
  (148, ⟨.sc, [.nilFunc], 8⟩),
  (149, ⟨.sc, [.nilFunc], 8⟩),
  (150, ⟨.sc, [.nilFunc], 8⟩),
  (151, ⟨.st [(0, 17), (1, 17), (2, 17), (3, 9)], [.pointer none, .pointer none, .pointer none, .string ByteArray.empty], 40⟩),
  (152, ⟨.st [(0, 17), (1, 17), (2, 17), (3, 9)], [.pointer none, .pointer none, .pointer none, .string ByteArray.empty], 40⟩),
  (153, ⟨.ar 0 16, [], 0⟩),
  (154, ⟨.st [(0, 153)], [], 0⟩),
  (155, ⟨.st [(0, 153)], [], 0⟩),
  (156, ⟨.sc, [.nilFunc], 8⟩),
  (157, ⟨.int .u8, [.int .u8 0], 1⟩),
  (158, ⟨.int .u8, [.int .u8 0], 1⟩),
  (159, ⟨.sc, [.nilFunc], 8⟩),
  (160, ⟨.sc, [.pointer none], 8⟩),
  (161, ⟨.int .i32, [.int .i32 0], 4⟩),
  (162, ⟨.int .i32, [.int .i32 0], 4⟩),
  (163, ⟨.st [(0, 12), (1, 12), (2, 117), (3, 157), (4, 5), (5, 5), (6, 158), (7, 159), (8, 160), (9, 161), (10, 162)], [.int .u64 0, .int .u64 0, .int .u32 0, .int .u8 0, .int .u8 0, .int .u8 0, .int .u8 0, .nilFunc, .pointer none, .int .i32 0, .int .i32 0], 48⟩),
  (164, ⟨.st [(0, 12), (1, 12), (2, 117), (3, 157), (4, 5), (5, 5), (6, 158), (7, 159), (8, 160), (9, 161), (10, 162)], [.int .u64 0, .int .u64 0, .int .u32 0, .int .u8 0, .int .u8 0, .int .u8 0, .int .u8 0, .nilFunc, .pointer none, .int .i32 0, .int .i32 0], 48⟩),
  (165, ⟨.sc, [.pointer none], 8⟩)]
theorem teOK : TEOK Tryz.prog te :=
  teOK_cons ty1 (
  teOK_cons ty2 (
  teOK_cons ty3 (
  teOK_cons ty4 (
  teOK_cons ty5 (
  teOK_cons ty6 (
  teOK_cons ty7 (
  teOK_cons ty8 (
  teOK_cons ty9 (
  teOK_cons ty10 (
  teOK_cons ty11 (
  teOK_cons ty12 (
  teOK_cons ty13 (
  teOK_cons ty14 (
  teOK_cons ty15 (
  teOK_cons ty16 (
  teOK_cons ty17 (
  teOK_cons ty18 (
  teOK_cons ty19 (
  teOK_cons ty21 (
  teOK_cons ty22 (
  teOK_cons ty23 (
  teOK_cons ty24 (
  teOK_cons ty25 (
  teOK_cons ty26 (
  teOK_cons ty27 (
  teOK_cons ty28 (
  teOK_cons ty29 (
  teOK_cons ty30 (
  teOK_cons ty32 (
  teOK_cons ty33 (
  teOK_cons ty34 (
  teOK_cons ty36 (
  teOK_cons ty37 (
  teOK_cons ty38 (
  teOK_cons ty39 (
  teOK_cons ty40 (
  teOK_cons ty41 (
  teOK_cons ty42 (
  teOK_cons ty43 (
  teOK_cons ty44 (
  teOK_cons ty45 (
  teOK_cons ty46 (
  teOK_cons ty47 (
  teOK_cons ty48 (
  teOK_cons ty49 (
  teOK_cons ty51 (
  teOK_cons ty52 (
  teOK_cons ty53 (
  teOK_cons ty54 (
  teOK_cons ty55 (
  teOK_cons ty56 (
  teOK_cons ty57 (
  teOK_cons ty58 (
  teOK_cons ty60 (
  teOK_cons ty61 (
  teOK_cons ty62 (
  teOK_cons ty64 (
  teOK_cons ty65 (
  teOK_cons ty66 (
  teOK_cons ty67 (
  teOK_cons ty68 (
  teOK_cons ty69 (
  teOK_cons ty70 (
  teOK_cons ty71 (
  teOK_cons ty72 (
  teOK_cons ty73 (
  teOK_cons ty74 (
  teOK_cons ty75 (
  teOK_cons ty76 (
  teOK_cons ty77 (
  teOK_cons ty78 (
  teOK_cons ty79 (
  teOK_cons ty81 (
  teOK_cons ty82 (
  teOK_cons ty83 (
  teOK_cons ty84 (
  teOK_cons ty85 (
  teOK_cons ty86 (
  teOK_cons ty87 (
  teOK_cons ty88 (
  teOK_cons ty89 (
  teOK_cons ty90 (
  teOK_cons ty91 (
  teOK_cons ty92 (
  teOK_cons ty93 (
  teOK_cons ty94 (
  teOK_cons ty95 (
  teOK_cons ty97 (
  teOK_cons ty98 (
  teOK_cons ty99 (
  teOK_cons ty100 (
  teOK_cons ty101 (
  teOK_cons ty102 (
  teOK_cons ty103 (
  teOK_cons ty104 (
  teOK_cons ty105 (
  teOK_cons ty106 (
  teOK_cons ty107 (
  teOK_cons ty108 (
  teOK_cons ty110 (
  teOK_cons ty111 (
  teOK_cons ty112 (
  teOK_cons ty113 (
  teOK_cons ty115 (
  teOK_cons ty116 (
  teOK_cons ty117 (
  teOK_cons ty118 (
  teOK_cons ty119 (
  teOK_cons ty120 (
  teOK_cons ty121 (
  teOK_cons ty122 (
  teOK_cons ty123 (
  teOK_cons ty124 (
  teOK_cons ty125 (
  teOK_cons ty126 (
  teOK_cons ty127 (
  teOK_cons ty128 (
  teOK_cons ty129 (
  teOK_cons ty130 (
  teOK_cons ty131 (
  teOK_cons ty132 (
  teOK_cons ty133 (
  teOK_cons ty134 (
  teOK_cons ty135 (
  teOK_cons ty136 (
  teOK_cons ty137 (
  teOK_cons ty138 (
  teOK_cons ty139 (
  teOK_cons ty141 (
  teOK_cons ty142 (
  teOK_cons ty143 (
  teOK_cons ty144 (
  teOK_cons ty145 (
  teOK_cons ty146 (
  teOK_cons ty147 (
  teOK_cons ty148 (
  teOK_cons ty149 (
  teOK_cons ty150 (
  teOK_cons ty151 (
  teOK_cons ty152 (
  teOK_cons ty153 (
  teOK_cons ty154 (
  teOK_cons ty155 (
  teOK_cons ty156 (
  teOK_cons ty157 (
  teOK_cons ty158 (
  teOK_cons ty159 (
  teOK_cons ty160 (
  teOK_cons ty161 (
  teOK_cons ty162 (
  teOK_cons ty163 (
  teOK_cons ty164 (
  teOK_cons ty165 (
  teOK_nil))))))))))))))))))))))))))))))))))))))))))))))))))))))))))))))))))))))))))))))))))))))))))))))))))))))))))))))))))))))))))))))))))))))))))))))))))))))))))
theorem eq45 : ∀ (op : BinOp) (x y x' y' : Int) (W : World), (op = .eql ∨ op = .neq) → ∀ (u v : Operand), (do eqGuard op 45 u v (.agg #[.int .i64 x, .int .i64 y]) (.agg #[.int .i64 x', .int .i64 y']); binOp op 45 (.agg #[.int .i64 x, .int .i64 y]) (.agg #[.int .i64 x', .int .i64 y']) : Sem Value).run Tryz.prog W = .ok (.bool (eqRes op (x == x' && y == y'))) W :=
  eq2_of Tryz.underlying45 rfl rfl rfl rfl Tryz.underlying3 Tryz.underlying3 (by kernel_rfl) (by kernel_rfl)
theorem eq46 : ∀ (op : BinOp) (x y x' y' : Int) (W : World), (op = .eql ∨ op = .neq) → ∀ (u v : Operand), (do eqGuard op 46 u v (.agg #[.int .i64 x, .int .i64 y]) (.agg #[.int .i64 x', .int .i64 y']); binOp op 46 (.agg #[.int .i64 x, .int .i64 y]) (.agg #[.int .i64 x', .int .i64 y']) : Sem Value).run Tryz.prog W = .ok (.bool (eqRes op (x == x' && y == y'))) W :=
  eq2_of Tryz.underlying46 rfl rfl rfl rfl Tryz.underlying3 Tryz.underlying3 (by kernel_rfl) (by kernel_rfl)
theorem eq53 : ∀ (op : BinOp) (x y x' y' : Int) (W : World), (op = .eql ∨ op = .neq) → ∀ (u v : Operand), (do eqGuard op 53 u v (.agg #[.int .i64 x, .int .i64 y]) (.agg #[.int .i64 x', .int .i64 y']); binOp op 53 (.agg #[.int .i64 x, .int .i64 y]) (.agg #[.int .i64 x', .int .i64 y']) : Sem Value).run Tryz.prog W = .ok (.bool (eqRes op (x == x' && y == y'))) W :=
  eq2_of Tryz.underlying53 rfl rfl rfl rfl Tryz.underlying3 Tryz.underlying3 (by kernel_rfl) (by kernel_rfl)
theorem eq54 : ∀ (op : BinOp) (x y x' y' : Int) (W : World), (op = .eql ∨ op = .neq) → ∀ (u v : Operand), (do eqGuard op 54 u v (.agg #[.int .i64 x, .int .i64 y]) (.agg #[.int .i64 x', .int .i64 y']); binOp op 54 (.agg #[.int .i64 x, .int .i64 y]) (.agg #[.int .i64 x', .int .i64 y']) : Sem Value).run Tryz.prog W = .ok (.bool (eqRes op (x == x' && y == y'))) W :=
  eq2_of Tryz.underlying54 rfl rfl rfl rfl Tryz.underlying3 Tryz.underlying3 (by kernel_rfl) (by kernel_rfl)
theorem en87 : EqN Tryz.prog 87 3 := EqN.of (EqT.st Tryz.underlying87 ty87 rfl (by kernel_rfl) (.cons rfl rfl ((EqT.int Tryz.underlying3).mono (by decide)) (.cons rfl rfl (EqT.st Tryz.underlying46 ty46 rfl (by kernel_rfl) (.cons rfl rfl (EqT.int Tryz.underlying3) (.cons rfl rfl (EqT.int Tryz.underlying3) ((.nil _)))) : EqT Tryz.prog 46 2 2 true) ((.nil _)))) : EqT Tryz.prog 87 3 3 true) (by decide) (by kernel_rfl)
theorem en88 : EqN Tryz.prog 88 3 := EqN.of (EqT.st Tryz.underlying88 ty88 rfl (by kernel_rfl) (.cons rfl rfl ((EqT.int Tryz.underlying3).mono (by decide)) (.cons rfl rfl (EqT.st Tryz.underlying46 ty46 rfl (by kernel_rfl) (.cons rfl rfl (EqT.int Tryz.underlying3) (.cons rfl rfl (EqT.int Tryz.underlying3) ((.nil _)))) : EqT Tryz.prog 46 2 2 true) ((.nil _)))) : EqT Tryz.prog 88 3 3 true) (by decide) (by kernel_rfl)
def cx : VX := { te := te, eq2 := [45, 46, 53, 54], eqN := [(87, 3), (88, 3)], inl := false }
theorem cxOK : VXOK Tryz.prog cx := ⟨fun tn ht => by
  simp only [cx, List.mem_cons, List.not_mem_nil, or_false] at ht
  rcases ht with rfl | rfl
  · exact en87
  · exact en88,
  teOK, fun t ht => by
  simp only [cx, List.mem_cons, List.not_mem_nil, or_false] at ht
  rcases ht with rfl | rfl | rfl | rfl
  · exact eq45
  · exact eq46
  · exact eq53
  · exact eq54, by kernel_rfl⟩
/-- The same, where a call may be walked where it stands. -/
def cxI : VX := { cx with inl := true }
theorem cxIOK : VXOK Tryz.prog cxI := ⟨cxOK.eqN, cxOK.te, cxOK.eq2, cxOK.mixed⟩
end Go.Proofs.YtegmjmdkhbibjaaGreat

/- The plain law of polygons, cases and alarms: no program in sight. -/
namespace Go.Proofs.YtegmjmdkhbibjaaGreat
open Go
abbrev Pt := Int × Int
def cross (ax ay bx by' cx cy : Int) : Int := (bx - ax) * (cy - ay) - (by' - ay) * (cx - ax)
def isC (x : Int) : Prop := -500000 ≤ x ∧ x ≤ 500000
def isCb (x : Int) : Bool := decide (-500000 ≤ x ∧ x ≤ 500000)
def i64r (x : Int) : Prop := -9223372036854775808 ≤ x ∧ x ≤ 9223372036854775807
theorem isCb_iff {x : Int} : isCb x = true ↔ isC x := by simp [isCb, isC]
def gp (ps : List Pt) (i : Nat) : Pt := ps.getD i (0, 0)
def placeB (p : Pt) : Bool := isCb p.1 && isCb p.2
def crossP (a b c : Pt) : Int := cross a.1 a.2 b.1 b.2 c.1 c.2
def i64P (ps : List Pt) : Prop := ∀ i, i < ps.length → i64r (gp ps i).1 ∧ i64r (gp ps i).2
theorem all_false {n : Nat} {f : Nat → Bool} {i : Nat} (hi : i < n) (h : f i = false) : (List.range n).all f = false := by
  cases hb : (List.range n).all f with
  | false => rfl
  | true => have := List.all_eq_true.1 hb i (List.mem_range.2 hi); rw [h] at this; cases this
theorem all_true {n : Nat} {f : Nat → Bool} (h : ∀ i, i < n → f i = true) : (List.range n).all f = true := List.all_eq_true.2 fun i hi => h i (List.mem_range.1 hi)
theorem all_iff {n : Nat} {f : Nat → Bool} : (List.range n).all f = true ↔ ∀ i, i < n → f i = true := ⟨fun h i hi => List.all_eq_true.1 h i (List.mem_range.2 hi), all_true⟩

/- The reference's law of polygons. -/
/- Has, within. -/
def betwB (a b x : Pt) : Bool := decide (min a.1 b.1 ≤ x.1 ∧ x.1 ≤ max a.1 b.1 ∧ min a.2 b.2 ≤ x.2 ∧ x.2 ≤ max a.2 b.2)
def sideB (ps : List Pt) (x : Pt) (i : Nat) : Bool := decide (0 ≤ crossP (gp ps i) (gp ps ((i + 1) % ps.length)) x)
def hasB (ps : List Pt) (x : Pt) : Bool :=
  if ps.length = 1 then gp ps 0 == x
  else if ps.length = 2 then decide (crossP (gp ps 0) (gp ps 1) x = 0) && betwB (gp ps 0) (gp ps 1) x
  else (List.range ps.length).all (sideB ps x)
/- Cases. -/
structure CaseS where
  sn : List Int
  cl : List Int
  st : List (List Pt)
structure BelS where
  t : Int
  cs : List CaseS
def gi (l : List Int) (i : Nat) : Int := l.getD i 0
def gc (cs : List CaseS) (i : Nat) : CaseS := cs.getD i ⟨[], [], []⟩
def gb (bs : List BelS) (i : Nat) : BelS := bs.getD i ⟨0, []⟩
end Go.Proofs.YtegmjmdkhbibjaaGreat

/- Contracts of the leaf functions of hull and of the reference: part a. -/
namespace Go.Proofs.YtegmjmdkhbibjaaGreat
open Go Go.V Go.RowKit
def pt (x y : Int) : Value := .agg #[.int .i64 x, .int .i64 y]
end Go.Proofs.YtegmjmdkhbibjaaGreat

/- Data in memory; the iterator over the sides. -/
namespace Go.Proofs.YtegmjmdkhbibjaaGreat
open Go Go.V Go.RowKit
def cellsP (ps : List Pt) : List Value := ps.flatMap fun p => [.int .i64 p.1, .int .i64 p.2]
def Pts (M : Mem) (v : Value) (ps : List Pt) : Prop := SlAt M 2 v ps.length (cellsP ps)
def ptv (p : Pt) : Value := pt p.1 p.2
theorem cellsP_get : ∀ (ps : List Pt) (i : Nat), i < ps.length → (cellsP ps)[2 * i]? = some (.int .i64 (ps.getD i (0,0)).1) ∧ (cellsP ps)[2 * i + 1]? = some (.int .i64 (ps.getD i (0,0)).2)
  | [], i, h => by cases h
  | p :: ps, 0, _ => ⟨rfl, rfl⟩
  | p :: ps, i + 1, h => by
    have := cellsP_get ps i (by simpa using h)
    have e1 : 2 * (i + 1) = 2 * i + 1 + 1 := by omega
    rw [e1]
    simpa [cellsP] using this
end Go.Proofs.YtegmjmdkhbibjaaGreat

/- Contracts: places, comparisons. -/
namespace Go.Proofs.YtegmjmdkhbibjaaGreat
open Go Go.V Go.RowKit
theorem bool1 {a b : Bool} (h : a = true ↔ b = true) : [Value.bool a] = [.bool b] := by
  cases a <;> cases b <;> simp_all
theorem Place_fn (x y : Int) (M : Mem) : FnP Tryz.prog 25 [pt x y] M [.bool (isCb x && isCb y)] := by
  refine Fn.of_vc cxOK Tryz.func25 rfl rfl rfl ?_
  repeat' (first | refine VIf.tt ?_ | refine VIf.ff ?_ | refine VIf.mk (fun _ => ?_) (fun _ => ?_) | refine VFact.mk ?_ trivial)
  all_goals (refine ⟨bool1 ?_, rfl⟩; simp only [isCb, Bool.and_eq_true, decide_eq_true_eq, decide_eq_false_iff_not, Bool.false_eq_true, false_iff] at *; omega)

theorem isPlace_fn (x y : Int) (M : Mem) (hx : i64r x) (hy : i64r y) : FnP Tryz.prog 84 [pt x y] M [.bool (isCb x && isCb y)] := by
  unfold i64r at *
  have wmin : IntKind.wrap .i64 (- -9223372036854775808) = -9223372036854775808 := by decide
  refine Fn.of_vc cxOK Tryz.func84 rfl rfl rfl ?_
  have neg : ∀ (z : Int) (K : Int → Prop), -9223372036854775808 ≤ z → z ≤ 9223372036854775807 → (z ≠ -9223372036854775808 → K (-z)) → (z = -9223372036854775808 → K (-9223372036854775808)) → VArith (-9223372036854775808) 9223372036854775807 .i64 (-z) K := by
    intro z K h1 h2 h3 h4
    by_cases hz : z = -9223372036854775808
    · repeat (first | refine VIf.tt ?_ | refine VIf.ff ?_)
      refine VArith.wr ?_
      rw [hz, wmin]; exact h4 hz
    · repeat (first | refine VIf.tt ?_ | refine VIf.ff ?_)
      exact VArith.ok (by omega) (by omega) (h3 hz)
  repeat' (first | refine neg _ _ (by omega) (by omega) (fun _ => ?_) (fun _ => ?_) | refine VIf.tt ?_ | refine VIf.ff ?_ | refine VIf.mk (fun _ => ?_) (fun _ => ?_) | refine VFact.mk ?_ trivial)
  all_goals (refine ⟨bool1 ?_, rfl⟩; simp only [isCb, Bool.and_eq_true, decide_eq_true_eq, decide_eq_false_iff_not, Bool.false_eq_true, false_iff] at *; simp only [List.foldl] at *; omega)

end Go.Proofs.YtegmjmdkhbibjaaGreat

/- Contracts: cmp.Or, hull.compare, hull.sides. -/
namespace Go.Proofs.YtegmjmdkhbibjaaGreat
open Go Go.V Go.RowKit
end Go.Proofs.YtegmjmdkhbibjaaGreat

/- Contracts: hull.Valid. -/
namespace Go.Proofs.YtegmjmdkhbibjaaGreat
open Go Go.V Go.RowKit
/-- A point of a list, read. -/
theorem Pts.read {M : Mem} {ad : Addr} {ps : List Pt} (hrd : ∀ (j : Nat) (v : Value), (cellsP ps)[j]? = some v → M.cell (ad.add j) = some v) {k : Nat} (hk : k < ps.length) :
    ∀ j v, [Value.int .i64 (gp ps k).1, .int .i64 (gp ps k).2][j]? = some v → M.cell ((ad.add (k * 2)).add j) = some v := by
  intro j v hj
  obtain ⟨g1, g2⟩ := cellsP_get ps k hk
  rw [show (ad.add (k * 2)).add j = ad.add (2 * k + j) by rw [Addr.add_add]; congr 1; omega]
  refine hrd _ _ ?_
  match j, hj with
  | 0, hj => rw [← hj]; exact g1
  | 1, hj => rw [← hj]; exact g2
  | j + 2, hj => simp at hj

theorem injOK_id : ∀ (l : List (Nat × Option OE)), injOK id l
  | [] => trivial
  | (i, _) :: l => ⟨fun j _ => by by_cases h : i = j; exact .inl h; exact .inr h, injOK_id l⟩
/-- What the cells of a slice of points say, in whatever memory comes. -/
theorem Pts.cellsOf {M : Mem} {ad : Option Addr} {n c : Nat} {ps : List Pt} (h : Pts M (.slice ad n c) ps) : n = ps.length ∧ n ≤ maxLen ∧ ∀ M', M.le M' → ∀ k, k < ps.length → ∃ ad', ad = some ad' ∧ ∀ j v, [Value.int .i64 (gp ps k).1, .int .i64 (gp ps k).2][j]? = some v → M'.cell ((ad'.add (k * 2)).add j) = some v := by
  obtain ⟨ad, c, he, hc, hm, hl, h1, hcell⟩ := h
  cases he
  refine ⟨rfl, by omega, fun M' hM k hk => ?_⟩
  obtain ⟨ad', rfl, hrd⟩ := hcell (by omega)
  exact ⟨ad', rfl, fun j v hj => Mem.cell_le hM (Pts.read hrd hk j v hj)⟩
theorem Pts.shape {M : Mem} {v : Value} {ps : List Pt} (h : Pts M v ps) : ∃ ad c, v = .slice ad ps.length c := let ⟨ad, c, he, _⟩ := h; ⟨ad, c, he⟩

end Go.Proofs.YtegmjmdkhbibjaaGreat

/- Data in memory: lists of integers, polygons, regions, cases, beliefs. -/
namespace Go.Proofs.YtegmjmdkhbibjaaGreat
open Go Go.V Go.RowKit
/-- A slice whose elements say the elements of a list. -/
def Arr {α : Type} (D : Mem → α → List Value → Prop) (M : Mem) (k : Nat) (v : Value) (l : List α) : Prop :=
  ∃ rows : List (List Value), rows.length = l.length ∧ (∀ r ∈ rows, r.length = k) ∧ SlAt M k v l.length rows.flatten ∧ ∀ (i : Nat) (x : α) (r : List Value), l[i]? = some x → rows[i]? = some r → D M x r
theorem Arr.le {α : Type} {D : Mem → α → List Value → Prop} (hD : ∀ M M' x r, M.le M' → D M x r → D M' x r) {M M' : Mem} {k : Nat} {v : Value} {l : List α} (h : Arr D M k v l) (hM : M.le M') : Arr D M' k v l :=
  let ⟨rows, h1, h2, h3, h4⟩ := h
  ⟨rows, h1, h2, h3.le hM, fun i x r hx hr => hD _ _ _ _ hM (h4 i x r hx hr)⟩
theorem flat_get {k : Nat} : ∀ (rows : List (List Value)) (i : Nat) (r : List Value), (∀ r ∈ rows, r.length = k) → rows[i]? = some r → ∀ j x, r[j]? = some x → rows.flatten[i * k + j]? = some x
  | [], i, r, _, h, _, _, _ => by simp at h
  | r0 :: rows, 0, r, hk, h, j, x, hx => by
    simp at h; subst h
    rw [List.flatten_cons, Nat.zero_mul, Nat.zero_add, List.getElem?_append_left (List.getElem?_eq_some_iff.1 hx).1]
    exact hx
  | r0 :: rows, i + 1, r, hk, h, j, x, hx => by
    have h0 := hk r0 (List.mem_cons_self)
    rw [List.flatten_cons, List.getElem?_append_right (by rw [h0, Nat.add_mul]; omega)]
    rw [show (i + 1) * k + j - r0.length = i * k + j by rw [h0, Nat.add_mul]; omega]
    exact flat_get rows i r (fun r hr => hk r (List.mem_cons_of_mem _ hr)) (by simpa using h) j x hx
/-- What a slice's elements are. -/
theorem Arr.get {α : Type} {D : Mem → α → List Value → Prop} {M : Mem} {k : Nat} {v : Value} {l : List α} (h : Arr D M k v l) :
    ∃ ad c, v = .slice ad l.length c ∧ l.length ≤ 9223372036854775807 ∧ ∀ i x, l[i]? = some x → ∃ ad' r, ad = some ad' ∧ r.length = k ∧ D M x r ∧ ∀ M', M.le M' → ∀ j y, r[j]? = some y → M'.cell ((ad'.add (i * k)).add j) = some y := by
  obtain ⟨rows, h1, h2, ⟨ad, c, rfl, hc, hm, hl, ho, hcell⟩, h4⟩ := h
  refine ⟨ad, c, rfl, ?_, fun i x hx => ?_⟩
  · unfold maxLen at hm; omega
  have hi := (List.getElem?_eq_some_iff.1 hx).1
  obtain ⟨ad', rfl, hrd⟩ := hcell (by omega)
  have hr : rows[i]? = some (rows[i]'(by omega)) := List.getElem?_eq_getElem (by omega)
  refine ⟨ad', _, rfl, h2 _ (List.getElem_mem _), h4 i x _ hx hr, fun M' hM j y hy => ?_⟩
  rw [Addr.add_add]
  exact Mem.cell_le hM (hrd _ _ (flat_get rows i _ h2 hr j y hy))
theorem add0 (a : Addr) : a.add 0 = a := by simp [Addr.add]
def IntD (_ : Mem) (n : Int) (r : List Value) : Prop := r = [.int .i64 n] ∧ i64r n
def PolyD (M : Mem) (ps : List Pt) (r : List Value) : Prop := ∃ v, r = [v] ∧ Pts M v ps ∧ i64P ps
def IntsV (M : Mem) (v : Value) (l : List Int) : Prop := Arr IntD M 1 v l
def RegV (M : Mem) (v : Value) (l : List (List Pt)) : Prop := Arr PolyD M 1 v l
def CaseD (M : Mem) (c : CaseS) (r : List Value) : Prop := ∃ a b s, r = [a, b, s] ∧ IntsV M a c.sn ∧ IntsV M b c.cl ∧ RegV M s c.st
def CasV (M : Mem) (v : Value) (l : List CaseS) : Prop := Arr CaseD M 3 v l
def BelD (M : Mem) (b : BelS) (r : List Value) : Prop := ∃ v, r = [.int .i64 b.t, v] ∧ i64r b.t ∧ CasV M v b.cs
def BelsV (M : Mem) (v : Value) (l : List BelS) : Prop := Arr BelD M 2 v l
theorem IntsV.le {M M' : Mem} {v : Value} {l : List Int} (h : IntsV M v l) (hM : M.le M') : IntsV M' v l := Arr.le (fun _ _ _ _ _ h => h) h hM
theorem RegV.le {M M' : Mem} {v : Value} {l : List (List Pt)} (h : RegV M v l) (hM : M.le M') : RegV M' v l :=
  Arr.le (fun _ _ _ _ hM ⟨v, h1, h2, h3⟩ => ⟨v, h1, SlAt.le hM h2, h3⟩) h hM
theorem CasV.le {M M' : Mem} {v : Value} {l : List CaseS} (h : CasV M v l) (hM : M.le M') : CasV M' v l :=
  Arr.le (fun _ _ _ _ hM ⟨a, b, s, h1, h2, h3, h4⟩ => ⟨a, b, s, h1, h2.le hM, h3.le hM, h4.le hM⟩) h hM
theorem BelsV.le {M M' : Mem} {v : Value} {l : List BelS} (h : BelsV M v l) (hM : M.le M') : BelsV M' v l :=
  Arr.le (fun _ _ _ _ hM ⟨v, h1, h2, h3⟩ => ⟨v, h1, h2, h3.le hM⟩) h hM
theorem getD_get {α : Type} {l : List α} {i : Nat} (d : α) (h : i < l.length) : l[i]? = some (l.getD i d) := by simp [h]
/-- A slice of integers. -/
theorem IntsV.get {M : Mem} {v : Value} {l : List Int} (h : IntsV M v l) : ∃ ad c, v = .slice ad l.length c ∧ l.length ≤ 9223372036854775807 ∧ ∀ M', M.le M' → ∀ i, i < l.length → ∃ ad', ad = some ad' ∧ i64r (gi l i) ∧ M'.cell (ad'.add (i * 1)) = some (.int .i64 (gi l i)) := by
  obtain ⟨ad, c, h1, h2, h3⟩ := Arr.get h
  refine ⟨ad, c, h1, h2, fun M' hM i hi => ?_⟩
  obtain ⟨ad', r, h4, _, ⟨rfl, h5⟩, h6⟩ := h3 i _ (getD_get 0 hi)
  exact ⟨ad', h4, h5, by have := h6 M' hM 0 _ rfl; rw [add0] at this; exact this⟩
theorem RegV.get {M : Mem} {v : Value} {l : List (List Pt)} (h : RegV M v l) : ∃ ad c, v = .slice ad l.length c ∧ l.length ≤ 9223372036854775807 ∧ ∀ M', M.le M' → ∀ i, i < l.length → ∃ ad' w, ad = some ad' ∧ Pts M' w (l.getD i []) ∧ i64P (l.getD i []) ∧ M'.cell (ad'.add (i * 1)) = some w := by
  obtain ⟨ad, c, h1, h2, h3⟩ := Arr.get h
  refine ⟨ad, c, h1, h2, fun M' hM i hi => ?_⟩
  obtain ⟨ad', r, h4, _, ⟨w, rfl, h5, h5'⟩, h6⟩ := h3 i _ (getD_get [] hi)
  exact ⟨ad', w, h4, SlAt.le hM h5, h5', by have := h6 M' hM 0 _ rfl; rw [add0] at this; exact this⟩
theorem CasV.get {M : Mem} {v : Value} {l : List CaseS} (h : CasV M v l) : ∃ ad c, v = .slice ad l.length c ∧ l.length ≤ 9223372036854775807 ∧ ∀ M', M.le M' → ∀ i, i < l.length → ∃ ad' a b s, ad = some ad' ∧ IntsV M' a (gc l i).sn ∧ IntsV M' b (gc l i).cl ∧ RegV M' s (gc l i).st ∧ ∀ j y, [a, b, s][j]? = some y → M'.cell ((ad'.add (i * 3)).add j) = some y := by
  obtain ⟨ad, c, h1, h2, h3⟩ := Arr.get h
  refine ⟨ad, c, h1, h2, fun M' hM i hi => ?_⟩
  obtain ⟨ad', r, h4, _, ⟨a, b, s, rfl, h5, h5', h5''⟩, h6⟩ := h3 i _ (getD_get ⟨[], [], []⟩ hi)
  exact ⟨ad', a, b, s, h4, h5.le hM, h5'.le hM, h5''.le hM, h6 M' hM⟩
theorem BelsV.get {M : Mem} {v : Value} {l : List BelS} (h : BelsV M v l) : ∃ ad c, v = .slice ad l.length c ∧ l.length ≤ 9223372036854775807 ∧ ∀ M', M.le M' → ∀ i, i < l.length → ∃ ad' w, ad = some ad' ∧ i64r (gb l i).t ∧ CasV M' w (gb l i).cs ∧ ∀ j y, [.int .i64 (gb l i).t, w][j]? = some y → M'.cell ((ad'.add (i * 2)).add j) = some y := by
  obtain ⟨ad, c, h1, h2, h3⟩ := Arr.get h
  refine ⟨ad, c, h1, h2, fun M' hM i hi => ?_⟩
  obtain ⟨ad', r, h4, _, ⟨w, rfl, h5, h5'⟩, h6⟩ := h3 i _ (getD_get ⟨0, []⟩ hi)
  exact ⟨ad', w, h4, h5, h5'.le hM, h6 M' hM⟩
theorem RegV.shape {M : Mem} {v : Value} {l : List (List Pt)} (h : RegV M v l) : ∃ ad c, v = .slice ad l.length c := let ⟨ad, c, he, _⟩ := h.get; ⟨ad, c, he⟩
end Go.Proofs.YtegmjmdkhbibjaaGreat

/- Contracts: the reference's Less, places, between. -/
namespace Go.Proofs.YtegmjmdkhbibjaaGreat
open Go Go.V Go.RowKit
theorem lt_of_dec {a b : Nat} (h : decide ((a : Int) < (b : Int)) = true) : a < b := by simpa using h
theorem ge_of_dec {a b : Nat} (h : decide ((a : Int) < (b : Int)) = false) : b ≤ a := by simpa using h
end Go.Proofs.YtegmjmdkhbibjaaGreat

/- Contracts: the reference's Inside; Has, Box and ends of package hull. -/
namespace Go.Proofs.YtegmjmdkhbibjaaGreat
open Go Go.V Go.RowKit
def allC (ps : List Pt) : Prop := ∀ k, k < ps.length → isC (gp ps k).1 ∧ isC (gp ps k).2
def loB (g : Pt → Int) (ps : List Pt) : Int := ps.foldl (fun a p => min a (g p)) (g (gp ps 0))
def hiB (g : Pt → Int) (ps : List Pt) : Int := ps.foldl (fun a p => max a (g p)) (g (gp ps 0))
end Go.Proofs.YtegmjmdkhbibjaaGreat

/- Contracts: hull.Has. -/
namespace Go.Proofs.YtegmjmdkhbibjaaGreat
open Go Go.V Go.RowKit
end Go.Proofs.YtegmjmdkhbibjaaGreat

/- Contracts: rising lists, comparisons of lists. -/
namespace Go.Proofs.YtegmjmdkhbibjaaGreat
open Go Go.V Go.RowKit
end Go.Proofs.YtegmjmdkhbibjaaGreat

/- Contracts: comparisons of cases. -/
namespace Go.Proofs.YtegmjmdkhbibjaaGreat
open Go Go.V Go.RowKit
def small (l : List Int) : Prop := ∀ i, i < l.length → -1000000 ≤ gi l i ∧ gi l i ≤ 1000000
theorem one_get {xs : List Value} {off : Nat} {x : Value} (h : xs[off + 0]? = some x) : ∀ (j : Nat) (v : Value), [x][j]? = some v → xs[off + j]? = some v
  | 0, v, hj => by rw [← hj]; exact h
  | j + 1, v, hj => by simp at hj
theorem cellAt {M : Mem} {B : Nat} {cs : Array Value} {t : TypeId} (h : M B = some (.cells cs t (0, 0))) (j : Nat) {v : Value} (hv : cs[j]? = some v) : M.cell ((⟨B, 0, none⟩ : Addr).add j) = some v := by
  unfold Mem.cell Addr.add
  by_cases e : j = 0
  · subst e; simp only [if_true, h]; exact hv
  · simp only [e, if_false, h, Nat.zero_add]; exact hv
end Go.Proofs.YtegmjmdkhbibjaaGreat

/- Contracts: regions. -/
namespace Go.Proofs.YtegmjmdkhbibjaaGreat
open Go Go.V Go.RowKit
def gr (r : List (List Pt)) (i : Nat) : List Pt := r.getD i []
theorem any_getD {α : Type} (d : α) (g : α → Bool) (l : List α) {i : Nat} (hi : i < l.length) (h : g (l.getD i d) = true) : l.any g = true := by
  rw [List.any_eq_true]
  exact ⟨_, List.getElem_mem hi, by simpa [hi] using h⟩
theorem any_none {α : Type} (d : α) (g : α → Bool) (l : List α) (h : ∀ i, i < l.length → g (l.getD i d) = false) : l.any g = false := by
  rw [List.any_eq_false]
  intro x hx
  obtain ⟨i, hi, rfl⟩ := List.getElem_of_mem hx
  have := h i hi
  simp [hi] at this
  simp [this]
theorem all_getD {α : Type} (d : α) (g : α → Bool) (l : List α) (h : ∀ i, i < l.length → g (l.getD i d) = true) : l.all g = true := by
  rw [List.all_eq_true]
  intro x hx
  obtain ⟨i, hi, rfl⟩ := List.getElem_of_mem hx
  have := h i hi
  simpa [hi] using this
theorem all_getD' {α : Type} (d : α) (g : α → Bool) (l : List α) {i : Nat} (hi : i < l.length) (h : g (l.getD i d) = false) : l.all g = false := by
  cases hb : l.all g with
  | false => rfl
  | true =>
    have := List.all_eq_true.1 hb _ (List.getElem_mem hi)
    simp [hi] at h
    rw [h] at this; cases this
theorem all_at {α : Type} (d : α) {g : α → Bool} {l : List α} (h : l.all g = true) {i : Nat} (hi : i < l.length) : g (l.getD i d) = true := by
  have := List.all_eq_true.1 h _ (List.getElem_mem hi)
  simpa [hi] using this
end Go.Proofs.YtegmjmdkhbibjaaGreat

/- Contracts: lists of cases. -/
namespace Go.Proofs.YtegmjmdkhbibjaaGreat
open Go Go.V Go.RowKit
theorem IntsV.one {M : Mem} {v : Value} {l : List Int} (h : IntsV M v l) : v.oneCell' = true := by obtain ⟨ad, c, rfl, _⟩ := h.get; rfl
theorem RegV.one {M : Mem} {v : Value} {l : List (List Pt)} (h : RegV M v l) : v.oneCell' = true := by obtain ⟨ad, c, rfl, _⟩ := h.get; rfl
end Go.Proofs.YtegmjmdkhbibjaaGreat

/- Contracts: cut.Within, and the reference's. -/
namespace Go.Proofs.YtegmjmdkhbibjaaGreat
open Go Go.V Go.RowKit
theorem injOK_one (r : Nat → Nat) (i : Nat) (e : Option OE) : injOK r [(i, e)] := ⟨fun j hj => by simp at hj, trivial⟩
end Go.Proofs.YtegmjmdkhbibjaaGreat

/- Contracts: the polygons of cases, one after the other. -/
namespace Go.Proofs.YtegmjmdkhbibjaaGreat
open Go Go.V Go.RowKit
/-- Values that say polygons. -/
def PW (M : Mem) : List Value → List (List Pt) → Prop
  | [], [] => True
  | w :: ws, p :: ps => (Pts M w p ∧ i64P p) ∧ PW M ws ps
  | _, _ => False
theorem PW.append {M : Mem} : ∀ {a : List Value} {b : List (List Pt)} {c d}, PW M a b → PW M c d → PW M (a ++ c) (b ++ d)
  | [], [], _, _, _, h => h
  | _ :: _, _ :: _, _, _, h, k => ⟨h.1, PW.append h.2 k⟩
  | [], _ :: _, _, _, h, _ => h.elim
  | _ :: _, [], _, _, h, _ => h.elim
theorem PW.get {M : Mem} : ∀ {a : List Value} {b : List (List Pt)}, PW M a b → a.length = b.length ∧ ∀ k w, a[k]? = some w → Pts M w (gr b k) ∧ i64P (gr b k)
  | [], [], _ => ⟨rfl, fun k w h => by simp at h⟩
  | x :: a, y :: b, h => by
    obtain ⟨h1, h2⟩ := PW.get h.2
    refine ⟨by simp [h1], fun k w hk => ?_⟩
    match k, hk with
    | 0, hk => simp at hk; subst hk; exact h.1
    | k + 1, hk => simp at hk; simpa [gr] using h2 k w hk
  | [], _ :: _, h => h.elim
  | _ :: _, [], h => h.elim
theorem PW.of {M : Mem} (d : Value) : ∀ {a : List Value} {b : List (List Pt)}, a.length = b.length → (∀ k, k < b.length → Pts M (a.getD k d) (gr b k) ∧ i64P (gr b k)) → PW M a b
  | [], [], _, _ => trivial
  | x :: a, y :: b, h, hk => ⟨by simpa [gr] using hk 0 (by simp), PW.of d (by simpa using h) fun k h' => by simpa [gr] using hk (k + 1) (by simpa using h')⟩
  | [], _ :: _, h, _ => by simp at h
  | _ :: _, [], h, _ => by simp at h
/-- A region whose polygons' values are named. -/
def RegW (M : Mem) (s : Value) (st : List (List Pt)) (ws : List Value) : Prop :=
  ws.length = st.length ∧ ∃ ad c, s = .slice ad st.length c ∧ st.length ≤ 9223372036854775807 ∧ ∀ M', M.le M' → ∀ j, j < st.length → ∃ ad', ad = some ad' ∧ M'.cell (ad'.add (j * 1)) = some (ws.getD j (.bool false)) ∧ Pts M' (ws.getD j (.bool false)) (gr st j) ∧ i64P (gr st j)
theorem RegV.w {M : Mem} {s : Value} {st : List (List Pt)} (h : RegV M s st) : ∃ ws, RegW M s st ws := by
  obtain ⟨ad, c, h1, h2, h3⟩ := h.get
  have h4 : ∀ i, ∃ w, i < st.length → ∃ ad', ad = some ad' ∧ Pts M w (gr st i) ∧ i64P (gr st i) ∧ M.cell (ad'.add (i * 1)) = some w := fun i => by
    by_cases hi : i < st.length
    · obtain ⟨ad', w, h⟩ := h3 M (Mem.le_refl _) i hi
      exact ⟨w, fun _ => ⟨ad', h⟩⟩
    · exact ⟨.bool false, fun h => absurd h hi⟩
  obtain ⟨f, hf⟩ := Classical.axiomOfChoice h4
  refine ⟨(List.range st.length).map f, by simp, ad, c, h1, h2, fun M' hM j hj => ?_⟩
  obtain ⟨ad', h5, h6, h7, h8⟩ := hf j hj
  have e : ((List.range st.length).map f).getD j (.bool false) = f j := by simp [hj]
  rw [e]
  exact ⟨ad', h5, Mem.cell_le hM h8, h6.le hM, h7⟩
end Go.Proofs.YtegmjmdkhbibjaaGreat

/- Contracts: the kind of an alarm, in the program and in the reference. -/
namespace Go.Proofs.YtegmjmdkhbibjaaGreat
open Go Go.V Go.RowKit
end Go.Proofs.YtegmjmdkhbibjaaGreat

/- Contracts: the first alarm of beliefs; what is few. -/
namespace Go.Proofs.YtegmjmdkhbibjaaGreat
open Go Go.V Go.RowKit
end Go.Proofs.YtegmjmdkhbibjaaGreat

/- Contracts: what is few; the head of the alarm's laws. -/
namespace Go.Proofs.YtegmjmdkhbibjaaGreat
open Go Go.V Go.RowKit
/-- The elements, one by one. -/
def DL {α : Type} (D : Mem → α → List Value → Prop) (M : Mem) : List α → List (List Value) → Prop
  | [], [] => True
  | x :: l, r :: rows => D M x r ∧ DL D M l rows
  | _, _ => False
theorem DL.get {α : Type} {D : Mem → α → List Value → Prop} {M : Mem} : ∀ {l : List α} {rows : List (List Value)}, DL D M l rows → rows.length = l.length ∧ ∀ (i : Nat) (x : α) (r : List Value), l[i]? = some x → rows[i]? = some r → D M x r
  | [], [], _ => ⟨rfl, fun i x r h => by simp at h⟩
  | x :: l, r :: rows, h => by
    obtain ⟨h1, h2⟩ := DL.get h.2
    refine ⟨by simp [h1], fun i y s hy hs => ?_⟩
    match i, hy, hs with
    | 0, hy, hs => simp at hy hs; subst hy hs; exact h.1
    | i + 1, hy, hs => exact h2 i y s (by simpa using hy) (by simpa using hs)
  | [], _ :: _, h => h.elim
  | _ :: _, [], h => h.elim
theorem Arr.of {α : Type} {D : Mem → α → List Value → Prop} {M : Mem} {k : Nat} {v : Value} {l : List α} (rows : List (List Value)) (hk : ∀ r ∈ rows, r.length = k) (h : SlAt M k v l.length rows.flatten) (hd : DL D M l rows) : Arr D M k v l :=
  ⟨rows, hd.get.1, hk, h, hd.get.2⟩
theorem SlAt.nil (M : Mem) (k : Nat) : SlAt M k (.slice none 0 0) 0 [] := ⟨none, 0, rfl, Nat.le_refl _, Nat.zero_le _, by simp, by simp, fun h => absurd h (Nat.lt_irrefl _)⟩
theorem IntsV.nil (M : Mem) : IntsV M (.slice none 0 0) [] := Arr.of [] (by simp) (SlAt.nil M 1) trivial
theorem RegV.nil (M : Mem) : RegV M (.slice none 0 0) [] := Arr.of [] (by simp) (SlAt.nil M 1) trivial
theorem CasV.nil (M : Mem) : CasV M (.slice none 0 0) [] := Arr.of [] (by simp) (SlAt.nil M 3) trivial
instance (x : Int) : Decidable (i64r x) := by unfold i64r; infer_instance
theorem i64_of {ps : List Pt} (h : (ps.all fun p => decide (i64r p.1) && decide (i64r p.2)) = true) : i64P ps := fun i hi => by
  have := all_at (0, 0) h hi
  simp only [Bool.and_eq_true, decide_eq_true_eq] at this
  exact this
theorem SlAt.shape {M : Mem} {k n : Nat} {v : Value} {xs : List Value} (h : SlAt M k v n xs) : ∃ a c, v = .slice a n c := let ⟨a, c, e, _⟩ := h; ⟨a, c, e⟩
theorem Pts.nil (M : Mem) : Pts M (.slice none 0 0) [] := SlAt.nil M 2
end Go.Proofs.YtegmjmdkhbibjaaGreat

/- Contracts: region.Has. -/
namespace Go.Proofs.YtegmjmdkhbibjaaGreat
open Go Go.V Go.RowKit
end Go.Proofs.YtegmjmdkhbibjaaGreat

/- Contracts: hull.Hull of one place; package mink's Shift. -/
namespace Go.Proofs.YtegmjmdkhbibjaaGreat
open Go Go.V Go.RowKit
theorem IndexP_fn (v : Value) (ps : List Pt) (fid : Nat) (g : Pt → Bool) (M : Mem) (hv : Pts M v ps) (hg : ∀ i, i < ps.length → ∀ M', FnP Tryz.prog fid [ptv (gp ps i)] M' [.bool (g (gp ps i))]) :
    V.Fn Tryz.prog 97 [v, .func (.func fid) #[] #[]] M fun rs _ => ∃ k : Int, rs = [.int .i64 k] ∧ (0 ≤ k ↔ ps.any g = true) := by
  obtain ⟨ad, c, rfl⟩ := hv.shape
  obtain ⟨_, hm, hrd⟩ := hv.cellsOf
  unfold maxLen at hm
  refine Fn.of_vc cxOK Tryz.func97 rfl rfl rfl ?_
  repeat (first | refine VIf.tt ?_ | refine VIf.ff ?_)
  refine VCode.loop cxOK Nat (fun i => ⟨[(0, .v (.slice ad ps.length c)), (1, .v (.func (.func fid) #[] #[])), (7, .v (.int .i64 ps.length)), (8, .v (.int .i64 i))], [], 0, M, 19, ⟨fun _ => none, none, fun _ => none⟩⟩)
    (fun i => i ≤ ps.length ∧ ∀ j, j < i → g (gp ps j) = false) (fun i => ps.length - i) 0 ⟨Nat.zero_le _, fun j hj => by simp at hj⟩ (Wk.mk' id (by repeat' constructor) (by repeat' constructor) (injOK_id _) rfl rfl rfl) ?_
  rintro i ⟨hi, hz⟩ m
  repeat (first | refine VIf.tt ?_ | refine VIf.ff ?_)
  refine VIf.mk (fun hlt => ?_) (fun hge => ?_)
  · have hlt := lt_of_dec hlt
    obtain ⟨ad', ead, hpi⟩ := hrd M (Mem.le_refl _) i hlt
    repeat (first | refine VIf.tt ?_ | refine VIf.ff ?_)
    refine VIdx.mk ad' i ead rfl hlt ?_
    repeat (first | refine VIf.tt ?_ | refine VIf.ff ?_)
    refine VReads.mk [.int .i64 (gp ps i).1, .int .i64 (gp ps i).2] rfl hpi ?_
    repeat (first | refine VIf.tt ?_ | refine VIf.ff ?_)
    refine VFn.p (hg i hlt M) ?_
    repeat (first | refine VIf.tt ?_ | refine VIf.ff ?_)
    refine VIf.mk (fun hc => ?_) (fun hc => ?_)
    · repeat (first | refine VIf.tt ?_ | refine VIf.ff ?_)
      refine VFact.mk ⟨i, rfl, ?_⟩ trivial
      have := any_getD (0, 0) g ps hlt hc
      simp [this]
    · repeat (first | refine VIf.tt ?_ | refine VIf.ff ?_)
      refine VArith.ok (by first | omega | (simp only; omega)) (by first | omega | (simp only; omega)) ?_
      refine ⟨i + 1, ⟨hlt, fun j hj => ?_⟩, (by first | omega | (simp only; omega)), (Wk.mk' id (by repeat' constructor) (by repeat' constructor) (injOK_id _) rfl rfl rfl)⟩
      by_cases e : j = i
      · subst e; exact hc
      · exact hz j (by omega)
  · have : i = ps.length := by have := ge_of_dec hge; omega
    subst this
    repeat (first | refine VIf.tt ?_ | refine VIf.ff ?_)
    refine VFact.mk ⟨-1, rfl, ?_⟩ trivial
    have := any_none (0, 0) g ps hz
    simp [this]
theorem ContainsP_fn (v : Value) (ps : List Pt) (fid : Nat) (g : Pt → Bool) (M : Mem) (hv : Pts M v ps) (hg : ∀ i, i < ps.length → ∀ M', FnP Tryz.prog fid [ptv (gp ps i)] M' [.bool (g (gp ps i))]) :
    V.Fn Tryz.prog 79 [v, .func (.func fid) #[] #[]] M fun rs _ => rs = [.bool (ps.any g)] := by
  obtain ⟨ad, c, rfl⟩ := hv.shape
  refine Fn.of_vc cxOK Tryz.func79 rfl rfl rfl ?_
  repeat (first | refine VIf.tt ?_ | refine VIf.ff ?_)
  refine VFn.mk _ (IndexP_fn _ ps fid g M hv hg) ?_
  rintro rs M1 hM1 ⟨k, rfl, hk⟩
  repeat (first | refine VIf.tt ?_ | refine VIf.ff ?_)
  refine VFact.mk (bool1 ?_) trivial
  rw [← hk]; simp
theorem Hull1_fn (p : Pt) (h1 : i64r p.1) (h2 : i64r p.2) (M : Mem) : FnP Tryz.prog 83 [ptv p] M [.bool (!placeB p)] := by
  refine Fn.of_vc cxOK Tryz.func83 rfl rfl rfl ?_
  repeat (first | refine VIf.tt ?_ | refine VIf.ff ?_)
  refine VFn.p (isPlace_fn _ _ _ h1 h2) ?_
  repeat (first | refine VIf.tt ?_ | refine VIf.ff ?_)
  exact VFact.mk ⟨rfl, rfl⟩ trivial
theorem Clone_fn (v : Value) (ps : List Pt) (M : Mem) (hv : Pts M v ps) (hn : 1 ≤ ps.length) (hn' : ps.length ≤ 100000) : V.Fn Tryz.prog 82 [v] M fun rs M' => ∃ u, rs = [u] ∧ Pts M' u ps := by
  obtain ⟨ad, c, rfl⟩ := hv.shape
  obtain ⟨_, hm, hrd⟩ := hv.cellsOf
  obtain ⟨ad', rfl, _⟩ := hrd M (Mem.le_refl _) 0 (by omega)
  refine Fn.of_vc cxOK Tryz.func82 rfl rfl rfl ?_
  repeat (first | refine VIf.tt ?_ | refine VIf.ff ?_)
  refine VSl.mk ps.length (cellsP ps) hv ?_
  repeat (first | refine VIf.tt ?_ | refine VIf.ff ?_)
  refine VFact.mk (by simp only; omega) ?_
  repeat (first | refine VIf.tt ?_ | refine VIf.ff ?_)
  refine VFz.mk fun x B M' hle hx => ?_
  repeat (first | refine VIf.tt ?_ | refine VIf.ff ?_)
  refine VFact.mk ⟨x, rfl, ?_⟩ trivial
  have e : SlAt M' 2 x (0 + ps.length) ([] ++ cellsP ps) := hx
  rw [Nat.zero_add, List.nil_append] at e
  exact e
theorem insert1_fn (v : Value) (f : Nat) (M : Mem) : FnP Tryz.prog 115 [v, .int .i64 0, .int .i64 1, .func (.func f) #[] #[]] M [] := by
  refine Fn.of_vc cxOK Tryz.func115 rfl rfl rfl ?_
  repeat (first | refine VIf.tt ?_ | refine VIf.ff ?_)
  refine VArith.ok (by first | omega | (simp only; omega)) (by first | omega | (simp only; omega)) ?_
  repeat (first | refine VIf.tt ?_ | refine VIf.ff ?_)
  refine VCode.loop cxOK Unit (fun _ => ⟨[(2, .v (.int .i64 1)), (8, .v (.int .i64 1))], [], 0, M, 53, ⟨fun _ => none, none, fun _ => none⟩⟩) (fun _ => True) (fun _ => 0) () trivial (Wk.mk' id (by repeat' constructor) (by repeat' constructor) (injOK_id _) rfl rfl rfl) ?_
  rintro _ _ m
  repeat (first | refine VIf.tt ?_ | refine VIf.ff ?_)
  exact VFact.mk ⟨rfl, rfl⟩ trivial
theorem pdq1_fn (v : Value) (f : Nat) (l : Int) (M : Mem) : FnP Tryz.prog 109 [v, .int .i64 0, .int .i64 1, .int .i64 l, .func (.func f) #[] #[]] M [] := by
  refine Fn.of_vc cxOK Tryz.func109 rfl rfl rfl ?_
  repeat (first | refine VIf.tt ?_ | refine VIf.ff ?_)
  refine VCode.loop cxOK Unit (fun _ => ⟨[(0, .v v), (1, .v (.int .i64 0)), (2, .v (.int .i64 1)), (4, .v (.func (.func f) #[] #[]))], [], 0, M, 148, ⟨fun _ => none, none, fun _ => none⟩⟩) (fun _ => True) (fun _ => 0) () trivial (Wk.mk' id (by repeat' constructor) (by repeat' constructor) (injOK_id _) rfl rfl rfl) ?_
  rintro _ _ m
  repeat (first | refine VIf.tt ?_ | refine VIf.ff ?_)
  refine VArith.ok (by first | omega | (simp only; omega)) (by first | omega | (simp only; omega)) ?_
  repeat (first | refine VIf.tt ?_ | refine VIf.ff ?_)
  refine VFn.p (insert1_fn _ _ _) ?_
  repeat (first | refine VIf.tt ?_ | refine VIf.ff ?_)
  exact VFact.mk ⟨rfl, rfl⟩ trivial
end Go.Proofs.YtegmjmdkhbibjaaGreat

/- Contract: the number of bits of one. -/
namespace Go.Proofs.YtegmjmdkhbibjaaGreat
open Go Go.V Go.RowKit
set_option maxRecDepth 100000 in
set_option maxHeartbeats 1000000 in
theorem len64_one (w : World) : Calls Tryz.prog 96 #[.int .u64 1] w fun e w' => e = .returned (.int .i64 1) ∧ w' = w := by
  go_enter Tryz.func96, Tryz.ntmps96
  go_wp2
  go_ret
  exact ⟨by kernel_rfl, rfl⟩
set_option maxRecDepth 100000 in
set_option maxHeartbeats 1000000 in
theorem len_one_any (w : World) : Calls Tryz.prog 77 #[.int .u64 1] w fun e w' => e = .returned (.int .i64 1) ∧ w' = w := by
  go_enter Tryz.func77, Tryz.ntmps77
  go_wp2_with (go_at_call 96; refine (len64_one _).mono ?_; rintro e w' ⟨rfl, rfl⟩)
  go_ret
  exact ⟨by kernel_rfl, rfl⟩
theorem FnP.of_same {P : Program} {f : Nat} {args : List Value} {M : Mem} {vs : List Value} (he : Enters P f) (h : ∀ W, Calls P f args.toArray W fun e w' => e = .returned (ret vs) ∧ w' = W) : FnP P f args M vs :=
  ⟨he, fun W hW => (h W).mono fun e w' ⟨h1, h2⟩ => ⟨vs, M, h1, h2 ▸ Below.refl _ _, Mem.le_refl _, h2 ▸ hW, fun _ _ => rfl, rfl, rfl⟩⟩
theorem Len1_fn (M : Mem) : FnP Tryz.prog 77 [.int .u64 1] M [.int .i64 1] :=
  FnP.of_same (enters_of Tryz.func77 (by kernel_rfl) rfl) len_one_any
end Go.Proofs.YtegmjmdkhbibjaaGreat

/- Contracts: hull.Hull of one place; package mink's Shift: the joins. -/
namespace Go.Proofs.YtegmjmdkhbibjaaGreat
open Go Go.V Go.RowKit
theorem sort1_fn (ad : Option Addr) (c f : Nat) (M : Mem) : FnP Tryz.prog 98 [.slice ad 1 c, .func (.func f) #[] #[]] M [] := by
  refine Fn.of_vc cxOK Tryz.func98 rfl rfl rfl ?_
  repeat (first | refine VIf.tt ?_ | refine VIf.ff ?_)
  refine VArith.ok (by first | omega | (simp only; omega)) (by first | omega | (simp only; omega)) ?_
  repeat (first | refine VIf.tt ?_ | refine VIf.ff ?_)
  refine VFn.p (Len1_fn _) ?_
  repeat (first | refine VIf.tt ?_ | refine VIf.ff ?_)
  refine VFn.p (pdq1_fn _ _ _ _) ?_
  repeat (first | refine VIf.tt ?_ | refine VIf.ff ?_)
  exact VFact.mk ⟨rfl, rfl⟩ trivial
theorem compact1_fn (ad : Option Addr) (c : Nat) (M : Mem) : FnP Tryz.prog 81 [.slice ad 1 c] M [.slice ad 1 c] := by
  refine Fn.of_vc cxOK Tryz.func81 rfl rfl rfl ?_
  repeat (first | refine VIf.tt ?_ | refine VIf.ff ?_)
  exact VFact.mk ⟨rfl, rfl⟩ trivial
theorem around1_fn (v : Value) (p : Pt) (M : Mem) (hv : Pts M v [p]) : V.Fn Tryz.prog 85 [v] M fun rs M' => ∃ u, rs = [u] ∧ Pts M' u [p] := by
  refine Fn.of_vc cxOK Tryz.func85 rfl rfl rfl ?_
  repeat (first | refine VIf.tt ?_ | refine VIf.ff ?_)
  refine VFn.mk _ (Clone_fn v [p] M hv (by simp) (by simp)) ?_
  rintro rs M1 hM1 ⟨u, rfl, hu⟩
  obtain ⟨ud, uc, rfl⟩ := hu.shape
  repeat (first | refine VIf.tt ?_ | refine VIf.ff ?_)
  refine VFn.p (sort1_fn _ _ _ _) ?_
  repeat (first | refine VIf.tt ?_ | refine VIf.ff ?_)
  refine VFn.p (compact1_fn _ _ _) ?_
  repeat (first | refine VIf.tt ?_ | refine VIf.ff ?_)
  exact VFact.mk ⟨_, rfl, hu⟩ trivial
theorem HullOne_fn (v : Value) (p : Pt) (M : Mem) (hv : Pts M v [p]) (h1 : i64r p.1) (h2 : i64r p.2) : V.Fn Tryz.prog 71 [v] M fun rs M' => if placeB p = true then ∃ u, rs = [u, .int .i64 0] ∧ Pts M' u [p] else rs = [.slice none 0 0, .int .i64 1] := by
  obtain ⟨ad, c, rfl⟩ := hv.shape
  refine Fn.of_vc cxOK Tryz.func71 rfl rfl rfl ?_
  repeat (first | refine VIf.tt ?_ | refine VIf.ff ?_)
  refine VFn.mk _ (ContainsP_fn _ [p] _ (fun p => !placeB p) M hv fun i hi M' => ?_) ?_
  · have : i = 0 := by simp at hi; omega
    subst this
    exact Hull1_fn p h1 h2 M'
  rintro rs M1 hM1 rfl
  repeat (first | refine VIf.tt ?_ | refine VIf.ff ?_)
  refine VIf.mk (fun h => ?_) (fun h => ?_)
  · repeat (first | refine VIf.tt ?_ | refine VIf.ff ?_)
    refine VFact.mk ?_ trivial
    have h : placeB p = false := by simpa using h
    simp only [h, Bool.false_eq_true, if_false]
  · have h : placeB p = true := by simpa using h
    repeat (first | refine VIf.tt ?_ | refine VIf.ff ?_)
    refine VFn.mk _ (around1_fn _ p M1 (hv.le hM1)) ?_
    rintro rs M2 hM2 ⟨u, rfl, hu⟩
    obtain ⟨ud, uc, rfl⟩ := hu.shape
    repeat (first | refine VIf.tt ?_ | refine VIf.ff ?_)
    refine VFact.mk ?_ trivial
    simp only [h, if_true]
    exact ⟨_, rfl, hu⟩
end Go.Proofs.YtegmjmdkhbibjaaGreat

/- The comparison that hull.around sorts by, its worlds written out. -/
namespace Go.Proofs.YtegmjmdkhbibjaaGreat
open Go Go.RowKit Go.Sort
end Go.Proofs.YtegmjmdkhbibjaaGreat

/- slices.SortFunc at places: the record of its family, and what it leaves in a row. -/
namespace Go.Proofs.YtegmjmdkhbibjaaGreat
open Go Go.V Go.RowKit Go.Sort Go.Shelf Go.Lib
end Go.Proofs.YtegmjmdkhbibjaaGreat

/- A call of slices.SortFunc on a growing slice of one's own: the slice is sorted. -/
namespace Go.Proofs.YtegmjmdkhbibjaaGreat
open Go Go.V Go.RowKit
/-- A call that turns one growing slice alone. -/
theorem VCall.set {P : Program} {f : Nat} {args : List SV} {st : St} {K : SV → St → Prop} (he : Enters P f) {id E sz n : Nat} {xs ys : List Value} (hid : st.own id = some (.row E sz n xs)) (h1 : ∀ y ∈ ys, y.oneCell' = true)
    (h : ∀ n₀ W v ρ, slOf (ρ id) = v → W.ownsRow n₀ E sz v n xs → Calls P f (args.map (SV.den ρ)).toArray W fun e W' => e = .returned (.tuple #[]) ∧ W.grownBy W' (ob v) ∧ W'.ownsRow n₀ E sz v n ys)
    (hK : K (.v (.tuple #[])) { st with ow := (id, some (.row E sz n ys)) :: st.ow }) : VCall P f args st K := by
  refine ⟨he, fun n₀ w M₀ ρ W hS hsa hss => ?_⟩
  obtain ⟨g1, g2, g3, g4⟩ := hS.own id _ hid
  refine (h n₀ W (ρ id) ρ (ownsRow_isSl g3) g3).mono ?_
  rintro e W' ⟨rfl, k1, k2⟩
  refine ⟨.v (.tuple #[]), _, ρ, rfl, trivial, hS.set (e' := .row E sz n ys) hid k1 trivial ⟨k2, h1⟩, ?_, rfl, rfl, hK⟩
  exact fun d s hd => ⟨hss d s hd, s, hd, rfl⟩

section
open Go.Sort
theorem cellsP_len (ps : List Pt) : (cellsP ps).length = ps.length * 2 := by
  induction ps with
  | nil => rfl
  | cons p l ih => simp only [cellsP, List.flatMap_cons, List.length_append] at *; simp [ih]; omega
end
end Go.Proofs.YtegmjmdkhbibjaaGreat

/- The plain law of sorting and of striking neighbours that are alike. -/
namespace Go.Proofs.YtegmjmdkhbibjaaGreat
open Go Go.V Go.RowKit
def keepB (ps : List Pt) (i : Nat) : Bool := i == 0 || gp ps i != gp ps (i - 1)
def comp (ps : List Pt) (k : Nat) : List Pt := ((List.range k).filter (keepB ps)).map (gp ps)
/-- Neighbours that are alike are struck. -/
def compactP (ps : List Pt) : List Pt := comp ps ps.length
theorem comp_succ (ps : List Pt) (k : Nat) : comp ps (k + 1) = if keepB ps k = true then comp ps k ++ [gp ps k] else comp ps k := by
  unfold comp
  rw [List.range_succ, List.filter_append]
  by_cases h : keepB ps k = true
  · simp [h]
  · simp [h]
theorem comp_len (ps : List Pt) : ∀ k, (comp ps k).length ≤ k
  | 0 => by simp [comp]
  | k + 1 => by
    have := comp_len ps k
    rw [comp_succ]
    split
    · simp; omega
    · omega
theorem comp_le (ps : List Pt) {j : Nat} : ∀ {k}, j ≤ k → (comp ps k).length + j ≤ (comp ps j).length + k
  | 0, h => by have : j = 0 := by omega
               subst this; omega
  | k + 1, h => by
    by_cases e : j = k + 1
    · subst e; omega
    · have := comp_le ps (j := j) (k := k) (by omega)
      rw [comp_succ]
      split
      · simp; omega
      · omega
theorem comp_all (ps : List Pt) : ∀ k, k ≤ ps.length → (∀ j, j < k → keepB ps j = true) → comp ps k = ps.take k
  | 0, _, _ => by simp [comp]
  | k + 1, hk, h => by
    rw [comp_succ, if_pos (h k (by omega)), comp_all ps k (by omega) (fun j hj => h j (by omega))]
    have : gp ps k = ps[k] := by simp [gp, List.getD_eq_getElem?_getD, List.getElem?_eq_getElem (show k < ps.length by omega)]
    rw [this, List.take_append_getElem]
/-- The row in the middle of it: what is kept, and what lay behind. -/
def midP (ps : List Pt) (j : Nat) : List Pt := comp ps j ++ ps.drop (comp ps j).length
theorem midP_len (ps : List Pt) {j : Nat} (h : j ≤ ps.length) : (midP ps j).length = ps.length := by
  have := comp_len ps j
  unfold midP; simp; omega
theorem midP_get (ps : List Pt) {j i : Nat} (h : (comp ps j).length ≤ i) : gp (midP ps j) i = gp ps i := by
  unfold gp midP
  simp only [List.getD_eq_getElem?_getD]
  rw [List.getElem?_append_right h, List.getElem?_drop]
  congr 2; omega
theorem midP_set (ps : List Pt) {j : Nat} (hj : j < ps.length) (hk : keepB ps j = true) : (midP ps j).set (comp ps j).length (gp ps j) = midP ps (j + 1) := by
  have := comp_len ps j
  unfold midP
  rw [comp_succ, if_pos hk, List.set_append_right _ _ (Nat.le_refl _), Nat.sub_self]
  have hlt : (comp ps j).length < ps.length := by omega
  rw [List.drop_eq_getElem_cons hlt, List.set_cons_zero]
  simp
theorem midP_skip (ps : List Pt) {j : Nat} (hk : keepB ps j = false) : midP ps j = midP ps (j + 1) := by
  unfold midP
  rw [comp_succ, if_neg (by rw [hk]; exact Bool.false_ne_true)]
theorem cellsP_put : ∀ (ys : List Pt) (i : Nat) (p : Pt), i < ys.length → rput (cellsP ys) (i * 2) [.int .i64 p.1, .int .i64 p.2] = cellsP (ys.set i p)
  | y :: ys, 0, p, _ => by simp [rput, cellsP]
  | y :: ys, i + 1, p, h => by
    have ih := cellsP_put ys i p (by simpa using h)
    have e : (i + 1) * 2 = i * 2 + 1 + 1 := by omega
    simp only [rput, cellsP, List.flatMap_cons, List.set_cons_succ, e, List.cons_append, List.nil_append, List.take_succ_cons, List.length_cons, List.length_nil] at ih ⊢
    rw [show i * 2 + 1 + 1 + (0 + 1 + 1) = i * 2 + (0 + 1 + 1) + 1 + 1 by omega, List.drop_succ_cons, List.drop_succ_cons, ih]
theorem cellsP_take (ys : List Pt) (k : Nat) : (cellsP ys).take (k * 2) = cellsP (ys.take k) := by
  induction ys generalizing k with
  | nil => simp [cellsP]
  | cons y ys ih =>
    cases k with
    | zero => simp [cellsP]
    | succ k =>
      have e : (k + 1) * 2 = k * 2 + 1 + 1 := by omega
      simp only [cellsP, List.flatMap_cons, List.take_succ_cons, e, List.cons_append, List.nil_append] at ih ⊢
      rw [ih]
theorem rput_take_off {xs ys : List Value} {off : Nat} (h : off ≤ xs.length) : (rput xs off ys).take off = xs.take off := by
  unfold rput
  rw [List.append_assoc, List.take_append_of_le_length (by simp; omega), List.take_take, Nat.min_self]
theorem compactP_short {ps : List Pt} (h : ps.length < 2) : compactP ps = ps := by
  match ps with
  | [] => rfl
  | [x] => rfl
theorem rowP_get (ys : List Pt) {i : Nat} (hi : i < ys.length) : ∀ j v, ([.int .i64 (gp ys i).1, .int .i64 (gp ys i).2] : List Value)[j]? = some v → (cellsP ys)[i * 2 + j]? = some v := by
  intro j v hv
  obtain ⟨g1, g2⟩ := cellsP_get ys i hi
  match j with
  | 0 => simp at hv; subst hv; rw [show i * 2 + 0 = 2 * i by omega]; exact g1
  | 1 => simp at hv; subst hv; rw [show i * 2 + 1 = 2 * i + 1 by omega]; exact g2
  | j + 2 => simp at hv
end Go.Proofs.YtegmjmdkhbibjaaGreat

/- The plain law of charts: no program in sight. -/
namespace Go.Proofs.YtegmjmdkhbibjaaGreat
open Go
structure CellS where
  lo : Int
  hi : Int
  dt : Int
  vd : Bool
structure BeaS where
  id : Int
  x : Int
  y : Int
structure LinS where
  id : Int
  ps : List Pt
structure ChartS where
  ver : Int
  x : Int
  y : Int
  w : Int
  h : Int
  sz : Int
  cs : List CellS
  bs : List BeaS
  ls : List LinS
def cell0 : CellS := ⟨0, 0, 0, false⟩
def bea0 : BeaS := ⟨0, 0, 0⟩
def lin0 : LinS := ⟨0, []⟩
def gce (l : List CellS) (i : Nat) : CellS := l.getD i cell0
def gbe (l : List BeaS) (i : Nat) : BeaS := l.getD i bea0
def gli (l : List LinS) (i : Nat) : LinS := l.getD i lin0
def cellP (c : CellS) : Prop := -100000 ≤ c.lo ∧ c.lo ≤ c.hi ∧ c.hi ≤ 100000 ∧ 0 ≤ c.dt ∧ c.dt ≤ 1000000000
instance (c : CellS) : Decidable (cellP c) := by unfold cellP; infer_instance
def cellOK (c : CellS) : Bool := decide (cellP c)
def idOK (n : Int) : Bool := decide (1 ≤ n ∧ n ≤ 1000000)
def beaOK (b : BeaS) : Bool := idOK b.id && placeB (b.x, b.y)
def pathOK (l : LinS) : Bool := idOK l.id && decide (2 ≤ l.ps.length ∧ l.ps.length ≤ 64) && l.ps.all placeB && (List.range l.ps.length).all (keepB l.ps)
def nmdB (ok : Nat → Bool) (id : Nat → Int) (k : Nat) : Bool := (List.range k).all fun i => ok i && (List.range i).all fun j => id j != id i
theorem nmdB_iff {ok : Nat → Bool} {id : Nat → Int} {k : Nat} : nmdB ok id k = true ↔ ∀ i, i < k → ok i = true ∧ ∀ j, j < i → id j ≠ id i := by
  unfold nmdB
  rw [all_iff]
  simp only [Bool.and_eq_true, all_iff, bne_iff_ne]
theorem nmdB_bad {ok : Nat → Bool} {id : Nat → Int} {k i : Nat} (hi : i < k) (h : ok i = false ∨ ∃ j, j < i ∧ id j = id i) : nmdB ok id k = false := by
  cases hb : nmdB ok id k with
  | false => rfl
  | true =>
    obtain ⟨h1, h2⟩ := nmdB_iff.1 hb i hi
    rcases h with h | ⟨j, hj, e⟩
    · rw [h1] at h; cases h
    · exact absurd e (h2 j hj)
def beasOK (l : List BeaS) : Bool := nmdB (fun i => beaOK (gbe l i)) (fun i => (gbe l i).id) l.length && decide (l.length ≤ 100)
def linsOK (l : List LinS) : Bool := nmdB (fun i => pathOK (gli l i)) (fun i => (gli l i).id) l.length && decide (l.length ≤ 50)
def frameC (c : ChartS) : Prop := ((1 ≤ c.ver ∧ c.ver ≤ 1000000) ∧ (1 ≤ c.w ∧ c.w ≤ 4000) ∧ (1 ≤ c.h ∧ c.h ≤ 4000) ∧ c.w * c.h = c.cs.length ∧ c.cs.length ≤ 4000 ∧ 1 ≤ c.sz ∧ c.sz ≤ 10000) ∧ placeB (c.x, c.y) = true ∧ placeB (c.x + c.w * c.sz - 1, c.y + c.h * c.sz - 1) = true
instance (c : ChartS) : Decidable (frameC c) := by unfold frameC; infer_instance
def validC (c : ChartS) : Bool := decide (frameC c) && c.cs.all cellOK && beasOK c.bs && linsOK c.ls
/-- The frame of a valid chart. -/
theorem validC_frame {c : ChartS} (h : validC c = true) : frameC c := by
  simp only [validC, Bool.and_eq_true, decide_eq_true_eq] at h
  exact h.1.1.1
theorem validC_not {c : ChartS} (h : ¬ frameC c) : validC c = false := by
  unfold validC
  rw [decide_eq_false h]
  rfl
/-- The squares. -/
def bLo (c : ChartS) (i : Int) : Pt := (c.x + i.tmod c.w * c.sz, c.y + i.tdiv c.w * c.sz)
def bHi (c : ChartS) (i : Int) : Pt := ((bLo c i).1 + c.sz - 1, (bLo c i).2 + c.sz - 1)
def meetsP (lo hi low high : Pt) : Bool := decide (lo.1 ≤ high.1) && decide (low.1 ≤ hi.1) && decide (lo.2 ≤ high.2) && decide (low.2 ≤ hi.2)
def unC (c : ChartS) (lo hi : Pt) (k : Nat) : List Int := ((List.range k).filter fun i : Nat => meetsP lo hi (bLo c (i : Int)) (bHi c (i : Int))).map fun i : Nat => (i : Int)
def underC (c : ChartS) (lo hi : Pt) : List Int := unC c lo hi c.cs.length
def colC (fr sz x : Int) : Int := if x < fr then -1 else (x - fr).tdiv sz
end Go.Proofs.YtegmjmdkhbibjaaGreat

/- Charts in memory. -/
namespace Go.Proofs.YtegmjmdkhbibjaaGreat
open Go Go.V Go.RowKit
def CellD (_ : Mem) (c : CellS) (r : List Value) : Prop := r = [.int .i64 c.lo, .int .i64 c.hi, .int .i64 c.dt, .bool c.vd] ∧ i64r c.lo ∧ i64r c.hi ∧ i64r c.dt
def BeaD (_ : Mem) (b : BeaS) (r : List Value) : Prop := r = [.int .i64 b.id, .int .i64 b.x, .int .i64 b.y] ∧ i64r b.id ∧ i64r b.x ∧ i64r b.y
def LinD (M : Mem) (l : LinS) (r : List Value) : Prop := ∃ v, r = [.int .i64 l.id, v] ∧ i64r l.id ∧ Pts M v l.ps ∧ i64P l.ps
def CelsV (M : Mem) (v : Value) (l : List CellS) : Prop := Arr CellD M 4 v l
def BeasV (M : Mem) (v : Value) (l : List BeaS) : Prop := Arr BeaD M 3 v l
def LinsV (M : Mem) (v : Value) (l : List LinS) : Prop := Arr LinD M 2 v l
theorem CelsV.le {M M' : Mem} {v : Value} {l : List CellS} (h : CelsV M v l) (hM : M.le M') : CelsV M' v l := Arr.le (fun _ _ _ _ _ h => h) h hM
theorem BeasV.le {M M' : Mem} {v : Value} {l : List BeaS} (h : BeasV M v l) (hM : M.le M') : BeasV M' v l := Arr.le (fun _ _ _ _ _ h => h) h hM
theorem LinsV.le {M M' : Mem} {v : Value} {l : List LinS} (h : LinsV M v l) (hM : M.le M') : LinsV M' v l :=
  Arr.le (fun _ _ _ _ hM ⟨v, h1, h2, h3, h4⟩ => ⟨v, h1, h2, SlAt.le hM h3, h4⟩) h hM
def cellV (c : CellS) : List Value := [.int .i64 c.lo, .int .i64 c.hi, .int .i64 c.dt, .bool c.vd]
theorem CelsV.get {M : Mem} {v : Value} {l : List CellS} (h : CelsV M v l) : ∃ ad c, v = .slice ad l.length c ∧ l.length ≤ 9223372036854775807 ∧ ∀ M', M.le M' → ∀ i, i < l.length → ∃ ad', ad = some ad' ∧ (i64r (gce l i).lo ∧ i64r (gce l i).hi ∧ i64r (gce l i).dt) ∧ ∀ j y, [Value.int .i64 (gce l i).lo, .int .i64 (gce l i).hi, .int .i64 (gce l i).dt, .bool (gce l i).vd][j]? = some y → M'.cell ((ad'.add (i * 4)).add j) = some y := by
  obtain ⟨ad, c, h1, h2, h3⟩ := Arr.get h
  refine ⟨ad, c, h1, h2, fun M' hM i hi => ?_⟩
  obtain ⟨ad', r, h4, _, ⟨rfl, h5⟩, h6⟩ := h3 i _ (getD_get cell0 hi)
  exact ⟨ad', h4, h5, h6 M' hM⟩
theorem BeasV.get {M : Mem} {v : Value} {l : List BeaS} (h : BeasV M v l) : ∃ ad c, v = .slice ad l.length c ∧ l.length ≤ 9223372036854775807 ∧ ∀ M', M.le M' → ∀ i, i < l.length → ∃ ad', ad = some ad' ∧ (i64r (gbe l i).id ∧ i64r (gbe l i).x ∧ i64r (gbe l i).y) ∧ ∀ j y, [Value.int .i64 (gbe l i).id, .int .i64 (gbe l i).x, .int .i64 (gbe l i).y][j]? = some y → M'.cell ((ad'.add (i * 3)).add j) = some y := by
  obtain ⟨ad, c, h1, h2, h3⟩ := Arr.get h
  refine ⟨ad, c, h1, h2, fun M' hM i hi => ?_⟩
  obtain ⟨ad', r, h4, _, ⟨rfl, h5⟩, h6⟩ := h3 i _ (getD_get bea0 hi)
  exact ⟨ad', h4, h5, h6 M' hM⟩
theorem LinsV.get {M : Mem} {v : Value} {l : List LinS} (h : LinsV M v l) : ∃ ad c, v = .slice ad l.length c ∧ l.length ≤ 9223372036854775807 ∧ ∀ M', M.le M' → ∀ i, i < l.length → ∃ ad' w, ad = some ad' ∧ i64r (gli l i).id ∧ Pts M' w (gli l i).ps ∧ i64P (gli l i).ps ∧ ∀ j y, [Value.int .i64 (gli l i).id, w][j]? = some y → M'.cell ((ad'.add (i * 2)).add j) = some y := by
  obtain ⟨ad, c, h1, h2, h3⟩ := Arr.get h
  refine ⟨ad, c, h1, h2, fun M' hM i hi => ?_⟩
  obtain ⟨ad', r, h4, _, ⟨w, rfl, h5, h6, h6'⟩, h7⟩ := h3 i _ (getD_get lin0 hi)
  exact ⟨ad', w, h4, h5, SlAt.le hM h6, h6', h7 M' hM⟩
theorem CelsV.shape {M : Mem} {v : Value} {l : List CellS} (h : CelsV M v l) : ∃ ad c, v = .slice ad l.length c := let ⟨ad, c, he, _⟩ := h.get; ⟨ad, c, he⟩
theorem BeasV.shape {M : Mem} {v : Value} {l : List BeaS} (h : BeasV M v l) : ∃ ad c, v = .slice ad l.length c := let ⟨ad, c, he, _⟩ := h.get; ⟨ad, c, he⟩
theorem LinsV.shape {M : Mem} {v : Value} {l : List LinS} (h : LinsV M v l) : ∃ ad c, v = .slice ad l.length c := let ⟨ad, c, he, _⟩ := h.get; ⟨ad, c, he⟩
def C64 (c : ChartS) : Prop := i64r c.ver ∧ i64r c.x ∧ i64r c.y ∧ i64r c.w ∧ i64r c.h ∧ i64r c.sz
abbrev chV (c : ChartS) (a b d : Value) : Value := .agg #[.int .i64 c.ver, .int .i64 c.x, .int .i64 c.y, .int .i64 c.w, .int .i64 c.h, .int .i64 c.sz, a, b, d]
/-- A chart's lists in memory. -/
structure Cha (M : Mem) (c : ChartS) (a b d : Value) : Prop where
  r : C64 c
  cs : CelsV M a c.cs
  bs : BeasV M b c.bs
  ls : LinsV M d c.ls
theorem Cha.le {M M' : Mem} {c : ChartS} {a b d : Value} (h : Cha M c a b d) (hM : M.le M') : Cha M' c a b d := ⟨h.r, h.cs.le hM, h.bs.le hM, h.ls.le hM⟩
theorem Cha.shape {M : Mem} {c : ChartS} {a b d : Value} (h : Cha M c a b d) : (∃ ad k, a = .slice ad c.cs.length k) ∧ (∃ ad k, b = .slice ad c.bs.length k) ∧ ∃ ad k, d = .slice ad c.ls.length k := ⟨h.cs.shape, h.bs.shape, h.ls.shape⟩
end Go.Proofs.YtegmjmdkhbibjaaGreat

/- The verification-condition framework, part S: a call that is walked where it stands, in the caller's own state. -/
namespace Go.V
open Go Go.RowKit
variable {P : Program}

/-- The arguments in their slots. -/
def argSV : Nat → List SV → List (Nat × SV)
  | _, [] => []
  | n, s :: r => (n, s) :: argSV (n + 1) r
theorem argSV_look : ∀ (l : List SV) (n d : Nat) (s : SV), look (argSV n l) d = some s → n ≤ d ∧ d < n + l.length ∧ l[d - n]? = some s
  | [], n, d, s, h => by cases h
  | v :: r, n, d, s, h => by
    simp only [argSV, look_cons] at h
    split at h
    · rename_i hd
      subst hd
      cases h
      exact ⟨Nat.le_refl _, by simp, by simp⟩
    · rename_i hd
      obtain ⟨h1, h2, h3⟩ := argSV_look r (n + 1) d s h
      refine ⟨by omega, by simp; omega, ?_⟩
      have : d - n = (d - (n + 1)) + 1 := by omega
      rw [this, List.getElem?_cons_succ]
      exact h3
/-- Ghosts that hold what the caller's slots hold. -/
def ghs (val : Nat → Value) : Nat → List (Nat × SV) → List (Nat × Option OE) → List (Nat × Option OE)
  | _, [], ow => ow
  | n, (d, s) :: r, ow => (n, some (.gh d (val d) s)) :: ghs val (n + 1) r ow
theorem ghs_look (val : Nat → Value) : ∀ (l : List (Nat × SV)) (n : Nat) (ow : List (Nat × Option OE)) (i : Nat) (e : Option OE), look (ghs val n l ow) i = some e →
    (n ≤ i ∧ i < n + l.length ∧ ∃ d s, (d, s) ∈ l ∧ e = some (.gh d (val d) s)) ∨ look ow i = some e
  | [], n, ow, i, e, h => .inr h
  | (d, s) :: r, n, ow, i, e, h => by
    simp only [ghs, look_cons] at h
    split at h
    · rename_i hi
      subst hi
      cases h
      exact .inl ⟨Nat.le_refl _, by simp, d, s, by simp, rfl⟩
    · rcases ghs_look val r (n + 1) ow i e h with ⟨h1, h2, d', s', h3, h4⟩ | h
      · exact .inl ⟨by omega, by simp; omega, d', s', List.mem_cons_of_mem _ h3, h4⟩
      · exact .inr h
/-- What the ghosts hold, back in the caller's slots. -/
def rst (st st' : St) (val : Nat → Value) (pl : List (Nat × SV)) : List (Nat × Option OE) → (List (Nat × SV) → Prop) → Prop
  | [], k => k pl
  | (i, some (.gh _ _ _)) :: r, k => match st'.own i with
    | some (.gh d v s) => match look st.sl d with
      | some _ => VFact (v = val d) (rst st st' val pl r fun sl => k ((d, s) :: sl))
      | none => rst st st' val pl r k
    | _ => rst st st' val pl r k
  | _ :: r, k => rst st st' val pl r k
theorem rst_spec {st st' : St} {val : Nat → Value} {pl : List (Nat × SV)} : ∀ {l : List (Nat × Option OE)} {k : List (Nat × SV) → Prop}, rst st st' val pl l k →
    ∃ sl, k sl ∧ ∀ d s, (d, s) ∈ sl → (d, s) ∈ pl ∨ (∃ s0, look st.sl d = some s0) ∧ ∃ i, st'.own i = some (.gh d (val d) s)
  | [], k, h => ⟨pl, h, fun d s hd => .inl hd⟩
  | (i, none) :: r, k, h => rst_spec (l := r) h
  | (i, some (.box t cs)) :: r, k, h => rst_spec (l := r) h
  | (i, some (.row E sz n xs)) :: r, k, h => rst_spec (l := r) h
  | (i, some (.vw _ _ _ _)) :: r, k, h => rst_spec (l := r) h
  | (i, some (.mp _ _ _ _ _ _)) :: r, k, h => rst_spec (l := r) h
  | (i, some (.nw _)) :: r, k, h => rst_spec (l := r) h
  | (i, some (.gh d0 v0 s0)) :: r, k, h => by
    simp only [rst] at h
    split at h
    · rename_i d v s hi
      split at h
      · rename_i s1 hs1
        cases h with
        | mk hv hk =>
          obtain ⟨sl, h1, h2⟩ := rst_spec (l := r) hk
          refine ⟨_, h1, ?_⟩
          intro d' s' hm
          rcases List.mem_cons.1 hm with he | hm
          · cases he
            exact .inr ⟨⟨_, hs1⟩, i, by rw [hi, hv]⟩
          · exact h2 d' s' hm
      · exact rst_spec (l := r) h
    · exact rst_spec (l := r) h

/-- What a call that is walked hands on. -/
def finK (st st' : St) (val : Nat → Value) (pl : List (Nat × SV)) (s : SV) (K : SV → St → Prop) : Prop :=
  match st, st' with
  | ⟨sl, ow, nx, M, nt, G⟩, ⟨sl', ow', nx', M', nt', ⟨m, Y, f⟩⟩ => VFact (M.le M') (VFact (∀ b, m b = none) (rst ⟨sl, ow, nx, M, nt, G⟩ ⟨sl', ow', nx', M', nt', ⟨m, Y, f⟩⟩ val pl ow' fun sl2 => K s ⟨sl2, ow', nx', M, nt, G⟩))
def finV (C : VX) (fn : Func) (st : St) (val : Nat → Value) (pl : List (Nat × SV)) (K : SV → St → Prop) (e : Ex) (st' : St) : Prop :=
  match e with
  | .exit _ => VStuck 180
  | _ => match resSV C st' fn.results.toList with
    | some [] => finK st st' val pl (.v (.tuple #[])) K
    | some [s] => finK st st' val pl s K
    | _ => VStuck 181
theorem finK_iff {st st' : St} {val : Nat → Value} {pl : List (Nat × SV)} {s : SV} {K : SV → St → Prop} (h : finK st st' val pl s K) :
    st.M.le st'.M ∧ (∀ b, st'.G.m b = none) ∧ rst st st' val pl st'.ow fun sl2 => K s ⟨sl2, st'.ow, st'.nx, st.M, st.nt, st.G⟩ := by
  obtain ⟨sl, ow, nx, M, nt, G⟩ := st
  obtain ⟨sl', ow', nx', M', nt', ⟨m, Y, f⟩⟩ := st'
  cases h with
  | mk h1 h2 =>
    cases h2 with
    | mk h2 h3 => exact ⟨h1, h2, h3⟩

/-- The caller's slots that are to be known behind the call. -/
def subSl (st : St) : List (Nat × SV) → Prop
  | [] => True
  | (d, s) :: r => look st.sl d = some s ∧ subSl st r
theorem subSl_mem {st : St} : ∀ {l : List (Nat × SV)}, subSl st l → ∀ {d s}, (d, s) ∈ l → look st.sl d = some s
  | [], _, _, _, h => by cases h
  | (_, _) :: l, ⟨h1, h2⟩, d, s, h => by
    rcases List.mem_cons.1 h with he | h
    · cases he; exact h1
    · exact subSl_mem h2 h
/-- Plain slots. -/
def plSl : List (Nat × Value) → List (Nat × SV)
  | [] => []
  | (d, x) :: r => (d, .v x) :: plSl r
theorem plSl_mem : ∀ {l : List (Nat × Value)} {d : Nat} {s : SV}, (d, s) ∈ plSl l → ∃ x, s = .v x
  | [], _, _, h => by cases h
  | (_, x) :: l, d, s, h => by
    rcases List.mem_cons.1 h with he | h
    · cases he; exact ⟨x, rfl⟩
    · exact plSl_mem h

open Classical in
/-- A call, walked where it stands. -/
theorem VCall.inline {C : VX} (hC : VXOK P C) {f : Nat} {fn : Func} {c : Code} (hf : P.funcs[f]? = some fn) (hb : fn.body = some c) (hname : (fn.name == "runtime.NumGoroutine") = false)
    {st : St} {args : List SV} {K : SV → St → Prop} (hnt : Nat.ble args.length fn.ntmps = true) (slots : List (Nat × SV)) (pls : List (Nat × Value)) (hs1 : subSl st slots) (hs2 : subSl st (plSl pls))
    (h : ∀ (val : Nat → Value) (f0 : Mem), vc C P c ⟨argSV 0 args, ghs val st.nx slots st.ow, st.nx + slots.length, st.M, fn.ntmps, ⟨fun _ => none, none, f0⟩⟩ (finV C fn st val (plSl pls) K)) :
    VCall P f args st K := by
  refine ⟨Go.Proofs.enters_of hf hname hb, fun n₀ w M₀ ρ W hS hsa hss => ?_⟩
  refine (callsIn_wide (n := 100)).1 (callsIn_of_wp_marks hf hb trivial ?_ rfl)
  have hle := Nat.le_of_ble_eq_true hnt
  obtain ⟨val, hval⟩ : ∃ val : Nat → Value, val = fun d => match look st.sl d with | some s => s.den ρ | none => undef := ⟨_, rfl⟩
  obtain ⟨f0, hf0⟩ : ∃ f0 : Mem, f0 = fun b => match st.G.m b with | some o => some o | none => st.G.f b := ⟨_, rfl⟩
  obtain ⟨ρ0, hρ0⟩ : ∃ ρ0 : Env, ρ0 = fun i => if i < st.nx then ρ i else .bool true := ⟨_, rfl⟩
  have hag : Agree st.nx ρ ρ0 := fun i hi => by rw [hρ0]; simp [hi]
  have hf0s : ∀ b o, f0 b = some o → W.heap[b]? = some o ∧ ∀ i e, st.own i = some e → ob (ρ i) ≠ some b := by
    intro b o hb
    rw [hf0] at hb
    simp only at hb
    split at hb
    · rename_i o' hm
      cases hb
      obtain ⟨p1, p2, p3⟩ := hS.pin b o hm
      refine ⟨p2, fun i e hi he => ?_⟩
      obtain ⟨_, _, o2, hh, ho⟩ := (hS.own i e hi).2.2.lt b he
      rw [hh] at p2; cases p2; rw [ho] at p1; cases p1
    · exact hS.fpin b o hb
  obtain ⟨T, hT⟩ : ∃ T : St, T = ⟨argSV 0 args, ghs val st.nx slots st.ow, st.nx + slots.length, st.M, fn.ntmps, ⟨fun _ => none, none, f0⟩⟩ := ⟨_, rfl⟩
  have hvc := h val f0
  rw [← hT] at hvc
  -- the entries of the start: the caller's, and the ghosts
  have hown0 : ∀ i e, T.own i = some e → (i < st.nx ∧ st.own i = some e) ∨ (st.nx ≤ i ∧ i < st.nx + slots.length ∧ ∃ d s, (d, s) ∈ slots ∧ e = .gh d (val d) s) := by
    intro i e hi
    rw [hT] at hi
    unfold St.own at hi
    split at hi
    · rename_i e' hl
      cases hi
      rcases ghs_look val slots st.nx st.ow i _ hl with ⟨h1, h2, d, s, h3, h4⟩ | hl
      · cases h4
        exact .inr ⟨h1, h2, d, s, h3, rfl⟩
      · have : st.own i = some e := by unfold St.own; rw [hl]
        exact .inl ⟨(hS.own i e this).1, this⟩
    · cases hi
  have hs0 : Sat n₀ w M₀ ρ0 T { tmps := (args.map (SV.den ρ)).toArray ++ Array.replicate (fn.ntmps - (args.map (SV.den ρ)).toArray.size) undef, defers := [] } W := by
    refine ⟨⟨hS.below, hS.size, by rw [hT]; exact hS.mem, ?_, ?_, ?_, ?_, by rw [hT]; exact hS.mlow, ?_⟩, by rw [hT]; simp; omega, ?_, by rw [hT]; trivial⟩
    · intro i e hi
      have hTnx : T.nx = st.nx + slots.length := by rw [hT]
      rw [hTnx]
      rcases hown0 i e hi with ⟨h1, h2⟩ | ⟨h1, h2, d, s, h3, rfl⟩
      · obtain ⟨g1, g2, g3⟩ := hS.own i e h2
        exact ⟨by omega, OE.sc_mono (by omega) g2, g3.keep hag g1 g2 fun _ _ => rfl⟩
      · have hl := subSl_mem hs1 h3
        have hsc := hss d s hl
        refine ⟨h2, SV.sc_mono (by omega) hsc, ?_, ?_⟩
        · rw [hρ0]; simp [Nat.not_lt.2 h1, ob]
        · rw [SV.den_agree hag hsc, hval]; simp only [hl]
    · intro i j ei ej hi hj hij b hbi hbj
      rcases hown0 i ei hi with ⟨h1, h2⟩ | ⟨h1, h2, d, s, h3, rfl⟩
      · rcases hown0 j ej hj with ⟨k1, k2⟩ | ⟨k1, k2, d, s, k3, rfl⟩
        · rw [hag i h1] at hbi
          rw [hag j k1] at hbj
          exact hS.sep i j ei ej h2 k2 hij b hbi hbj
        · rw [hρ0] at hbj; simp [Nat.not_lt.2 k1, ob] at hbj
      · rw [hρ0] at hbi; simp [Nat.not_lt.2 h1, ob] at hbi
    · intro i e b hi hbi
      rcases hown0 i e hi with ⟨h1, h2⟩ | ⟨h1, h2, d, s, h3, rfl⟩
      · rw [hag i h1] at hbi
        rw [hT]
        exact hS.msep i e b h2 hbi
      · rw [hρ0] at hbi; simp [Nat.not_lt.2 h1, ob] at hbi
    · intro b o hbo
      rw [hT] at hbo; cases hbo
    · intro b o hbo
      rw [hT] at hbo
      obtain ⟨q1, q2⟩ := hf0s b o hbo
      refine ⟨q1, fun i e hi he => ?_⟩
      rcases hown0 i e hi with ⟨h1, h2⟩ | ⟨h1, h2, d, s, h3, rfl⟩
      · rw [hag i h1] at he
        exact q2 i e h2 he
      · rw [hρ0] at he; simp [Nat.not_lt.2 h1, ob] at he
    · intro d s hd
      rw [hT] at hd
      obtain ⟨h1, h2, h3⟩ := argSV_look args 0 d s hd
      have hmem : s ∈ args := List.mem_of_getElem? h3
      have hsc := hsa s hmem
      refine ⟨by rw [hT]; show d < fn.ntmps; omega, by rw [hT]; exact SV.sc_mono (Nat.le_add_right _ _) hsc, ?_⟩
      simp only [Nat.sub_zero] at h3
      rw [Array.getElem?_append_left (by simp; omega), SV.den_agree hag hsc]
      simp [h3]
  have hY0 : T.G.Y = none := by rw [hT]
  have := vc_sound (r := none) (n := 100) hC (κ := fun Y B => Y = none ∧ B = ⟨n₀, w, M₀⟩) (fun l args rest B M W hκ => by cases hκ.1) (fx := fun _ => False) (tm := #[]) (B := ⟨n₀, w, M₀⟩) c hvc (fun l hl => by cases hl) ⟨hY0, rfl⟩ hs0 (wr_false c) (fun d hd => hd.elim)
  refine wpIn_mono this ?_
  rintro e a' W' ⟨⟨ex, he, B, ρ', st', ⟨_, rfl⟩, h1, h2, h3⟩, _⟩
  have hf' : st'.G.f = f0 := by rw [h2.2, hT]
  have main : (e = .normal ∨ e = .ret) → LeavesInM (Fw none) 100 P fn a'.tmps (fun e W' => ∃ s st' ρ', e = .returned (s.den ρ') ∧ s.sc st'.nx ∧
      SatH n₀ w M₀ ρ' st' W' ∧ (∀ d s', look st'.sl d = some s' → s'.sc st'.nx ∧ ∃ s0, look st.sl d = some s0 ∧ s'.den ρ' = s0.den ρ) ∧ st'.nt = st.nt ∧ st'.G = st.G ∧ K s st') a'.defers .returning W' := by
    intro hcase
    have hsl : ∀ d s, look st'.sl d = some s → s.sc st'.nx ∧ a'.tmps[d]? = some (s.den ρ') := fun d s hd => ⟨(h1.sl d s hd).2.1, (h1.sl d s hd).2.2⟩
    have hend : ∀ (rs : List SV) (s : SV), resSV C st' fn.results.toList = some rs → ret (rs.map (SV.den ρ')) = s.den ρ' → (s.sc st'.nx) → finK st st' val (plSl pls) s K → LeavesInM (Fw none) 100 P fn a'.tmps (fun e W' => ∃ s st' ρ', e = .returned (s.den ρ') ∧ s.sc st'.nx ∧
        SatH n₀ w M₀ ρ' st' W' ∧ (∀ d s', look st'.sl d = some s' → s'.sc st'.nx ∧ ∃ s0, look st.sl d = some s0 ∧ s'.den ρ' = s0.den ρ) ∧ st'.nt = st.nt ∧ st'.G = st.G ∧ K s st') a'.defers .returning W' := by
      intro rs s hrs hret hsc hfin
      obtain ⟨hM, hm, hk⟩ := finK_iff hfin
      obtain ⟨sl2, hK, hsl2⟩ := rst_spec hk
      have hds : a'.defers = [] := marks_nil h1.marks hm
      rw [hds]
      refine ⟨s.den ρ', ?_, s, ⟨sl2, st'.ow, st'.nx, st.M, st.nt, st.G⟩, ρ', rfl, hsc, ?_, ?_, rfl, rfl, hK⟩
      · have hr := (results_run (tmps := a'.tmps) hC h1.h hsl fn.results.toList hrs).1
        have := results_ret fn a'.tmps P _ W' hr
        rw [hret] at this
        exact this
      · refine ⟨h1.h.below, h1.h.size, fun b o hb => h1.h.mem b o (hM b o hb), h1.h.own, h1.h.sep, fun i e b hi hb => ?_, ?_, hS.mlow, ?_⟩
        · have hn := h1.h.msep i e b hi hb
          cases hc : st.M b with
          | none => rfl
          | some o => rw [hM b o hc] at hn; cases hn
        · intro b o hbo
          obtain ⟨p1, p2, p3⟩ := hS.pin b o hbo
          have hfb : st'.G.f b = some o := by
            have hbo' : st.G.m b = some o := hbo
            rw [hf', hf0]; simp only [hbo']
          exact ⟨p1, (h1.h.fpin b o hfb).1, p3⟩
        · intro b o hbo
          have hbo' : st.G.f b = some o := hbo
          have hfb : st'.G.f b = some o := by
            rw [hf', hf0]; simp only
            split
            · rename_i o' hm'
              have q1 := (hS.pin b o' hm').2.1
              have q2 := (hS.fpin b o hbo').1
              rw [q1] at q2; cases q2; rfl
            · exact hbo'
          exact h1.h.fpin b o hfb
      · intro d s' hd
        rcases hsl2 d s' (look_mem hd) with hp | ⟨⟨s0, hs0'⟩, i, hi⟩
        · have hl := subSl_mem hs2 hp
          obtain ⟨x, rfl⟩ := plSl_mem hp
          exact ⟨trivial, _, hl, rfl⟩
        · obtain ⟨_, g2, g3⟩ := h1.h.own i _ hi
          refine ⟨g2, s0, hs0', ?_⟩
          rw [g3.2, hval]; simp only [hs0']
    have h3' : (match resSV C st' fn.results.toList with
      | some [] => finK st st' val (plSl pls) (.v (.tuple #[])) K
      | some [s] => finK st st' val (plSl pls) s K
      | _ => VStuck 181) := by
      rcases hcase with rfl | rfl <;> cases he <;> exact h3
    split at h3'
    · rename_i hrs
      exact hend [] (.v (.tuple #[])) hrs rfl trivial h3'
    · rename_i s hrs
      exact hend [s] s hrs rfl ((results_run (tmps := a'.tmps) hC h1.h hsl fn.results.toList hrs).2 s (by simp)) h3'
    · cases h3'
  cases e with
  | normal => exact main (.inl rfl)
  | ret => exact main (.inr rfl)
  | exit i => cases he; cases h3
  | goto => cases he
  | panic => cases he
  | outgrown => cases he

/-- What is known of the heap, the ids renamed. -/
theorem SatH.ren {n₀ : Nat} {w : World} {M₀ : Mem} {ρ : Env} {st st' : St} {W : World} (h : SatH n₀ w M₀ ρ st W) (r : Nat → Nat) (how : owOK st r st'.nx st'.ow) (hinj : injOK r st'.ow) (hM : st.M = st'.M) (hG : st.G = st'.G) :
    SatH n₀ w M₀ (fun i => ρ (r i)) st' W := by
  let T' : St := ⟨[], st'.ow, st'.nx, st'.M, 0, st.G⟩
  have hwk : SatH n₀ w M₀ (fun i => ρ (r i)) T' W := by
    have hent : ∀ id e, st'.own id = some e → (id, some e) ∈ st'.ow := fun id e he => by
      unfold St.own at he
      split at he
      · rename_i e' hl; cases he; exact look_mem hl
      · cases he
    have hst : ∀ id e, st'.own id = some e → id < st'.nx ∧ e.sc st'.nx ∧ ∃ e0, st.own (r id) = some e0 ∧ (∀ W, OwnOK n₀ ρ W (r id) e0 → OwnOK n₀ (fun i => ρ (r i)) W id e) := fun id e he => by
      obtain ⟨h1, h2⟩ := owOK_mem how (hent id e he)
      cases e with
      | box t cs =>
        simp only [entOK] at h2
        split at h2
        · rename_i t' cs' ho
          obtain ⟨rfl, hc⟩ := h2
          obtain ⟨i1, i2⟩ := cellsOK_spec hc
          refine ⟨h1, i2, _, ho, ?_⟩
          rintro W ⟨B, b1, b2, b3⟩
          refine ⟨B, b1, b2, ?_⟩
          rw [b3, i1, List.map_map]
          have : SV.den ρ ∘ SV.ren r = SV.den (fun i => ρ (r i)) := funext (SV.ren_den ρ r)
          rw [this]
        · exact h2.elim
      | row E sz n xs =>
        simp only [entOK] at h2
        split at h2
        · rename_i E' sz' n' xs' ho
          obtain ⟨rfl, rfl, rfl, rfl⟩ := h2
          exact ⟨h1, trivial, _, ho, fun W hW => hW⟩
        · exact h2.elim
      | gh t v s =>
        simp only [entOK] at h2
        split at h2
        · rename_i t' v' s' ho
          obtain ⟨⟨rfl, rfl⟩, rfl, hs⟩ := h2
          exact ⟨h1, SVB_spec hs, _, ho, fun W hW => ⟨hW.1, by rw [← SV.ren_den]; exact hW.2⟩⟩
        · exact h2.elim
      | vw sz b k n =>
        simp only [entOK] at h2
        split at h2
        · rename_i sz' b' k' n' ho
          obtain ⟨⟨rfl, rfl⟩, ⟨rfl, rfl⟩, hb⟩ := h2
          exact ⟨h1, Nat.le_of_ble_eq_true hb, _, ho, fun W hW => hW⟩
        · exact h2.elim
      | mp P t k e B ks =>
        simp only [entOK] at h2
        split at h2
        · rename_i P' t' k' e' B' ks' ho
          obtain ⟨⟨rfl, rfl, rfl⟩, rfl, rfl, rfl⟩ := h2
          exact ⟨h1, trivial, _, ho, fun W hW => hW⟩
        · exact h2.elim
      | nw B =>
        simp only [entOK] at h2
        split at h2
        · rename_i B' ho
          subst h2
          exact ⟨h1, trivial, _, ho, fun W hW => hW⟩
        · exact h2.elim
    have hin : ∀ id e, st'.own id = some e → id ∈ st'.ow.map (·.1) := fun id e he => List.mem_map.2 ⟨_, hent id e he, rfl⟩
    refine ⟨h.below, h.size, fun b o hb => h.mem b o (by rw [hM]; exact hb), ?_, ?_, ?_, ?_, fun b hb => by show st'.M b = _; rw [← hM]; exact h.mlow b hb, ?_⟩
    · intro id e he
      obtain ⟨h1, h2, e0, h3, h4⟩ := hst id e he
      exact ⟨h1, h2, h4 W (h.own _ _ h3).2.2⟩
    · intro i j ei ej hi hj hij b
      obtain ⟨_, _, e1, h3, _⟩ := hst i ei hi
      obtain ⟨_, _, e2, h4, _⟩ := hst j ej hj
      exact h.sep (r i) (r j) e1 e2 h3 h4 (injOK_spec hinj i j (hin i ei hi) (hin j ej hj) hij) b
    · intro i e b hi hb
      obtain ⟨_, _, e1, h3, _⟩ := hst i e hi
      have := h.msep (r i) e1 b h3 hb
      show st'.M b = none
      rw [← hM]; exact this
    · intro b o hb
      obtain ⟨h1, h2, h3⟩ := h.pin b o hb
      refine ⟨h1, h2, ?_⟩
      show st'.M b = none
      rw [← hM]; exact h3
    · intro b o hb
      obtain ⟨h1, h2⟩ := h.fpin b o hb
      refine ⟨h1, fun i e hi => ?_⟩
      obtain ⟨_, _, e0, h3, _⟩ := hst i e hi
      exact h2 (r i) e0 h3
  exact hwk.same rfl rfl rfl hG.symm

/-- A call, its state looked at in other words; and what it leaves, in other words. -/
theorem VCall.wk {st st1 : St} {f : Nat} {args args1 : List SV} {K : SV → St → Prop} (r : Nat → Nat) (ha : args = args1.map (SV.ren r)) (hab : args1.all (SVB st1.nx) = true) (hsl : slOK st r st1.nx st1.sl) (how : owOK st r st1.nx st1.ow) (hinj : injOK r st1.ow) (hM : st.M = st1.M) (hnt : st.nt = st1.nt) (hG : st.G = st1.G)
    (h : VCall P f args1 st1 K) : VCall P f args st K := by
  refine ⟨h.ent, fun n₀ w M₀ ρ W hS hsa hss => ?_⟩
  have h1 := hS.ren r how hinj hM hG
  have hargs : args.map (SV.den ρ) = args1.map (SV.den fun i => ρ (r i)) := by
    rw [ha, List.map_map]
    exact List.map_congr_left fun s _ => SV.ren_den ρ r s
  rw [hargs]
  have hsl1 : ∀ d s, look st1.sl d = some s → look st.sl d = some (s.ren r) ∧ s.sc st1.nx := fun d s hd => slOK_mem hsl (look_mem hd)
  refine (h.run n₀ w M₀ _ W h1 (fun s hs => SVB_spec (List.all_eq_true.1 hab s hs)) (fun d s hd => (hsl1 d s hd).2)).mono ?_
  rintro e W' ⟨s, st', ρ', rfl, g4, g5, g7, g8, g10, g9⟩
  refine ⟨s, st', ρ', rfl, g4, g5, ?_, by rw [g8, hnt], by rw [g10, hG], g9⟩
  intro d s' hd
  obtain ⟨q1, s0, q2, q3⟩ := g7 d s' hd
  exact ⟨q1, _, (hsl1 d s0 q2).1, by rw [q3, SV.ren_den]⟩
/-- What a call leaves, in other words. -/
structure Left (st' : St) (s : SV) (st2 : St) (s2 : SV) : Prop where
  w : ∃ r : Nat → Nat, s = s2.ren r ∧ SVB st2.nx s2 = true ∧ slOK st' r st2.nx st2.sl ∧ owOK st' r st2.nx st2.ow ∧ injOK r st2.ow
  m : st'.M = st2.M
  nt : st'.nt = st2.nt
  g : st'.G = st2.G
theorem VCall.post {st : St} {f : Nat} {args : List SV} {K : SV → St → Prop} (h : VCall P f args st fun s st' => ∃ s2 st2, Left st' s st2 s2 ∧ K s2 st2) : VCall P f args st K := by
  refine ⟨h.ent, fun n₀ w M₀ ρ W hS hsa hss => ?_⟩
  refine (h.run n₀ w M₀ _ W hS hsa hss).mono ?_
  rintro e W' ⟨s, st', ρ', rfl, g4, g5, g7, g8, g10, s2, st2, ⟨⟨r, h1, h2, h3, h4, h5⟩, hm, hnt, hg⟩, hK⟩
  refine ⟨s2, st2, fun i => ρ' (r i), by rw [h1, SV.ren_den], SVB_spec h2, g5.ren r h4 h5 hm hg, ?_, by rw [← hnt, g8], by rw [← hg, g10], hK⟩
  intro d s' hd
  obtain ⟨q1, q2⟩ := slOK_mem h3 (look_mem hd)
  obtain ⟨_, s0, k2, k3⟩ := g7 d _ q1
  exact ⟨q2, s0, k2, by rw [← k3, SV.ren_den]⟩
end Go.V

/- slices.Compact and slices.Clone, walked where they are called. -/
namespace Go.Proofs.YtegmjmdkhbibjaaGreat
open Go Go.V Go.RowKit
theorem cellsP_length (ps : List Pt) : (cellsP ps).length = ps.length * 2 := cellsP_len ps
set_option maxHeartbeats 1000000 in
theorem Compact_call {n nt : Nat} {xs : List Value} {ps : List Pt} {M : Mem} {G : Gh} {K : SV → St → Prop} (hn : n = ps.length) (hx : xs = cellsP ps) (hsz : ps.length < 4611686018427387904)
    (hK : K (.row 0) ⟨[], [(0, some (.row 46 2 (compactP ps).length (cellsP (compactP ps))))], 1, M, nt, G⟩) :
    VCall Tryz.prog 81 [.row 0] ⟨[], [(0, some (.row 46 2 n xs))], 1, M, nt, G⟩ K := by
  subst hn; subst hx
  refine VCall.post ?_
  refine VCall.inline cxOK Tryz.func81 rfl rfl rfl [] [] trivial trivial ?_
  intro val f0
  repeat (first | refine VIf.tt ?_ | refine VIf.ff ?_)
  refine VIf.mk (fun h => ?_) (fun h => ?_)
  · have h := lt_of_dec h
    repeat (first | refine VIf.tt ?_ | refine VIf.ff ?_)
    refine VFact.mk (fun _ _ h => h) ?_
    repeat (first | refine VIf.tt ?_ | refine VIf.ff ?_)
    refine VFact.mk (fun _ => rfl) ?_
    have e : compactP ps = ps := compactP_short (by omega)
    exact ⟨_, ⟨[], [(0, some (.row 46 2 (compactP ps).length (cellsP (compactP ps))))], 1, M, nt, G⟩, ⟨⟨fun _ => 0, rfl, rfl, trivial, ⟨⟨rfl, rfl, rfl, by rw [e], by rw [e]⟩, trivial⟩, injOK_one _ _ _⟩, rfl, rfl, rfl⟩, hK⟩
  have h := ge_of_dec h
  repeat (first | refine VIf.tt ?_ | refine VIf.ff ?_)
  refine VCode.loopG cxOK (fun m => m = fun _ => none) rfl Nat (fun k => ⟨[(0, .row 0), (3, .v (.int .i64 k))], [(0, some (.row 46 2 ps.length (cellsP ps)))], 1, M, 61, ⟨fun _ => none, none, f0⟩⟩)
    (fun k => 1 ≤ k ∧ k ≤ ps.length ∧ ∀ j, j < k → keepB ps j = true) (fun k => ps.length - k) 1 ⟨Nat.le_refl _, Nat.le_of_succ_le h, fun j (hj : j < 1) => (Nat.lt_one_iff.1 hj).symm ▸ rfl⟩ (Wk.mk' id (by repeat' constructor) (by repeat' constructor) (injOK_id _) rfl rfl rfl) ?_
  rintro k ⟨hk1, hk2, hk3⟩ m rfl
  repeat (first | refine VIf.tt ?_ | refine VIf.ff ?_)
  refine VIf.mk (fun hlt => ?_) (fun hge => ?_)
  · have hlt := lt_of_dec hlt
    repeat (first | refine VIf.tt ?_ | refine VIf.ff ?_)
    refine VDraw.go (by kernel_rfl) ?_
    repeat (first | refine VIf.tt ?_ | refine VIf.ff ?_)
    refine VIdxR.mk k rfl hlt ?_
    repeat (first | refine VIf.tt ?_ | refine VIf.ff ?_)
    refine VCells.mk [.int .i64 (gp ps k).1, .int .i64 (gp ps k).2] rfl (rowP_get ps hlt) ?_
    repeat (first | refine VIf.tt ?_ | refine VIf.ff ?_)
    refine VArith.ok (by first | omega | (simp only; omega)) (by first | omega | (simp only; omega)) ?_
    repeat (first | refine VIf.tt ?_ | refine VIf.ff ?_)
    refine VIdxR.mk (k - 1) (by omega) (by omega) ?_
    repeat (first | refine VIf.tt ?_ | refine VIf.ff ?_)
    refine VCells.mk [.int .i64 (gp ps (k - 1)).1, .int .i64 (gp ps (k - 1)).2] rfl (rowP_get ps (by omega)) ?_
    repeat (first | refine VIf.tt ?_ | refine VIf.ff ?_)
    refine VIf.mk (fun hd => ?_) (fun hd => ?_)
    · -- alike
      have hkk : keepB ps k = false := by
        simp only [eqRes, Bool.and_eq_true, beq_iff_eq] at hd
        simp only [keepB, Bool.or_eq_false_iff, beq_eq_false_iff_ne, bne_eq_false_iff_eq]
        exact ⟨by omega, Prod.ext hd.1 hd.2⟩
      have hm : midP ps (k + 1) = ps := by
        rw [← midP_skip ps hkk]
        unfold midP
        rw [comp_all ps k hk2 hk3, List.length_take, Nat.min_eq_left hk2, List.take_append_drop]
      have hc : (comp ps (k + 1)).length = k := by
        rw [comp_succ, if_neg (by rw [hkk]; exact Bool.false_ne_true), comp_all ps k hk2 hk3, List.length_take, Nat.min_eq_left hk2]
      repeat (first | refine VIf.tt ?_ | refine VIf.ff ?_)
      refine VFact.mk (by omega) ?_
      repeat (first | refine VIf.tt ?_ | refine VIf.ff ?_)
      refine VBnd.mk k rfl hk2 ?_
      repeat (first | refine VIf.tt ?_ | refine VIf.ff ?_)
      refine VFact.mk hlt ?_
      repeat (first | refine VIf.tt ?_ | refine VIf.ff ?_)
      refine VCode.loopG cxOK (fun m => m = fun _ => none) rfl (Nat × Nat × List Value) (fun (⟨kk, k2, ys⟩ : Nat × Nat × List Value) => ⟨[(0, .row 0), (3, .v (.int .i64 kk)), (4, .row 1), (5, .v (.int .i64 k2))], [(0, some (.row 46 2 ps.length ys)), (1, some (.vw 2 0 k (ps.length - k)))], 2, M, 61, ⟨fun _ => none, none, f0⟩⟩)
        (fun (⟨kk, k2, ys⟩ : Nat × Nat × List Value) => 1 ≤ k2 ∧ k + k2 ≤ ps.length ∧ kk = (comp ps (k + k2)).length ∧ ys = cellsP (midP ps (k + k2)) ∧ kk + 1 ≤ k + k2) (fun (⟨_, k2, _⟩ : Nat × Nat × List Value) => ps.length - k2) (k, 1, cellsP ps) ⟨Nat.le_refl _, hlt, hc.symm, by rw [hm], Nat.le_refl _⟩ ?_ ?_
      · refine Wk.mk' (fun i => i) (by repeat' constructor) (by repeat' constructor) (injOK_id _) rfl rfl rfl
      rintro ⟨kk, k2, ys⟩ ⟨h1, h2, h3, h4, h5⟩ m rfl
      subst h4
      have hml := midP_len ps (j := k + k2) h2
      repeat (first | refine VIf.tt ?_ | refine VIf.ff ?_)
      refine VIf.mk (fun hl2 => ?_) (fun hg2 => ?_)
      · have hl2 := lt_of_dec hl2
        have hj : k + k2 < ps.length := by omega
        repeat (first | refine VIf.tt ?_ | refine VIf.ff ?_)
        refine VDraw.go (by kernel_rfl) ?_
        repeat (first | refine VIf.tt ?_ | refine VIf.ff ?_)
        refine VIdxR.mk k2 rfl hl2 ?_
        repeat (first | refine VIf.tt ?_ | refine VIf.ff ?_)
        refine VCells.mk [.int .i64 (gp ps (k + k2)).1, .int .i64 (gp ps (k + k2)).2] rfl ?_ ?_
        · rw [← midP_get ps (j := k + k2) (i := k + k2) (by omega)]
          exact rowP_get _ (by omega)
        repeat (first | refine VIf.tt ?_ | refine VIf.ff ?_)
        refine VArith.ok (by first | omega | (simp only; omega)) (by first | omega | (simp only; omega)) ?_
        repeat (first | refine VIf.tt ?_ | refine VIf.ff ?_)
        refine VIdxR.mk (k2 - 1) (by omega) (by omega) ?_
        repeat (first | refine VIf.tt ?_ | refine VIf.ff ?_)
        refine VCells.mk [.int .i64 (gp ps (k + (k2 - 1))).1, .int .i64 (gp ps (k + (k2 - 1))).2] rfl ?_ ?_
        · rw [← midP_get ps (j := k + k2) (i := k + (k2 - 1)) (by omega)]
          exact rowP_get _ (by omega)
        repeat (first | refine VIf.tt ?_ | refine VIf.ff ?_)
        refine VIf.mk (fun hd => ?_) (fun hd => ?_)
        · have hkj : keepB ps (k + k2) = true := by
            simp only [eqRes, Bool.not_eq_true', Bool.and_eq_false_iff, beq_eq_false_iff_ne] at hd
            simp only [keepB, Bool.or_eq_true, beq_iff_eq, bne_iff_ne]
            refine .inr fun e => ?_
            rw [show k + k2 - 1 = k + (k2 - 1) by omega] at e
            rw [e] at hd
            simp at hd
          repeat (first | refine VIf.tt ?_ | refine VIf.ff ?_)
          refine VIdxR.mk k2 rfl hl2 ?_
          repeat (first | refine VIf.tt ?_ | refine VIf.ff ?_)
          refine VCells.mk [.int .i64 (gp ps (k + k2)).1, .int .i64 (gp ps (k + k2)).2] rfl ?_ ?_
          · rw [← midP_get ps (j := k + k2) (i := k + k2) (by omega)]
            exact rowP_get _ (by omega)
          repeat (first | refine VIf.tt ?_ | refine VIf.ff ?_)
          refine VIdxR.mk kk rfl (by omega) ?_
          have hfit : kk * 2 + 2 ≤ (cellsP (midP ps (k + k2))).length := by rw [cellsP_length, hml]; omega
          repeat (first | refine VIf.tt ?_ | refine VIf.ff ?_)
          refine VFact.mk hfit ?_
          repeat (first | refine VIf.tt ?_ | refine VIf.ff ?_)
          refine VArith.ok (by first | omega | (simp only; omega)) (by first | omega | (simp only; omega)) ?_
          repeat (first | refine VIf.tt ?_ | refine VIf.ff ?_)
          refine VArith.ok (by first | omega | (simp only; omega)) (by first | omega | (simp only; omega)) ?_
          refine ⟨rfl, (kk + 1, k2 + 1, rput (cellsP (midP ps (k + k2))) (kk * 2) [.int .i64 (gp ps (k + k2)).1, .int .i64 (gp ps (k + k2)).2]), ⟨by omega, by omega, ?_, ?_, by omega⟩, ?_, (Wk.mk' id (by repeat' constructor) (by repeat' constructor) (injOK_id _) rfl rfl rfl)⟩
          · rw [show k + (k2 + 1) = k + k2 + 1 by omega, comp_succ, if_pos hkj]
            simp [h3]
          · rw [show k + (k2 + 1) = k + k2 + 1 by omega, ← midP_set ps hj hkj, ← h3, cellsP_put _ _ _ (by omega)]
          · show ps.length - (k2 + 1) < ps.length - k2
            omega
        · have hkj : keepB ps (k + k2) = false := by
            simp only [eqRes, Bool.not_eq_false', Bool.and_eq_true, beq_iff_eq] at hd
            simp only [keepB, Bool.or_eq_false_iff, beq_eq_false_iff_ne, bne_eq_false_iff_eq]
            rw [show k + k2 - 1 = k + (k2 - 1) by omega]
            exact ⟨by omega, Prod.ext hd.1 hd.2⟩
          repeat (first | refine VIf.tt ?_ | refine VIf.ff ?_)
          refine VArith.ok (by first | omega | (simp only; omega)) (by first | omega | (simp only; omega)) ?_
          refine ⟨rfl, (kk, k2 + 1, cellsP (midP ps (k + k2))), ⟨by omega, by omega, ?_, ?_, by omega⟩, ?_, (Wk.mk' id (by repeat' constructor) (by repeat' constructor) (injOK_id _) rfl rfl rfl)⟩
          · rw [show k + (k2 + 1) = k + k2 + 1 by omega, comp_succ, if_neg (by rw [hkj]; exact Bool.false_ne_true)]
            exact h3
          · rw [show k + (k2 + 1) = k + k2 + 1 by omega, ← midP_skip ps hkj]
          · show ps.length - (k2 + 1) < ps.length - k2
            omega
      · have : k + k2 = ps.length := by have := ge_of_dec hg2; omega
        rw [this] at h3 h5 hml ⊢
        have hkn : kk < ps.length := by omega
        repeat (first | refine VIf.tt ?_ | refine VIf.ff ?_)
        refine VFact.mk (by omega) ?_
        repeat (first | refine VIf.tt ?_ | refine VIf.ff ?_)
        refine VBnd.mk kk rfl (by omega) ?_
        repeat (first | refine VIf.tt ?_ | refine VIf.ff ?_)
        refine VFact.mk hkn ?_
        repeat (first | refine VIf.tt ?_ | refine VIf.ff ?_)
        refine VFact.mk ⟨by omega, by rw [cellsP_length, hml]; omega⟩ ?_
        repeat (first | refine VIf.tt ?_ | refine VIf.ff ?_)
        refine VBnd.mk kk rfl (by omega) ?_
        repeat (first | refine VIf.tt ?_ | refine VIf.ff ?_)
        refine VFact.mk (fun _ _ h => h) ?_
        repeat (first | refine VIf.tt ?_ | refine VIf.ff ?_)
        refine VFact.mk (fun _ => rfl) ?_
        refine ⟨_, ⟨[], [(0, some (.row 46 2 (compactP ps).length (cellsP (compactP ps))))], 1, M, nt, G⟩, ⟨⟨fun _ => 3, rfl, rfl, trivial, ⟨⟨rfl, rfl, rfl, ?_, ?_⟩, trivial⟩, injOK_one _ _ _⟩, rfl, rfl, rfl⟩, hK⟩
        · exact h3.symm
        · rw [rput_take_off (by rw [cellsP_length, hml]; omega), cellsP_take, h3]
          unfold midP
          rw [List.take_left]
          rfl
    · have hkk : keepB ps k = true := by
        simp only [eqRes, Bool.and_eq_false_iff, beq_eq_false_iff_ne] at hd
        simp only [keepB, Bool.or_eq_true, beq_iff_eq, bne_iff_ne]
        refine .inr fun e => ?_
        rw [e] at hd
        simp at hd
      repeat (first | refine VIf.tt ?_ | refine VIf.ff ?_)
      refine VArith.ok (by first | omega | (simp only; omega)) (by first | omega | (simp only; omega)) ?_
      refine ⟨rfl, k + 1, ⟨by omega, by omega, fun j hj => ?_⟩, (by first | omega | (simp only; omega)), (Wk.mk' id (by repeat' constructor) (by repeat' constructor) (injOK_id _) rfl rfl rfl)⟩
      by_cases e : j = k
      · subst e; exact hkk
      · exact hk3 j (by omega)
  · have : k = ps.length := by have := ge_of_dec hge; omega
    subst this
    repeat (first | refine VIf.tt ?_ | refine VIf.ff ?_)
    refine VFact.mk (fun _ _ h => h) ?_
    repeat (first | refine VIf.tt ?_ | refine VIf.ff ?_)
    refine VFact.mk (fun _ => rfl) ?_
    have e : compactP ps = ps := by
      unfold compactP
      rw [comp_all ps _ (Nat.le_refl _) hk3, List.take_length]
    exact ⟨_, ⟨[], [(0, some (.row 46 2 (compactP ps).length (cellsP (compactP ps))))], 1, M, nt, G⟩, ⟨⟨fun _ => 0, rfl, rfl, trivial, ⟨⟨rfl, rfl, rfl, by rw [e], by rw [e]⟩, trivial⟩, injOK_one _ _ _⟩, rfl, rfl, rfl⟩, hK⟩
end Go.Proofs.YtegmjmdkhbibjaaGreat

/- Plain geometry: what holds at a polygon's corners holds at its places. -/
namespace Go.Proofs.YtegmjmdkhbibjaaGreat
open Go
theorem cross_flip (p q r : Pt) : crossP q p r = - crossP p q r := by unfold crossP cross; grind
theorem pos_of_mul {t y : Int} (ht : 0 < t) (h : 0 ≤ t * y) : 0 ≤ y := Int.not_lt.1 fun hy => by
  have := Int.mul_neg_of_pos_of_neg ht hy
  omega
end Go.Proofs.YtegmjmdkhbibjaaGreat

/- Plain geometry: the sides of a hull; the chain of corners. -/
namespace Go.Proofs.YtegmjmdkhbibjaaGreat
open Go
/-- Less, by X, then by Y. -/
def lexLt (a b : Pt) : Prop := a.1 < b.1 ∨ a.1 = b.1 ∧ a.2 < b.2
def lexLe (a b : Pt) : Prop := a.1 < b.1 ∨ a.1 = b.1 ∧ a.2 ≤ b.2
theorem lexLt_irrefl (a : Pt) : ¬ lexLt a a := by unfold lexLt; omega
/-! ### Vectors -/
/-! ### The sides of a hull -/
/-- a to b is a side of the hull of S: all of S lies on its left, or on it. -/
def E (S : List Pt) (a b : Pt) : Prop := a ∈ S ∧ b ∈ S ∧ a ≠ b ∧ ∀ y ∈ S, 0 < crossP a b y ∨ crossP a b y = 0 ∧ betwB a b y = true
instance (S : List Pt) (a b : Pt) : Decidable (E S a b) := by unfold E; infer_instance
theorem E_sub {S T : List Pt} {a b : Pt} (h : E S a b) (hT : ∀ x ∈ T, x ∈ S) (ha : a ∈ T) (hb : b ∈ T) : E T a b := ⟨ha, hb, h.2.2.1, fun y hy => h.2.2.2 y (hT y hy)⟩

/-- A side that goes up. -/
def Edge (S : List Pt) (a b : Pt) : Prop := a ∈ S ∧ b ∈ S ∧ lexLt a b ∧ ∀ y ∈ S, 0 < crossP a b y ∨ crossP a b y = 0 ∧ lexLe a y ∧ lexLe y b
theorem betw_of_lex {a b y : Pt} (h : lexLt a b) (hz : crossP a b y = 0) (h1 : lexLe a y) (h2 : lexLe y b) : betwB a b y = true := by
  unfold crossP cross at hz
  simp only [betwB, decide_eq_true_eq]
  unfold lexLt at h; unfold lexLe at h1 h2
  rcases h with h | ⟨h, h'⟩
  · have d1 : 0 ≤ y.1 - a.1 := by omega
    have d2 : 0 ≤ b.1 - y.1 := by omega
    have d3 : 0 < b.1 - a.1 := by omega
    have key : ∀ z : Int, 0 ≤ (b.1 - a.1) * z → 0 ≤ z := fun z hz => pos_of_mul d3 hz
    by_cases hs : a.2 ≤ b.2
    · have e1 := key (y.2 - a.2) (by
        have := Int.mul_nonneg (show 0 ≤ b.2 - a.2 by omega) d1
        omega)
      have e2 := key (b.2 - y.2) (by
        have := Int.mul_nonneg (show 0 ≤ b.2 - a.2 by omega) d2
        have e : (b.1 - a.1) * (b.2 - y.2) = (b.2 - a.2) * (b.1 - y.1) := by
          have : (b.1 - a.1) * (b.2 - y.2) = (b.1 - a.1) * (b.2 - a.2) - (b.1 - a.1) * (y.2 - a.2) := by grind
          rw [this]
          have : (b.2 - a.2) * (b.1 - y.1) = (b.1 - a.1) * (b.2 - a.2) - (b.2 - a.2) * (y.1 - a.1) := by grind
          rw [this]; omega
        rw [e]; exact this)
      omega
    · have e1 := key (a.2 - y.2) (by
        have := Int.mul_nonneg (show 0 ≤ a.2 - b.2 by omega) d1
        have e : (b.1 - a.1) * (a.2 - y.2) = - ((b.1 - a.1) * (y.2 - a.2)) := by grind
        have e' : (a.2 - b.2) * (y.1 - a.1) = - ((b.2 - a.2) * (y.1 - a.1)) := by grind
        omega)
      have e2 := key (y.2 - b.2) (by
        have := Int.mul_nonneg (show 0 ≤ a.2 - b.2 by omega) d2
        have e : (b.1 - a.1) * (y.2 - b.2) = (a.2 - b.2) * (b.1 - y.1) := by
          have : (b.1 - a.1) * (y.2 - b.2) = (b.1 - a.1) * (y.2 - a.2) - (b.1 - a.1) * (b.2 - a.2) := by grind
          rw [this]
          have : (a.2 - b.2) * (b.1 - y.1) = (b.2 - a.2) * (y.1 - a.1) - (b.1 - a.1) * (b.2 - a.2) := by grind
          rw [this]; omega
        rw [e]; exact this)
      omega
  · omega
theorem Edge.e {S : List Pt} {a b : Pt} (h : Edge S a b) : E S a b := by
  obtain ⟨h1, h2, h3, h4⟩ := h
  refine ⟨h1, h2, fun e => lexLt_irrefl _ (e ▸ h3), fun y hy => ?_⟩
  rcases h4 y hy with h | ⟨h, k1, k2⟩
  · exact .inl h
  · exact .inr ⟨h, betw_of_lex h3 h k1 k2⟩

/-! ### The chain -/
/-- All neighbours on a reversed chain are sides. -/
def Lnk (S : List Pt) : List Pt → Prop
  | b :: a :: r => Edge S a b ∧ Lnk S (a :: r)
  | _ => True
theorem Lnk.tail {S : List Pt} {b : Pt} {l : List Pt} (h : Lnk S (b :: l)) : Lnk S l := by
  cases l with
  | nil => trivial
  | cons a r => exact h.2
end Go.Proofs.YtegmjmdkhbibjaaGreat

/- Plain geometry: the two chains together are a polygon; there is but one. -/
namespace Go.Proofs.YtegmjmdkhbibjaaGreat
open Go
/-- The corners of p follow each other round the hull of S. -/
structure Cyc (S p : List Pt) : Prop where
  two : 2 ≤ p.length
  fst : ∀ y ∈ S, lexLe (gp p 0) y
  inj : ∀ i j, i < j → j < p.length → gp p i ≠ gp p j
  side : ∀ i, i < p.length → E S (gp p i) (gp p ((i + 1) % p.length))
theorem gp_mem {l : List Pt} {i : Nat} (h : i < l.length) : gp l i ∈ l := by
  unfold gp; simp [List.getD_eq_getElem?_getD, List.getElem?_eq_getElem h]
theorem mem_gp {l : List Pt} {x : Pt} (h : x ∈ l) : ∃ i, i < l.length ∧ gp l i = x := by
  obtain ⟨i, hi, e⟩ := List.getElem_of_mem h
  exact ⟨i, hi, by unfold gp; simp [List.getD_eq_getElem?_getD, List.getElem?_eq_getElem hi, e]⟩
end Go.Proofs.YtegmjmdkhbibjaaGreat

/- slices.Clone and hull.chain.push, walked where they are called. -/
namespace Go.Proofs.YtegmjmdkhbibjaaGreat
open Go Go.V Go.RowKit
end Go.Proofs.YtegmjmdkhbibjaaGreat

/- Contract: hull.around. -/
namespace Go.Proofs.YtegmjmdkhbibjaaGreat
open Go Go.V Go.RowKit
theorem SlAt.some {M : Mem} {sz n c : Nat} {ad : Option Addr} {xs : List Value} (h : SlAt M sz (.slice ad n c) n xs) (hn : 0 < n) : ∃ a, ad = .some a := by
  obtain ⟨a', c1, e, h1, h2, h3, h4, h5⟩ := h
  cases e
  obtain ⟨a, e, _⟩ := h5 hn
  exact ⟨a, e⟩
/-- The slice of all but the last corner. -/
theorem SlAt.pre {M M' : Mem} (hM : M.le M') {ad : Option Addr} {c : Nat} {A : List Pt} (h : SlAt M 2 (.slice ad A.length c) A.length (cellsP A.reverse)) (hA : 0 < A.length) :
    A.length ≤ c ∧ ∀ c', (c' = A.length - 1 ∨ c' = c) → SlAt M' 2 (.slice ad (A.length - 1) c') (A.length - 1) (cellsP A.tail.reverse) := by
  obtain ⟨a', c1, e, h1, h2, h3, h4, h5⟩ := h
  cases e
  refine ⟨h1, fun c' hc' => ?_⟩
  have hle : A.length - 1 ≤ c' := by omega
  have e : cellsP A.tail.reverse = (cellsP A.reverse).take ((A.length - 1) * 2) := by
    rw [cellsP_take]
    cases A with
    | nil => rfl
    | cons x r => simp
  refine ⟨ad, c', rfl, hle, by omega, by rw [cellsP_length]; simp, fun v hv => h4 v (by rw [e] at hv; exact List.mem_of_mem_take hv), fun hpos => ?_⟩
  obtain ⟨ad', rfl, hrd⟩ := h5 (by omega)
  refine ⟨ad', rfl, fun j v hj => Mem.cell_le hM (hrd j v ?_)⟩
  rw [e, List.getElem?_take] at hj
  split at hj
  · exact hj
  · cases hj
end Go.Proofs.YtegmjmdkhbibjaaGreat

/- Plain geometry: what a hull is, and what it has. -/
namespace Go.Proofs.YtegmjmdkhbibjaaGreat
open Go
/-- p is the hull of S. -/
inductive Hl (S p : List Pt) : Prop
  | one (a : Pt) (hp : p = [a]) (hS : ∀ y ∈ S, y = a) (ha : a ∈ S)
  | many (h : Cyc S p)
theorem Hl.mem {S p : List Pt} (h : Hl S p) {i : Nat} (hi : i < p.length) : gp p i ∈ S := by
  cases h with
  | one a hp hS ha => subst hp; simp at hi; subst hi; exact ha
  | many h => exact (h.side i hi).1
theorem Hl.sub {S p : List Pt} (h : Hl S p) : ∀ x ∈ p, x ∈ S := fun x hx => by
  obtain ⟨i, hi, rfl⟩ := mem_gp hx
  exact h.mem hi
theorem Cyc.restrict {S T p : List Pt} (h : Cyc S p) (hT : ∀ x ∈ T, x ∈ S) (hp : ∀ x ∈ p, x ∈ T) : Cyc T p :=
  ⟨h.two, fun y hy => h.fst y (hT y hy), h.inj, fun i hi => E_sub (h.side i hi) hT (hp _ (gp_mem hi)) (hp _ (gp_mem (Nat.mod_lt _ (by omega))))⟩
theorem Hl.restrict {S T p : List Pt} (h : Hl S p) (hT : ∀ x ∈ T, x ∈ S) (hp : ∀ x ∈ p, x ∈ T) : Hl T p := by
  cases h with
  | one a hp' hS ha => exact .one a hp' (fun y hy => hS y (hT y hy)) (hp a (by rw [hp']; simp))
  | many h => exact .many (h.restrict hT hp)
theorem Hl.congr {S T p : List Pt} (h : Hl S p) (hT : ∀ x, x ∈ T ↔ x ∈ S) : Hl T p := h.restrict (fun x hx => (hT x).1 hx) fun x hx => (hT x).2 (h.sub x hx)
/-- A hull has what it is the hull of. -/
theorem Hl.has {S p : List Pt} (h : Hl S p) {x : Pt} (hx : x ∈ S) : hasB p x = true := by
  cases h with
  | one a hp hS' ha => subst hp; simp [hasB, gp, hS' x hx]
  | many h =>
    have hn := h.two
    unfold hasB
    rw [if_neg (by omega)]
    have hs : ∀ i, i < p.length → 0 < crossP (gp p i) (gp p ((i + 1) % p.length)) x ∨ crossP (gp p i) (gp p ((i + 1) % p.length)) x = 0 ∧ betwB (gp p i) (gp p ((i + 1) % p.length)) x = true := fun i hi => (h.side i hi).2.2.2 x hx
    by_cases h2 : p.length = 2
    · rw [if_pos h2]
      have s0 := hs 0 (by omega)
      have s1 := hs 1 (by omega)
      rw [Nat.mod_eq_of_lt (by omega)] at s0
      rw [h2] at s1
      have e : crossP (gp p 1) (gp p ((1 + 1) % 2)) x = - crossP (gp p 0) (gp p 1) x := cross_flip _ _ _
      rw [e] at s1
      rw [Nat.zero_add] at s0
      simp only [Bool.and_eq_true, decide_eq_true_eq]
      rcases s0 with s0 | ⟨s0, b0⟩
      · rcases s1 with s1 | ⟨s1, _⟩ <;> omega
      · exact ⟨s0, b0⟩
    · rw [if_neg h2]
      refine all_true fun i hi => ?_
      simp only [sideB, decide_eq_true_eq]
      rcases hs i hi with g | ⟨g, _⟩ <;> omega
end Go.Proofs.YtegmjmdkhbibjaaGreat

/- Plain geometry: a polygon that has some places, its corners among them, is their hull; areas. -/
namespace Go.Proofs.YtegmjmdkhbibjaaGreat
open Go
theorem place_bd {p : Pt} (h : placeB p = true) : -500000 ≤ p.1 ∧ p.1 ≤ 500000 ∧ -500000 ≤ p.2 ∧ p.2 ≤ 500000 := by
  simp only [placeB, Bool.and_eq_true] at h
  have h1 := isCb_iff.1 h.1
  have h2 := isCb_iff.1 h.2
  unfold isC at *
  exact ⟨h1.1, h1.2, h2.1, h2.2⟩
end Go.Proofs.YtegmjmdkhbibjaaGreat

/- Plain geometry: areas; a further place; the middle of two places. -/
namespace Go.Proofs.YtegmjmdkhbibjaaGreat
open Go
/-- A sum. -/
def sm (f : Nat → Int) : Nat → Int
  | 0 => 0
  | n + 1 => sm f n + f n
/-! ### Sums over lists -/
end Go.Proofs.YtegmjmdkhbibjaaGreat

/- The hull that the program makes is the hull. -/
namespace Go.Proofs.YtegmjmdkhbibjaaGreat
open Go
end Go.Proofs.YtegmjmdkhbibjaaGreat

/- Contracts: hull.Hull, hull.Area. -/
namespace Go.Proofs.YtegmjmdkhbibjaaGreat
open Go Go.V Go.RowKit
end Go.Proofs.YtegmjmdkhbibjaaGreat

/- Plain geometry: the eight-sided hull. -/
namespace Go.Proofs.YtegmjmdkhbibjaaGreat
open Go
def fX (p : Pt) : Int := p.1
def fY (p : Pt) : Int := p.2
def fS (p : Pt) : Int := p.1 + p.2
def fD (p : Pt) : Int := p.1 - p.2
/-- Eight bounds. -/
structure B8 where
  (a b c d s t u v : Int)
def b8 (p : List Pt) : B8 := ⟨loB fX p, hiB fX p, loB fY p, hiB fY p, loB fS p, hiB fS p, loB fD p, hiB fD p⟩
def B8.has (B : B8) (x : Pt) : Prop := B.a ≤ x.1 ∧ x.1 ≤ B.b ∧ B.c ≤ x.2 ∧ x.2 ≤ B.d ∧ B.s ≤ x.1 + x.2 ∧ x.1 + x.2 ≤ B.t ∧ B.u ≤ x.1 - x.2 ∧ x.1 - x.2 ≤ B.v
/-- The bounds are met. -/
structure B8.Met (B : B8) : Prop where
  a : ∃ x, B.has x ∧ x.1 = B.a
  b : ∃ x, B.has x ∧ x.1 = B.b
  c : ∃ x, B.has x ∧ x.2 = B.c
  d : ∃ x, B.has x ∧ x.2 = B.d
  s : ∃ x, B.has x ∧ x.1 + x.2 = B.s
  t : ∃ x, B.has x ∧ x.1 + x.2 = B.t
  u : ∃ x, B.has x ∧ x.1 - x.2 = B.u
  v : ∃ x, B.has x ∧ x.1 - x.2 = B.v
/-- The corners of the eight sides. -/
def B8.pts (B : B8) : List Pt := [(B.a, B.s - B.a), (B.a, B.a - B.u), (B.b, B.b - B.v), (B.b, B.t - B.b), (B.s - B.c, B.c), (B.c + B.v, B.c), (B.d + B.u, B.d), (B.t - B.d, B.d)]
/-- The same, as the program reckons them. -/
def B8.ptsP (B : B8) : List Pt := [(B.a, max (max B.c (B.s - B.a)) (B.a - B.v)), (B.a, min (min B.d (B.t - B.a)) (B.a - B.u)), (B.b, max (max B.c (B.s - B.b)) (B.b - B.v)), (B.b, min (min B.d (B.t - B.b)) (B.b - B.u)),
  (max (max B.a (B.s - B.c)) (B.c + B.u), B.c), (min (min B.b (B.t - B.c)) (B.c + B.v), B.c), (max (max B.a (B.s - B.d)) (B.d + B.u), B.d), (min (min B.b (B.t - B.d)) (B.d + B.v), B.d)]
/-- What the bounds say of one another. -/
structure B8.In (B : B8) : Prop where
  h1 : B.a ≤ B.b ∧ B.c ≤ B.d ∧ B.s ≤ B.t ∧ B.u ≤ B.v
  h2 : B.a + B.c ≤ B.s ∧ 2 * B.a ≤ B.s + B.v ∧ B.s ≤ B.a + B.d
  h3 : B.a ≤ B.d + B.u ∧ 2 * B.a ≤ B.t + B.u ∧ B.c ≤ B.a - B.u
  h4 : B.c + B.v ≤ B.b ∧ B.s + B.v ≤ 2 * B.b ∧ B.b - B.v ≤ B.d
  h5 : B.t - B.d ≤ B.b ∧ B.t + B.u ≤ 2 * B.b ∧ B.b + B.c ≤ B.t
  h6 : 2 * B.c ≤ B.s - B.u ∧ B.s - B.c ≤ B.b
  h7 : 2 * B.c ≤ B.t - B.v ∧ B.a ≤ B.c + B.v
  h8 : B.s - B.u ≤ 2 * B.d ∧ B.d + B.u ≤ B.b
  h9 : B.t - B.v ≤ 2 * B.d ∧ B.a ≤ B.t - B.d
  h10 : B.s + B.u ≤ 2 * B.a ∧ 2 * B.b ≤ B.t + B.v
  h11 : B.s - B.v ≤ 2 * B.c ∧ 2 * B.d ≤ B.t - B.u
theorem B8.Met.in {B : B8} (h : B.Met) : B.In := by
  obtain ⟨⟨xa, ha, ea⟩, ⟨xb, hb, eb⟩, ⟨xc, hc, ec⟩, ⟨xd, hd, ed⟩, ⟨xs, hs, es⟩, ⟨xt, ht, et⟩, ⟨xu, hu, eu⟩, ⟨xv, hv, ev⟩⟩ := h
  unfold B8.has at *
  constructor <;> omega
theorem B8.In.eq {B : B8} (h : B.In) : B.ptsP = B.pts := by
  obtain ⟨h1, h2, h3, h4, h5, h6, h7, h8, h9, h10, h11⟩ := h
  unfold B8.ptsP B8.pts
  have e1 : max (max B.c (B.s - B.a)) (B.a - B.v) = B.s - B.a := by omega
  have e2 : min (min B.d (B.t - B.a)) (B.a - B.u) = B.a - B.u := by omega
  have e3 : max (max B.c (B.s - B.b)) (B.b - B.v) = B.b - B.v := by omega
  have e4 : min (min B.d (B.t - B.b)) (B.b - B.u) = B.t - B.b := by omega
  have e5 : max (max B.a (B.s - B.c)) (B.c + B.u) = B.s - B.c := by omega
  have e6 : min (min B.b (B.t - B.c)) (B.c + B.v) = B.c + B.v := by omega
  have e7 : max (max B.a (B.s - B.d)) (B.d + B.u) = B.d + B.u := by omega
  have e8 : min (min B.b (B.t - B.d)) (B.d + B.v) = B.t - B.d := by omega
  rw [e1, e2, e3, e4, e5, e6, e7, e8]
end Go.Proofs.YtegmjmdkhbibjaaGreat

/- Contract: hull.Eight. -/
namespace Go.Proofs.YtegmjmdkhbibjaaGreat
open Go Go.V Go.RowKit
end Go.Proofs.YtegmjmdkhbibjaaGreat

/- Contracts: the reference's hull. -/
namespace Go.Proofs.YtegmjmdkhbibjaaGreat
open Go Go.V Go.RowKit
end Go.Proofs.YtegmjmdkhbibjaaGreat

/- Contracts: the reference's hull, joined. -/
namespace Go.Proofs.YtegmjmdkhbibjaaGreat
open Go Go.V Go.RowKit
end Go.Proofs.YtegmjmdkhbibjaaGreat

/- Contracts: the reference's Hull, Has, Box, Eight, Area. -/
namespace Go.Proofs.YtegmjmdkhbibjaaGreat
open Go Go.V Go.RowKit
end Go.Proofs.YtegmjmdkhbibjaaGreat

/- Contracts: the reference's Corners, Box, Octagon, Eight, Area. -/
namespace Go.Proofs.YtegmjmdkhbibjaaGreat
open Go Go.V Go.RowKit
end Go.Proofs.YtegmjmdkhbibjaaGreat

/- Contracts: the same, with the value given; the statements' examples. -/
namespace Go.Proofs.YtegmjmdkhbibjaaGreat
open Go Go.V Go.RowKit
def two : List Pt := [(0, 0), (5, 1)]
end Go.Proofs.YtegmjmdkhbibjaaGreat

/- Plain geometry in rational numbers: a place slides along a line, up to the first edge. -/
namespace Go.Proofs.YtegmjmdkhbibjaaGreat
open Go
/-- An affine function. -/
structure Lin where
  (a b c : Rat)
abbrev P2 := Rat × Rat
def Lin.at (f : Lin) (z : P2) : Rat := f.a * z.1 + f.b * z.2 + f.c
def mvP (z v : P2) (t : Rat) : P2 := (z.1 + t * v.1, z.2 + t * v.2)
def q2 (p : Pt) : P2 := ((p.1 : Rat), (p.2 : Rat))
/-- A side. -/
def vecQ (a b : Pt) : P2 := ((b.1 : Rat) - a.1, (b.2 : Rat) - a.2)
def segQ (a b : Pt) (s : Rat) : P2 := mvP (q2 a) (vecQ a b) s
end Go.Proofs.YtegmjmdkhbibjaaGreat

/- Contract: the examples at the head of the hull's laws. -/
namespace Go.Proofs.YtegmjmdkhbibjaaGreat
open Go Go.V Go.RowKit
end Go.Proofs.YtegmjmdkhbibjaaGreat

/- HullMatchesReference: all functions of package hull return what the reference returns. No conditions beyond the statement's own. -/
namespace Go.Proofs.YtegmjmdkhbibjaaGreat
open Go Go.V Go.RowKit
end Go.Proofs.YtegmjmdkhbibjaaGreat
namespace Go.Proofs.YtegmjmdkhbibjaaGreat.hullMatchesReference
open Go Go.V Go.RowKit
end Go.Proofs.YtegmjmdkhbibjaaGreat.hullMatchesReference

/- What a hull's result says; more contracts with the value given. -/
namespace Go.Proofs.YtegmjmdkhbibjaaGreat
open Go Go.V Go.RowKit
end Go.Proofs.YtegmjmdkhbibjaaGreat

/- Plain geometry in rational numbers: polygons and their edges; what two polygons have in common, and what a half-plane leaves of one. -/
namespace Go.Proofs.YtegmjmdkhbibjaaGreat
open Go
def nx (p : List Pt) (i : Nat) : Pt := gp p ((i + 1) % p.length)
/-! ### Two corners -/
end Go.Proofs.YtegmjmdkhbibjaaGreat

/- Plain geometry: what two polygons have in common is in the hull of the corners and crossings that they share; what a half-plane leaves of one. -/
namespace Go.Proofs.YtegmjmdkhbibjaaGreat
open Go
def crossesB (s t : Int) : Bool := (decide (s < 0) && decide (0 < t)) || (decide (0 < s) && decide (t < 0))
/-- Sides of two polygons cross. -/
def crossIJ (p q : List Pt) (i j : Nat) : Bool := crossesB (crossP (gp p i) (nx p i) (gp q j)) (crossP (gp p i) (nx p i) (nx q j)) && crossesB (crossP (gp q j) (nx q j) (gp p i)) (crossP (gp q j) (nx q j) (nx p i))
theorem crossIJ_comm (p q : List Pt) (i j : Nat) : crossIJ p q i j = crossIJ q p j i := Bool.and_comm _ _
/-- Where a slide along a side ends. -/
structure EndOf (p q : List Pt) (f : Lin) : Prop where
  no1 : ∀ y ∈ p, hasB q y = true → ¬ f.at (q2 y) < 0
  no2 : ∀ y ∈ q, hasB p y = true → ¬ f.at (q2 y) < 0
  no3 : ∀ i j, i < p.length → j < q.length → crossIJ p q i j = true → ∀ r s, segQ (gp p i) (nx p i) s = segQ (gp q j) (nx q j) r → ¬ f.at (segQ (gp p i) (nx p i) s) < 0
theorem EndOf.symm {p q : List Pt} {f : Lin} (h : EndOf p q f) : EndOf q p f :=
  ⟨h.no2, h.no1, fun i j hi hj hc r s e => by rw [e]; exact h.no3 j i hj hi (by rw [crossIJ_comm]; exact hc) s r e.symm⟩
end Go.Proofs.YtegmjmdkhbibjaaGreat

/- Plain geometry: the places around a crossing; hulls of places, or their octagons. -/
namespace Go.Proofs.YtegmjmdkhbibjaaGreat
open Go
/-- A quotient, rounded down. -/
def flr (a b : Int) : Int := if 0 < b then a / b else (-a) / (-b)
def hi1 (x y s t : Int) : Int := x - flr (-((y - x) * s)) (s - t)
end Go.Proofs.YtegmjmdkhbibjaaGreat

/- Hulls with any number of corners, plainly; the bounds of lists. -/
namespace Go.Proofs.YtegmjmdkhbibjaaGreat
open Go
end Go.Proofs.YtegmjmdkhbibjaaGreat

/- Package cut, plainly: what is kept, what is shared, and its hull or octagon. -/
namespace Go.Proofs.YtegmjmdkhbibjaaGreat
open Go
end Go.Proofs.YtegmjmdkhbibjaaGreat

/- Package cut, plainly: what a half-plane keeps of a polygon; what two polygons share. -/
namespace Go.Proofs.YtegmjmdkhbibjaaGreat
open Go
/-! ### Two polygons -/
end Go.Proofs.YtegmjmdkhbibjaaGreat
