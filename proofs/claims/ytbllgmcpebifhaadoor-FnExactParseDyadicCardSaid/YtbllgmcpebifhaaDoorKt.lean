/- What the engine is told of the types: written by a program (gen_types.py). -/
import Derived.Test.YtbllgmcpebifhaaDoorKf
import Derived.Test.YtbllgmcpebifhaaDoorProg
namespace Go.Proofs.YtbllgmcpebifhaaDoor.K
open Go
set_option maxRecDepth 100000

instance u0 : Und Tryd.prog 0 (TypeDesc.tuple #[]) := ⟨Tryd.underlying0⟩
instance u1 : Und Tryd.prog 1 (TypeDesc.func #[] #[] false) := ⟨Tryd.underlying1⟩
instance i1 : Inf Tryd.prog 1 .nilFunc 1 8 := ⟨by kernel_rfl⟩
instance u2 : Und Tryd.prog 2 (TypeDesc.int IntKind.i64) := ⟨Tryd.underlying2⟩
instance i2 : Inf Tryd.prog 2 (.int .i64 0) 1 8 := ⟨by kernel_rfl⟩
instance u3 : Und Tryd.prog 3 (TypeDesc.int IntKind.i64) := ⟨Tryd.underlying3⟩
instance i3 : Inf Tryd.prog 3 (.int .i64 0) 1 8 := ⟨by kernel_rfl⟩
instance u4 : Und Tryd.prog 4 (TypeDesc.bool) := ⟨Tryd.underlying4⟩
instance i4 : Inf Tryd.prog 4 (.bool false) 1 1 := ⟨by kernel_rfl⟩
instance u5 : Und Tryd.prog 5 (TypeDesc.int IntKind.u8) := ⟨Tryd.underlying5⟩
instance i5 : Inf Tryd.prog 5 (.int .u8 0) 1 1 := ⟨by kernel_rfl⟩
instance u6 : Und Tryd.prog 6 (TypeDesc.int IntKind.u8) := ⟨Tryd.underlying6⟩
instance i6 : Inf Tryd.prog 6 (.int .u8 0) 1 1 := ⟨by kernel_rfl⟩
instance u7 : Und Tryd.prog 7 (TypeDesc.struct #[{ name := "x", type := 2, offset := 0, embedded := false, tag := "", pkgPath := "runtime", byteOffset := 0 }, { name := "y", type := 3, offset := 1, embedded := false, tag := "", pkgPath := "runtime", byteOffset := 8 }, { name := "signed", type := 4, offset := 2, embedded := false, tag := "", pkgPath := "runtime", byteOffset := 16 }, { name := "code", type := 6, offset := 3, embedded := false, tag := "", pkgPath := "runtime", byteOffset := 17 }]) := ⟨Tryd.underlying7⟩
instance i7 : Inf Tryd.prog 7 (.agg #[(.int .i64 0), (.int .i64 0), (.bool false), (.int .u8 0)]) 4 24 := ⟨by kernel_rfl⟩
instance u8 : Und Tryd.prog 8 (TypeDesc.struct #[{ name := "x", type := 2, offset := 0, embedded := false, tag := "", pkgPath := "runtime", byteOffset := 0 }, { name := "y", type := 3, offset := 1, embedded := false, tag := "", pkgPath := "runtime", byteOffset := 8 }, { name := "signed", type := 4, offset := 2, embedded := false, tag := "", pkgPath := "runtime", byteOffset := 16 }, { name := "code", type := 6, offset := 3, embedded := false, tag := "", pkgPath := "runtime", byteOffset := 17 }]) := ⟨Tryd.underlying8⟩
instance i8 : Inf Tryd.prog 8 (.agg #[(.int .i64 0), (.int .i64 0), (.bool false), (.int .u8 0)]) 4 24 := ⟨by kernel_rfl⟩
instance u9 : Und Tryd.prog 9 (TypeDesc.string) := ⟨Tryd.underlying9⟩
instance i9 : Inf Tryd.prog 9 (.string ⟨#[]⟩) 1 16 := ⟨by kernel_rfl⟩
instance u10 : Und Tryd.prog 10 (TypeDesc.string) := ⟨Tryd.underlying10⟩
instance i10 : Inf Tryd.prog 10 (.string ⟨#[]⟩) 1 16 := ⟨by kernel_rfl⟩
instance u11 : Und Tryd.prog 11 (TypeDesc.string) := ⟨Tryd.underlying11⟩
instance i11 : Inf Tryd.prog 11 (.string ⟨#[]⟩) 1 16 := ⟨by kernel_rfl⟩
instance u12 : Und Tryd.prog 12 (TypeDesc.int IntKind.u64) := ⟨Tryd.underlying12⟩
instance i12 : Inf Tryd.prog 12 (.int .u64 0) 1 8 := ⟨by kernel_rfl⟩
instance u13 : Und Tryd.prog 13 (TypeDesc.struct #[{ name := "msg", type := 9, offset := 0, embedded := false, tag := "", pkgPath := "runtime", byteOffset := 0 }, { name := "addr", type := 12, offset := 1, embedded := false, tag := "", pkgPath := "runtime", byteOffset := 16 }]) := ⟨Tryd.underlying13⟩
instance i13 : Inf Tryd.prog 13 (.agg #[(.string ⟨#[]⟩), (.int .u64 0)]) 2 24 := ⟨by kernel_rfl⟩
instance u14 : Und Tryd.prog 14 (TypeDesc.struct #[{ name := "msg", type := 9, offset := 0, embedded := false, tag := "", pkgPath := "runtime", byteOffset := 0 }, { name := "addr", type := 12, offset := 1, embedded := false, tag := "", pkgPath := "runtime", byteOffset := 16 }]) := ⟨Tryd.underlying14⟩
instance i14 : Inf Tryd.prog 14 (.agg #[(.string ⟨#[]⟩), (.int .u64 0)]) 2 24 := ⟨by kernel_rfl⟩
instance u15 : Und Tryd.prog 15 (TypeDesc.pointer 118) := ⟨Tryd.underlying15⟩
instance i15 : Inf Tryd.prog 15 (.pointer none) 1 8 := ⟨by kernel_rfl⟩
instance u16 : Und Tryd.prog 16 (TypeDesc.pointer 121) := ⟨Tryd.underlying16⟩
instance i16 : Inf Tryd.prog 16 (.pointer none) 1 8 := ⟨by kernel_rfl⟩
instance u17 : Und Tryd.prog 17 (TypeDesc.pointer 128) := ⟨Tryd.underlying17⟩
instance i17 : Inf Tryd.prog 17 (.pointer none) 1 8 := ⟨by kernel_rfl⟩
instance u18 : Und Tryd.prog 18 (TypeDesc.struct #[{ name := "typ", type := 17, offset := 0, embedded := false, tag := "", pkgPath := "internal/runtime/maps", byteOffset := 0 }]) := ⟨Tryd.underlying18⟩
instance i18 : Inf Tryd.prog 18 (.agg #[(.pointer none)]) 1 8 := ⟨by kernel_rfl⟩
instance u19 : Und Tryd.prog 19 (TypeDesc.struct #[{ name := "typ", type := 17, offset := 0, embedded := false, tag := "", pkgPath := "internal/runtime/maps", byteOffset := 0 }]) := ⟨Tryd.underlying19⟩
instance i19 : Inf Tryd.prog 19 (.agg #[(.pointer none)]) 1 8 := ⟨by kernel_rfl⟩
instance u20 : Und Tryd.prog 20 (TypeDesc.interface #[]) := ⟨Tryd.underlying20⟩
instance i20 : Inf Tryd.prog 20 .nilIface 1 16 := ⟨by kernel_rfl⟩
instance u21 : Und Tryd.prog 21 (TypeDesc.int IntKind.i32) := ⟨Tryd.underlying21⟩
instance i21 : Inf Tryd.prog 21 (.int .i32 0) 1 4 := ⟨by kernel_rfl⟩
instance u22 : Und Tryd.prog 22 (TypeDesc.slice 2) := ⟨Tryd.underlying22⟩
instance i22 : Inf Tryd.prog 22 (.slice none 0 0) 1 24 := ⟨by kernel_rfl⟩
instance u23 : Und Tryd.prog 23 (TypeDesc.struct #[{ name := "Sign", type := 2, offset := 0, embedded := false, tag := "", pkgPath := "", byteOffset := 0 }, { name := "Limbs", type := 22, offset := 1, embedded := false, tag := "", pkgPath := "", byteOffset := 8 }]) := ⟨Tryd.underlying23⟩
instance i23 : Inf Tryd.prog 23 (.agg #[(.int .i64 0), (.slice none 0 0)]) 2 32 := ⟨by kernel_rfl⟩
instance u24 : Und Tryd.prog 24 (TypeDesc.struct #[{ name := "Sign", type := 2, offset := 0, embedded := false, tag := "", pkgPath := "", byteOffset := 0 }, { name := "Limbs", type := 22, offset := 1, embedded := false, tag := "", pkgPath := "", byteOffset := 8 }]) := ⟨Tryd.underlying24⟩
instance i24 : Inf Tryd.prog 24 (.agg #[(.int .i64 0), (.slice none 0 0)]) 2 32 := ⟨by kernel_rfl⟩
instance u25 : Und Tryd.prog 25 (TypeDesc.struct #[{ name := "Whole", type := 24, offset := 0, embedded := false, tag := "", pkgPath := "", byteOffset := 0 }, { name := "Exponent", type := 2, offset := 2, embedded := false, tag := "", pkgPath := "", byteOffset := 32 }]) := ⟨Tryd.underlying25⟩
instance i25 : Inf Tryd.prog 25 (.agg #[(.int .i64 0), (.slice none 0 0), (.int .i64 0)]) 3 40 := ⟨by kernel_rfl⟩
instance u26 : Und Tryd.prog 26 (TypeDesc.struct #[{ name := "Whole", type := 24, offset := 0, embedded := false, tag := "", pkgPath := "", byteOffset := 0 }, { name := "Exponent", type := 2, offset := 2, embedded := false, tag := "", pkgPath := "", byteOffset := 32 }]) := ⟨Tryd.underlying26⟩
instance i26 : Inf Tryd.prog 26 (.agg #[(.int .i64 0), (.slice none 0 0), (.int .i64 0)]) 3 40 := ⟨by kernel_rfl⟩
instance u27 : Und Tryd.prog 27 (TypeDesc.tuple #[26, 2]) := ⟨Tryd.underlying27⟩
instance u28 : Und Tryd.prog 28 (TypeDesc.func #[9] #[26, 2] false) := ⟨Tryd.underlying28⟩
instance i28 : Inf Tryd.prog 28 .nilFunc 1 8 := ⟨by kernel_rfl⟩
instance u29 : Und Tryd.prog 29 (TypeDesc.func #[26, 26] #[4] false) := ⟨Tryd.underlying29⟩
instance i29 : Inf Tryd.prog 29 .nilFunc 1 8 := ⟨by kernel_rfl⟩
instance u30 : Und Tryd.prog 30 (TypeDesc.func #[26, 3] #[3] false) := ⟨Tryd.underlying30⟩
instance i30 : Inf Tryd.prog 30 .nilFunc 1 8 := ⟨by kernel_rfl⟩
instance u31 : Und Tryd.prog 31 (TypeDesc.func #[9] #[4] false) := ⟨Tryd.underlying31⟩
instance i31 : Inf Tryd.prog 31 .nilFunc 1 8 := ⟨by kernel_rfl⟩
instance u32 : Und Tryd.prog 32 (TypeDesc.tuple #[26, 4]) := ⟨Tryd.underlying32⟩
instance u33 : Und Tryd.prog 33 (TypeDesc.func #[9] #[26, 4] false) := ⟨Tryd.underlying33⟩
instance i33 : Inf Tryd.prog 33 .nilFunc 1 8 := ⟨by kernel_rfl⟩
instance u34 : Und Tryd.prog 34 (TypeDesc.tuple #[9, 9, 4]) := ⟨Tryd.underlying34⟩
instance u35 : Und Tryd.prog 35 (TypeDesc.func #[9, 9] #[9, 9, 4] false) := ⟨Tryd.underlying35⟩
instance i35 : Inf Tryd.prog 35 .nilFunc 1 8 := ⟨by kernel_rfl⟩
instance u36 : Und Tryd.prog 36 (TypeDesc.tuple #[24, 2]) := ⟨Tryd.underlying36⟩
instance u37 : Und Tryd.prog 37 (TypeDesc.func #[9] #[24, 2] false) := ⟨Tryd.underlying37⟩
instance i37 : Inf Tryd.prog 37 .nilFunc 1 8 := ⟨by kernel_rfl⟩
instance u38 : Und Tryd.prog 38 ((TypeDesc.interface #[("Error", 43)])) := ⟨Tryd.underlying38⟩
instance i38 : Inf Tryd.prog 38 .nilIface 1 16 := ⟨by kernel_rfl⟩
instance u39 : Und Tryd.prog 39 ((TypeDesc.interface #[("Error", 43)])) := ⟨Tryd.underlying39⟩
instance i39 : Inf Tryd.prog 39 .nilIface 1 16 := ⟨by kernel_rfl⟩
instance u40 : Und Tryd.prog 40 (TypeDesc.tuple #[2, 39]) := ⟨Tryd.underlying40⟩
instance u41 : Und Tryd.prog 41 (TypeDesc.func #[9, 3, 3] #[2, 39] false) := ⟨Tryd.underlying41⟩
instance i41 : Inf Tryd.prog 41 .nilFunc 1 8 := ⟨by kernel_rfl⟩
instance u42 : Und Tryd.prog 42 (TypeDesc.func #[26] #[4] false) := ⟨Tryd.underlying42⟩
instance i42 : Inf Tryd.prog 42 .nilFunc 1 8 := ⟨by kernel_rfl⟩
instance u43 : Und Tryd.prog 43 (TypeDesc.func #[] #[9] false) := ⟨Tryd.underlying43⟩
instance i43 : Inf Tryd.prog 43 .nilFunc 1 8 := ⟨by kernel_rfl⟩
instance u44 : Und Tryd.prog 44 (TypeDesc.func #[24, 24] #[4] false) := ⟨Tryd.underlying44⟩
instance i44 : Inf Tryd.prog 44 .nilFunc 1 8 := ⟨by kernel_rfl⟩
instance u45 : Und Tryd.prog 45 (TypeDesc.func #[24, 3] #[3] false) := ⟨Tryd.underlying45⟩
instance i45 : Inf Tryd.prog 45 .nilFunc 1 8 := ⟨by kernel_rfl⟩
instance u46 : Und Tryd.prog 46 (TypeDesc.tuple #[24, 4]) := ⟨Tryd.underlying46⟩
instance u47 : Und Tryd.prog 47 (TypeDesc.func #[9] #[24, 4] false) := ⟨Tryd.underlying47⟩
instance i47 : Inf Tryd.prog 47 .nilFunc 1 8 := ⟨by kernel_rfl⟩
instance u48 : Und Tryd.prog 48 (TypeDesc.func #[24] #[4] false) := ⟨Tryd.underlying48⟩
instance i48 : Inf Tryd.prog 48 .nilFunc 1 8 := ⟨by kernel_rfl⟩
instance u49 : Und Tryd.prog 49 (TypeDesc.pointer 63) := ⟨Tryd.underlying49⟩
instance i49 : Inf Tryd.prog 49 (.pointer none) 1 8 := ⟨by kernel_rfl⟩
instance u50 : Und Tryd.prog 50 (TypeDesc.tuple #[49, 4]) := ⟨Tryd.underlying50⟩
instance u51 : Und Tryd.prog 51 (TypeDesc.func #[9] #[49, 4] false) := ⟨Tryd.underlying51⟩
instance i51 : Inf Tryd.prog 51 .nilFunc 1 8 := ⟨by kernel_rfl⟩
instance u52 : Und Tryd.prog 52 (TypeDesc.func #[49] #[24, 2] false) := ⟨Tryd.underlying52⟩
instance i52 : Inf Tryd.prog 52 .nilFunc 1 8 := ⟨by kernel_rfl⟩
instance u53 : Und Tryd.prog 53 (TypeDesc.func #[9, 9, 3, 3, 39] #[39] false) := ⟨Tryd.underlying53⟩
instance i53 : Inf Tryd.prog 53 .nilFunc 1 8 := ⟨by kernel_rfl⟩
instance u54 : Und Tryd.prog 54 (TypeDesc.func #[2, 2, 2] #[4] false) := ⟨Tryd.underlying54⟩
instance i54 : Inf Tryd.prog 54 .nilFunc 1 8 := ⟨by kernel_rfl⟩
instance u55 : Und Tryd.prog 55 (TypeDesc.func #[] #[49] false) := ⟨Tryd.underlying55⟩
instance i55 : Inf Tryd.prog 55 .nilFunc 1 8 := ⟨by kernel_rfl⟩
instance u56 : Und Tryd.prog 56 (TypeDesc.func #[2, 3] #[9] false) := ⟨Tryd.underlying56⟩
instance i56 : Inf Tryd.prog 56 .nilFunc 1 8 := ⟨by kernel_rfl⟩
instance u57 : Und Tryd.prog 57 (TypeDesc.func #[22, 22] #[4] false) := ⟨Tryd.underlying57⟩
instance i57 : Inf Tryd.prog 57 .nilFunc 1 8 := ⟨by kernel_rfl⟩
instance u58 : Und Tryd.prog 58 (TypeDesc.func #[22, 3] #[3] false) := ⟨Tryd.underlying58⟩
instance i58 : Inf Tryd.prog 58 .nilFunc 1 8 := ⟨by kernel_rfl⟩
instance u59 : Und Tryd.prog 59 (TypeDesc.func #[2, 22] #[24] false) := ⟨Tryd.underlying59⟩
instance i59 : Inf Tryd.prog 59 .nilFunc 1 8 := ⟨by kernel_rfl⟩
instance u60 : Und Tryd.prog 60 (TypeDesc.func #[9, 9] #[3] false) := ⟨Tryd.underlying60⟩
instance i60 : Inf Tryd.prog 60 .nilFunc 1 8 := ⟨by kernel_rfl⟩
instance u61 : Und Tryd.prog 61 (TypeDesc.slice 80) := ⟨Tryd.underlying61⟩
instance i61 : Inf Tryd.prog 61 (.slice none 0 0) 1 24 := ⟨by kernel_rfl⟩
instance u62 : Und Tryd.prog 62 (TypeDesc.struct #[{ name := "neg", type := 4, offset := 0, embedded := false, tag := "", pkgPath := "loop.example/g01156/impl", byteOffset := 0 }, { name := "mag", type := 61, offset := 1, embedded := false, tag := "", pkgPath := "loop.example/g01156/impl", byteOffset := 8 }]) := ⟨Tryd.underlying62⟩
instance i62 : Inf Tryd.prog 62 (.agg #[(.bool false), (.slice none 0 0)]) 2 32 := ⟨by kernel_rfl⟩
instance u63 : Und Tryd.prog 63 (TypeDesc.struct #[{ name := "neg", type := 4, offset := 0, embedded := false, tag := "", pkgPath := "loop.example/g01156/impl", byteOffset := 0 }, { name := "mag", type := 61, offset := 1, embedded := false, tag := "", pkgPath := "loop.example/g01156/impl", byteOffset := 8 }]) := ⟨Tryd.underlying63⟩
instance i63 : Inf Tryd.prog 63 (.agg #[(.bool false), (.slice none 0 0)]) 2 32 := ⟨by kernel_rfl⟩
instance u64 : Und Tryd.prog 64 (TypeDesc.func #[2] #[49] false) := ⟨Tryd.underlying64⟩
instance i64 : Inf Tryd.prog 64 .nilFunc 1 8 := ⟨by kernel_rfl⟩
instance u65 : Und Tryd.prog 65 (TypeDesc.func #[49, 49] #[49] false) := ⟨Tryd.underlying65⟩
instance i65 : Inf Tryd.prog 65 .nilFunc 1 8 := ⟨by kernel_rfl⟩
instance u66 : Und Tryd.prog 66 (TypeDesc.func #[4, 61] #[49] false) := ⟨Tryd.underlying66⟩
instance i66 : Inf Tryd.prog 66 .nilFunc 1 8 := ⟨by kernel_rfl⟩
instance u67 : Und Tryd.prog 67 (TypeDesc.func #[] #[3] false) := ⟨Tryd.underlying67⟩
instance i67 : Inf Tryd.prog 67 .nilFunc 1 8 := ⟨by kernel_rfl⟩
instance u68 : Und Tryd.prog 68 (TypeDesc.func #[49] #[49] false) := ⟨Tryd.underlying68⟩
instance i68 : Inf Tryd.prog 68 .nilFunc 1 8 := ⟨by kernel_rfl⟩
instance u69 : Und Tryd.prog 69 (TypeDesc.func #[49, 70] #[49] false) := ⟨Tryd.underlying69⟩
instance i69 : Inf Tryd.prog 69 .nilFunc 1 8 := ⟨by kernel_rfl⟩
instance u70 : Und Tryd.prog 70 (TypeDesc.int IntKind.u64) := ⟨Tryd.underlying70⟩
instance i70 : Inf Tryd.prog 70 (.int .u64 0) 1 8 := ⟨by kernel_rfl⟩
instance u71 : Und Tryd.prog 71 (TypeDesc.func #[] #[2] false) := ⟨Tryd.underlying71⟩
instance i71 : Inf Tryd.prog 71 .nilFunc 1 8 := ⟨by kernel_rfl⟩
instance u72 : Und Tryd.prog 72 (TypeDesc.int IntKind.i64) := ⟨Tryd.underlying72⟩
instance i72 : Inf Tryd.prog 72 (.int .i64 0) 1 8 := ⟨by kernel_rfl⟩
instance u73 : Und Tryd.prog 73 (TypeDesc.int IntKind.u64) := ⟨Tryd.underlying73⟩
instance i73 : Inf Tryd.prog 73 (.int .u64 0) 1 8 := ⟨by kernel_rfl⟩
instance u74 : Und Tryd.prog 74 (TypeDesc.tuple #[73, 39]) := ⟨Tryd.underlying74⟩
instance u75 : Und Tryd.prog 75 (TypeDesc.func #[9, 3, 3] #[73, 39] false) := ⟨Tryd.underlying75⟩
instance i75 : Inf Tryd.prog 75 .nilFunc 1 8 := ⟨by kernel_rfl⟩
instance u76 : Und Tryd.prog 76 (TypeDesc.pointer 95) := ⟨Tryd.underlying76⟩
instance i76 : Inf Tryd.prog 76 (.pointer none) 1 8 := ⟨by kernel_rfl⟩
instance u77 : Und Tryd.prog 77 (TypeDesc.func #[9, 9] #[76] false) := ⟨Tryd.underlying77⟩
instance i77 : Inf Tryd.prog 77 .nilFunc 1 8 := ⟨by kernel_rfl⟩
instance u78 : Und Tryd.prog 78 (TypeDesc.func #[9, 9, 3] #[76] false) := ⟨Tryd.underlying78⟩
instance i78 : Inf Tryd.prog 78 .nilFunc 1 8 := ⟨by kernel_rfl⟩
instance u79 : Und Tryd.prog 79 (TypeDesc.slice 5) := ⟨Tryd.underlying79⟩
instance i79 : Inf Tryd.prog 79 (.slice none 0 0) 1 24 := ⟨by kernel_rfl⟩
instance u80 : Und Tryd.prog 80 (TypeDesc.int IntKind.u32) := ⟨Tryd.underlying80⟩
instance i80 : Inf Tryd.prog 80 (.int .u32 0) 1 4 := ⟨by kernel_rfl⟩
instance u81 : Und Tryd.prog 81 (TypeDesc.tuple #[61, 61]) := ⟨Tryd.underlying81⟩
instance u82 : Und Tryd.prog 82 (TypeDesc.func #[61, 61] #[61, 61] false) := ⟨Tryd.underlying82⟩
instance i82 : Inf Tryd.prog 82 .nilFunc 1 8 := ⟨by kernel_rfl⟩
instance u83 : Und Tryd.prog 83 (TypeDesc.func #[61] #[61] false) := ⟨Tryd.underlying83⟩
instance i83 : Inf Tryd.prog 83 .nilFunc 1 8 := ⟨by kernel_rfl⟩
instance u84 : Und Tryd.prog 84 (TypeDesc.func #[79] #[] false) := ⟨Tryd.underlying84⟩
instance i84 : Inf Tryd.prog 84 .nilFunc 1 8 := ⟨by kernel_rfl⟩
instance u85 : Und Tryd.prog 85 (TypeDesc.func #[22] #[22] false) := ⟨Tryd.underlying85⟩
instance i85 : Inf Tryd.prog 85 .nilFunc 1 8 := ⟨by kernel_rfl⟩
instance u86 : Und Tryd.prog 86 (TypeDesc.func #[9, 5] #[3] false) := ⟨Tryd.underlying86⟩
instance i86 : Inf Tryd.prog 86 .nilFunc 1 8 := ⟨by kernel_rfl⟩
instance u87 : Und Tryd.prog 87 (TypeDesc.func #[3] #[3] false) := ⟨Tryd.underlying87⟩
instance i87 : Inf Tryd.prog 87 .nilFunc 1 8 := ⟨by kernel_rfl⟩
instance u88 : Und Tryd.prog 88 (TypeDesc.func #[49, 49, 4] #[49] false) := ⟨Tryd.underlying88⟩
instance i88 : Inf Tryd.prog 88 .nilFunc 1 8 := ⟨by kernel_rfl⟩
instance u89 : Und Tryd.prog 89 (TypeDesc.func #[80] #[3] false) := ⟨Tryd.underlying89⟩
instance i89 : Inf Tryd.prog 89 .nilFunc 1 8 := ⟨by kernel_rfl⟩
instance u90 : Und Tryd.prog 90 (TypeDesc.func #[] #[70] false) := ⟨Tryd.underlying90⟩
instance i90 : Inf Tryd.prog 90 .nilFunc 1 8 := ⟨by kernel_rfl⟩
instance u91 : Und Tryd.prog 91 (TypeDesc.func #[61, 61] #[61] false) := ⟨Tryd.underlying91⟩
instance i91 : Inf Tryd.prog 91 .nilFunc 1 8 := ⟨by kernel_rfl⟩
instance u92 : Und Tryd.prog 92 (TypeDesc.func #[5] #[5] false) := ⟨Tryd.underlying92⟩
instance i92 : Inf Tryd.prog 92 .nilFunc 1 8 := ⟨by kernel_rfl⟩
instance u93 : Und Tryd.prog 93 (TypeDesc.func #[9] #[9] false) := ⟨Tryd.underlying93⟩
instance i93 : Inf Tryd.prog 93 .nilFunc 1 8 := ⟨by kernel_rfl⟩
instance u94 : Und Tryd.prog 94 (TypeDesc.struct #[{ name := "Func", type := 9, offset := 0, embedded := false, tag := "", pkgPath := "", byteOffset := 0 }, { name := "Num", type := 9, offset := 1, embedded := false, tag := "", pkgPath := "", byteOffset := 16 }, { name := "Err", type := 39, offset := 2, embedded := false, tag := "", pkgPath := "", byteOffset := 32 }]) := ⟨Tryd.underlying94⟩
instance i94 : Inf Tryd.prog 94 (.agg #[(.string ⟨#[]⟩), (.string ⟨#[]⟩), .nilIface]) 3 48 := ⟨by kernel_rfl⟩
instance u95 : Und Tryd.prog 95 (TypeDesc.struct #[{ name := "Func", type := 9, offset := 0, embedded := false, tag := "", pkgPath := "", byteOffset := 0 }, { name := "Num", type := 9, offset := 1, embedded := false, tag := "", pkgPath := "", byteOffset := 16 }, { name := "Err", type := 39, offset := 2, embedded := false, tag := "", pkgPath := "", byteOffset := 32 }]) := ⟨Tryd.underlying95⟩
instance i95 : Inf Tryd.prog 95 (.agg #[(.string ⟨#[]⟩), (.string ⟨#[]⟩), .nilIface]) 3 48 := ⟨by kernel_rfl⟩
instance u96 : Und Tryd.prog 96 (TypeDesc.func #[9] #[39] false) := ⟨Tryd.underlying96⟩
instance i96 : Inf Tryd.prog 96 .nilFunc 1 8 := ⟨by kernel_rfl⟩
instance u97 : Und Tryd.prog 97 (TypeDesc.func #[3] #[9] false) := ⟨Tryd.underlying97⟩
instance i97 : Inf Tryd.prog 97 .nilFunc 1 8 := ⟨by kernel_rfl⟩
instance u98 : Und Tryd.prog 98 (TypeDesc.func #[61, 61] #[3] false) := ⟨Tryd.underlying98⟩
instance i98 : Inf Tryd.prog 98 .nilFunc 1 8 := ⟨by kernel_rfl⟩
instance u99 : Und Tryd.prog 99 (TypeDesc.array 24 5) := ⟨Tryd.underlying99⟩
instance i99 : Inf Tryd.prog 99 (.agg #[(.int .u8 0), (.int .u8 0), (.int .u8 0), (.int .u8 0), (.int .u8 0), (.int .u8 0), (.int .u8 0), (.int .u8 0), (.int .u8 0), (.int .u8 0), (.int .u8 0), (.int .u8 0), (.int .u8 0), (.int .u8 0), (.int .u8 0), (.int .u8 0), (.int .u8 0), (.int .u8 0), (.int .u8 0), (.int .u8 0), (.int .u8 0), (.int .u8 0), (.int .u8 0), (.int .u8 0)]) 24 24 := ⟨by kernel_rfl⟩
instance u100 : Und Tryd.prog 100 (TypeDesc.func #[73] #[3] false) := ⟨Tryd.underlying100⟩
instance i100 : Inf Tryd.prog 100 .nilFunc 1 8 := ⟨by kernel_rfl⟩
instance u101 : Und Tryd.prog 101 (TypeDesc.func #[79, 73] #[] false) := ⟨Tryd.underlying101⟩
instance i101 : Inf Tryd.prog 101 .nilFunc 1 8 := ⟨by kernel_rfl⟩
instance u102 : Und Tryd.prog 102 (TypeDesc.tuple #[79, 9]) := ⟨Tryd.underlying102⟩
instance u103 : Und Tryd.prog 103 (TypeDesc.func #[79, 73, 3, 4, 4] #[79, 9] false) := ⟨Tryd.underlying103⟩
instance i103 : Inf Tryd.prog 103 .nilFunc 1 8 := ⟨by kernel_rfl⟩
instance u104 : Und Tryd.prog 104 (TypeDesc.tuple #[80, 80]) := ⟨Tryd.underlying104⟩
instance u105 : Und Tryd.prog 105 (TypeDesc.func #[9] #[80, 80] false) := ⟨Tryd.underlying105⟩
instance i105 : Inf Tryd.prog 105 .nilFunc 1 8 := ⟨by kernel_rfl⟩
instance u106 : Und Tryd.prog 106 (TypeDesc.pointer 5) := ⟨Tryd.underlying106⟩
instance i106 : Inf Tryd.prog 106 (.pointer none) 1 8 := ⟨by kernel_rfl⟩
instance u107 : Und Tryd.prog 107 (TypeDesc.pointer 109) := ⟨Tryd.underlying107⟩
instance i107 : Inf Tryd.prog 107 (.pointer none) 1 8 := ⟨by kernel_rfl⟩
instance u108 : Und Tryd.prog 108 (TypeDesc.struct #[{ name := "s", type := 9, offset := 0, embedded := false, tag := "", pkgPath := "errors", byteOffset := 0 }]) := ⟨Tryd.underlying108⟩
instance i108 : Inf Tryd.prog 108 (.agg #[(.string ⟨#[]⟩)]) 1 16 := ⟨by kernel_rfl⟩
instance u109 : Und Tryd.prog 109 (TypeDesc.struct #[{ name := "s", type := 9, offset := 0, embedded := false, tag := "", pkgPath := "errors", byteOffset := 0 }]) := ⟨Tryd.underlying109⟩
instance i109 : Inf Tryd.prog 109 (.agg #[(.string ⟨#[]⟩)]) 1 16 := ⟨by kernel_rfl⟩
instance u110 : Und Tryd.prog 110 (TypeDesc.func #[4] #[3] false) := ⟨Tryd.underlying110⟩
instance i110 : Inf Tryd.prog 110 .nilFunc 1 8 := ⟨by kernel_rfl⟩
instance u111 : Und Tryd.prog 111 (TypeDesc.array 20 73) := ⟨Tryd.underlying111⟩
instance i111 : Inf Tryd.prog 111 (.agg #[(.int .u64 0), (.int .u64 0), (.int .u64 0), (.int .u64 0), (.int .u64 0), (.int .u64 0), (.int .u64 0), (.int .u64 0), (.int .u64 0), (.int .u64 0), (.int .u64 0), (.int .u64 0), (.int .u64 0), (.int .u64 0), (.int .u64 0), (.int .u64 0), (.int .u64 0), (.int .u64 0), (.int .u64 0), (.int .u64 0)]) 20 160 := ⟨by kernel_rfl⟩
instance u112 : Und Tryd.prog 112 (TypeDesc.array 65 5) := ⟨Tryd.underlying112⟩
instance i112 : Inf Tryd.prog 112 (.agg #[(.int .u8 0), (.int .u8 0), (.int .u8 0), (.int .u8 0), (.int .u8 0), (.int .u8 0), (.int .u8 0), (.int .u8 0), (.int .u8 0), (.int .u8 0), (.int .u8 0), (.int .u8 0), (.int .u8 0), (.int .u8 0), (.int .u8 0), (.int .u8 0), (.int .u8 0), (.int .u8 0), (.int .u8 0), (.int .u8 0), (.int .u8 0), (.int .u8 0), (.int .u8 0), (.int .u8 0), (.int .u8 0), (.int .u8 0), (.int .u8 0), (.int .u8 0), (.int .u8 0), (.int .u8 0), (.int .u8 0), (.int .u8 0), (.int .u8 0), (.int .u8 0), (.int .u8 0), (.int .u8 0), (.int .u8 0), (.int .u8 0), (.int .u8 0), (.int .u8 0), (.int .u8 0), (.int .u8 0), (.int .u8 0), (.int .u8 0), (.int .u8 0), (.int .u8 0), (.int .u8 0), (.int .u8 0), (.int .u8 0), (.int .u8 0), (.int .u8 0), (.int .u8 0), (.int .u8 0), (.int .u8 0), (.int .u8 0), (.int .u8 0), (.int .u8 0), (.int .u8 0), (.int .u8 0), (.int .u8 0), (.int .u8 0), (.int .u8 0), (.int .u8 0), (.int .u8 0), (.int .u8 0)]) 65 65 := ⟨by kernel_rfl⟩
instance u113 : Und Tryd.prog 113 (TypeDesc.func #[3] #[4] false) := ⟨Tryd.underlying113⟩
instance i113 : Inf Tryd.prog 113 .nilFunc 1 8 := ⟨by kernel_rfl⟩
instance u114 : Und Tryd.prog 114 (TypeDesc.func #[70] #[3] false) := ⟨Tryd.underlying114⟩
instance i114 : Inf Tryd.prog 114 .nilFunc 1 8 := ⟨by kernel_rfl⟩
instance u115 : Und Tryd.prog 115 (TypeDesc.array 32 5) := ⟨Tryd.underlying115⟩
instance i115 : Inf Tryd.prog 115 (.agg #[(.int .u8 0), (.int .u8 0), (.int .u8 0), (.int .u8 0), (.int .u8 0), (.int .u8 0), (.int .u8 0), (.int .u8 0), (.int .u8 0), (.int .u8 0), (.int .u8 0), (.int .u8 0), (.int .u8 0), (.int .u8 0), (.int .u8 0), (.int .u8 0), (.int .u8 0), (.int .u8 0), (.int .u8 0), (.int .u8 0), (.int .u8 0), (.int .u8 0), (.int .u8 0), (.int .u8 0), (.int .u8 0), (.int .u8 0), (.int .u8 0), (.int .u8 0), (.int .u8 0), (.int .u8 0), (.int .u8 0), (.int .u8 0)]) 32 32 := ⟨by kernel_rfl⟩
instance u116 : Und Tryd.prog 116 (TypeDesc.array 64 5) := ⟨Tryd.underlying116⟩
instance i116 : Inf Tryd.prog 116 (.agg #[(.int .u8 0), (.int .u8 0), (.int .u8 0), (.int .u8 0), (.int .u8 0), (.int .u8 0), (.int .u8 0), (.int .u8 0), (.int .u8 0), (.int .u8 0), (.int .u8 0), (.int .u8 0), (.int .u8 0), (.int .u8 0), (.int .u8 0), (.int .u8 0), (.int .u8 0), (.int .u8 0), (.int .u8 0), (.int .u8 0), (.int .u8 0), (.int .u8 0), (.int .u8 0), (.int .u8 0), (.int .u8 0), (.int .u8 0), (.int .u8 0), (.int .u8 0), (.int .u8 0), (.int .u8 0), (.int .u8 0), (.int .u8 0), (.int .u8 0), (.int .u8 0), (.int .u8 0), (.int .u8 0), (.int .u8 0), (.int .u8 0), (.int .u8 0), (.int .u8 0), (.int .u8 0), (.int .u8 0), (.int .u8 0), (.int .u8 0), (.int .u8 0), (.int .u8 0), (.int .u8 0), (.int .u8 0), (.int .u8 0), (.int .u8 0), (.int .u8 0), (.int .u8 0), (.int .u8 0), (.int .u8 0), (.int .u8 0), (.int .u8 0), (.int .u8 0), (.int .u8 0), (.int .u8 0), (.int .u8 0), (.int .u8 0), (.int .u8 0), (.int .u8 0), (.int .u8 0)]) 64 64 := ⟨by kernel_rfl⟩
instance u117 : Und Tryd.prog 117 (TypeDesc.struct #[{ name := "_interface", type := 17, offset := 0, embedded := false, tag := "", pkgPath := "runtime", byteOffset := 0 }, { name := "concrete", type := 17, offset := 1, embedded := false, tag := "", pkgPath := "runtime", byteOffset := 8 }, { name := "asserted", type := 17, offset := 2, embedded := false, tag := "", pkgPath := "runtime", byteOffset := 16 }, { name := "missingMethod", type := 9, offset := 3, embedded := false, tag := "", pkgPath := "runtime", byteOffset := 24 }]) := ⟨Tryd.underlying117⟩
instance i117 : Inf Tryd.prog 117 (.agg #[(.pointer none), (.pointer none), (.pointer none), (.string ⟨#[]⟩)]) 4 40 := ⟨by kernel_rfl⟩
instance u118 : Und Tryd.prog 118 (TypeDesc.struct #[{ name := "_interface", type := 17, offset := 0, embedded := false, tag := "", pkgPath := "runtime", byteOffset := 0 }, { name := "concrete", type := 17, offset := 1, embedded := false, tag := "", pkgPath := "runtime", byteOffset := 8 }, { name := "asserted", type := 17, offset := 2, embedded := false, tag := "", pkgPath := "runtime", byteOffset := 16 }, { name := "missingMethod", type := 9, offset := 3, embedded := false, tag := "", pkgPath := "runtime", byteOffset := 24 }]) := ⟨Tryd.underlying118⟩
instance i118 : Inf Tryd.prog 118 (.agg #[(.pointer none), (.pointer none), (.pointer none), (.string ⟨#[]⟩)]) 4 40 := ⟨by kernel_rfl⟩
instance u119 : Und Tryd.prog 119 (TypeDesc.array 0 16) := ⟨Tryd.underlying119⟩
instance i119 : Inf Tryd.prog 119 (.agg #[]) 0 0 := ⟨by kernel_rfl⟩
instance u120 : Und Tryd.prog 120 (TypeDesc.struct #[{ name := "_", type := 119, offset := 0, embedded := false, tag := "", pkgPath := "runtime", byteOffset := 0 }]) := ⟨Tryd.underlying120⟩
instance i120 : Inf Tryd.prog 120 (.agg #[]) 0 0 := ⟨by kernel_rfl⟩
instance u121 : Und Tryd.prog 121 (TypeDesc.struct #[{ name := "_", type := 119, offset := 0, embedded := false, tag := "", pkgPath := "runtime", byteOffset := 0 }]) := ⟨Tryd.underlying121⟩
instance i121 : Inf Tryd.prog 121 (.agg #[]) 0 0 := ⟨by kernel_rfl⟩
instance u122 : Und Tryd.prog 122 (TypeDesc.int IntKind.u8) := ⟨Tryd.underlying122⟩
instance i122 : Inf Tryd.prog 122 (.int .u8 0) 1 1 := ⟨by kernel_rfl⟩
instance u123 : Und Tryd.prog 123 (TypeDesc.int IntKind.u8) := ⟨Tryd.underlying123⟩
instance i123 : Inf Tryd.prog 123 (.int .u8 0) 1 1 := ⟨by kernel_rfl⟩
instance u124 : Und Tryd.prog 124 (TypeDesc.func #[129, 129] #[4] false) := ⟨Tryd.underlying124⟩
instance i124 : Inf Tryd.prog 124 .nilFunc 1 8 := ⟨by kernel_rfl⟩
instance u125 : Und Tryd.prog 125 (TypeDesc.int IntKind.i32) := ⟨Tryd.underlying125⟩
instance i125 : Inf Tryd.prog 125 (.int .i32 0) 1 4 := ⟨by kernel_rfl⟩
instance u126 : Und Tryd.prog 126 (TypeDesc.int IntKind.i32) := ⟨Tryd.underlying126⟩
instance i126 : Inf Tryd.prog 126 (.int .i32 0) 1 4 := ⟨by kernel_rfl⟩
instance u127 : Und Tryd.prog 127 (TypeDesc.struct #[{ name := "Size_", type := 12, offset := 0, embedded := false, tag := "", pkgPath := "", byteOffset := 0 }, { name := "PtrBytes", type := 12, offset := 1, embedded := false, tag := "", pkgPath := "", byteOffset := 8 }, { name := "Hash", type := 80, offset := 2, embedded := false, tag := "", pkgPath := "", byteOffset := 16 }, { name := "TFlag", type := 122, offset := 3, embedded := false, tag := "", pkgPath := "", byteOffset := 20 }, { name := "Align_", type := 5, offset := 4, embedded := false, tag := "", pkgPath := "", byteOffset := 21 }, { name := "FieldAlign_", type := 5, offset := 5, embedded := false, tag := "", pkgPath := "", byteOffset := 22 }, { name := "Kind_", type := 123, offset := 6, embedded := false, tag := "", pkgPath := "", byteOffset := 23 }, { name := "Equal", type := 124, offset := 7, embedded := false, tag := "", pkgPath := "", byteOffset := 24 }, { name := "GCData", type := 106, offset := 8, embedded := false, tag := "", pkgPath := "", byteOffset := 32 }, { name := "Str", type := 125, offset := 9, embedded := false, tag := "", pkgPath := "", byteOffset := 40 }, { name := "PtrToThis", type := 126, offset := 10, embedded := false, tag := "", pkgPath := "", byteOffset := 44 }]) := ⟨Tryd.underlying127⟩
instance i127 : Inf Tryd.prog 127 (.agg #[(.int .u64 0), (.int .u64 0), (.int .u32 0), (.int .u8 0), (.int .u8 0), (.int .u8 0), (.int .u8 0), .nilFunc, (.pointer none), (.int .i32 0), (.int .i32 0)]) 11 48 := ⟨by kernel_rfl⟩
instance u128 : Und Tryd.prog 128 (TypeDesc.struct #[{ name := "Size_", type := 12, offset := 0, embedded := false, tag := "", pkgPath := "", byteOffset := 0 }, { name := "PtrBytes", type := 12, offset := 1, embedded := false, tag := "", pkgPath := "", byteOffset := 8 }, { name := "Hash", type := 80, offset := 2, embedded := false, tag := "", pkgPath := "", byteOffset := 16 }, { name := "TFlag", type := 122, offset := 3, embedded := false, tag := "", pkgPath := "", byteOffset := 20 }, { name := "Align_", type := 5, offset := 4, embedded := false, tag := "", pkgPath := "", byteOffset := 21 }, { name := "FieldAlign_", type := 5, offset := 5, embedded := false, tag := "", pkgPath := "", byteOffset := 22 }, { name := "Kind_", type := 123, offset := 6, embedded := false, tag := "", pkgPath := "", byteOffset := 23 }, { name := "Equal", type := 124, offset := 7, embedded := false, tag := "", pkgPath := "", byteOffset := 24 }, { name := "GCData", type := 106, offset := 8, embedded := false, tag := "", pkgPath := "", byteOffset := 32 }, { name := "Str", type := 125, offset := 9, embedded := false, tag := "", pkgPath := "", byteOffset := 40 }, { name := "PtrToThis", type := 126, offset := 10, embedded := false, tag := "", pkgPath := "", byteOffset := 44 }]) := ⟨Tryd.underlying128⟩
instance i128 : Inf Tryd.prog 128 (.agg #[(.int .u64 0), (.int .u64 0), (.int .u32 0), (.int .u8 0), (.int .u8 0), (.int .u8 0), (.int .u8 0), .nilFunc, (.pointer none), (.int .i32 0), (.int .i32 0)]) 11 48 := ⟨by kernel_rfl⟩
instance u129 : Und Tryd.prog 129 (TypeDesc.unsafePointer) := ⟨Tryd.underlying129⟩
instance i129 : Inf Tryd.prog 129 (.pointer none) 1 8 := ⟨by kernel_rfl⟩
end Go.Proofs.YtbllgmcpebifhaaDoor.K
