/- What the engine is told of the types: written by a program (gen_types.py). -/
import Derived.Test.YtohkhofbemfmbaaDoorKf
import Derived.Test.YtohkhofbemfmbaaDoorProg
namespace Go.Proofs.YtohkhofbemfmbaaDoor.K
open Go
set_option maxRecDepth 100000

instance u0 : Und Tryd.prog 0 (TypeDesc.tuple #[]) := ⟨Tryd.underlying0⟩
instance u1 : Und Tryd.prog 1 (TypeDesc.func #[] #[] false) := ⟨Tryd.underlying1⟩
instance i1 : Inf Tryd.prog 1 .nilFunc 1 8 := ⟨by kernel_rfl⟩
instance u2 : Und Tryd.prog 2 (TypeDesc.int IntKind.i64) := ⟨Tryd.underlying2⟩
instance i2 : Inf Tryd.prog 2 (.int .i64 0) 1 8 := ⟨by kernel_rfl⟩
instance u3 : Und Tryd.prog 3 (TypeDesc.int IntKind.i64) := ⟨Tryd.underlying3⟩
instance i3 : Inf Tryd.prog 3 (.int .i64 0) 1 8 := ⟨by kernel_rfl⟩
instance u4 : Und Tryd.prog 4 (TypeDesc.bool) := ⟨Tryd.underlying4⟩
instance i4 : Inf Tryd.prog 4 (.bool false) 1 1 := ⟨by kernel_rfl⟩
instance u5 : Und Tryd.prog 5 (TypeDesc.int IntKind.u8) := ⟨Tryd.underlying5⟩
instance i5 : Inf Tryd.prog 5 (.int .u8 0) 1 1 := ⟨by kernel_rfl⟩
instance u6 : Und Tryd.prog 6 (TypeDesc.int IntKind.u8) := ⟨Tryd.underlying6⟩
instance i6 : Inf Tryd.prog 6 (.int .u8 0) 1 1 := ⟨by kernel_rfl⟩
instance u7 : Und Tryd.prog 7 (TypeDesc.struct #[{ name := "x", type := 2, offset := 0, embedded := false, tag := "", pkgPath := "runtime", byteOffset := 0 }, { name := "y", type := 3, offset := 1, embedded := false, tag := "", pkgPath := "runtime", byteOffset := 8 }, { name := "signed", type := 4, offset := 2, embedded := false, tag := "", pkgPath := "runtime", byteOffset := 16 }, { name := "code", type := 6, offset := 3, embedded := false, tag := "", pkgPath := "runtime", byteOffset := 17 }]) := ⟨Tryd.underlying7⟩
instance i7 : Inf Tryd.prog 7 (.agg #[(.int .i64 0), (.int .i64 0), (.bool false), (.int .u8 0)]) 4 24 := ⟨by kernel_rfl⟩
instance u8 : Und Tryd.prog 8 (TypeDesc.struct #[{ name := "x", type := 2, offset := 0, embedded := false, tag := "", pkgPath := "runtime", byteOffset := 0 }, { name := "y", type := 3, offset := 1, embedded := false, tag := "", pkgPath := "runtime", byteOffset := 8 }, { name := "signed", type := 4, offset := 2, embedded := false, tag := "", pkgPath := "runtime", byteOffset := 16 }, { name := "code", type := 6, offset := 3, embedded := false, tag := "", pkgPath := "runtime", byteOffset := 17 }]) := ⟨Tryd.underlying8⟩
instance i8 : Inf Tryd.prog 8 (.agg #[(.int .i64 0), (.int .i64 0), (.bool false), (.int .u8 0)]) 4 24 := ⟨by kernel_rfl⟩
instance u9 : Und Tryd.prog 9 (TypeDesc.string) := ⟨Tryd.underlying9⟩
instance i9 : Inf Tryd.prog 9 (.string ⟨#[]⟩) 1 16 := ⟨by kernel_rfl⟩
instance u10 : Und Tryd.prog 10 (TypeDesc.string) := ⟨Tryd.underlying10⟩
instance i10 : Inf Tryd.prog 10 (.string ⟨#[]⟩) 1 16 := ⟨by kernel_rfl⟩
instance u11 : Und Tryd.prog 11 (TypeDesc.string) := ⟨Tryd.underlying11⟩
instance i11 : Inf Tryd.prog 11 (.string ⟨#[]⟩) 1 16 := ⟨by kernel_rfl⟩
instance u12 : Und Tryd.prog 12 (TypeDesc.int IntKind.u64) := ⟨Tryd.underlying12⟩
instance i12 : Inf Tryd.prog 12 (.int .u64 0) 1 8 := ⟨by kernel_rfl⟩
instance u13 : Und Tryd.prog 13 (TypeDesc.struct #[{ name := "msg", type := 9, offset := 0, embedded := false, tag := "", pkgPath := "runtime", byteOffset := 0 }, { name := "addr", type := 12, offset := 1, embedded := false, tag := "", pkgPath := "runtime", byteOffset := 16 }]) := ⟨Tryd.underlying13⟩
instance i13 : Inf Tryd.prog 13 (.agg #[(.string ⟨#[]⟩), (.int .u64 0)]) 2 24 := ⟨by kernel_rfl⟩
instance u14 : Und Tryd.prog 14 (TypeDesc.struct #[{ name := "msg", type := 9, offset := 0, embedded := false, tag := "", pkgPath := "runtime", byteOffset := 0 }, { name := "addr", type := 12, offset := 1, embedded := false, tag := "", pkgPath := "runtime", byteOffset := 16 }]) := ⟨Tryd.underlying14⟩
instance i14 : Inf Tryd.prog 14 (.agg #[(.string ⟨#[]⟩), (.int .u64 0)]) 2 24 := ⟨by kernel_rfl⟩
instance u15 : Und Tryd.prog 15 (TypeDesc.pointer 90) := ⟨Tryd.underlying15⟩
instance i15 : Inf Tryd.prog 15 (.pointer none) 1 8 := ⟨by kernel_rfl⟩
instance u16 : Und Tryd.prog 16 (TypeDesc.pointer 93) := ⟨Tryd.underlying16⟩
instance i16 : Inf Tryd.prog 16 (.pointer none) 1 8 := ⟨by kernel_rfl⟩
instance u17 : Und Tryd.prog 17 (TypeDesc.pointer 102) := ⟨Tryd.underlying17⟩
instance i17 : Inf Tryd.prog 17 (.pointer none) 1 8 := ⟨by kernel_rfl⟩
instance u18 : Und Tryd.prog 18 (TypeDesc.struct #[{ name := "typ", type := 17, offset := 0, embedded := false, tag := "", pkgPath := "internal/runtime/maps", byteOffset := 0 }]) := ⟨Tryd.underlying18⟩
instance i18 : Inf Tryd.prog 18 (.agg #[(.pointer none)]) 1 8 := ⟨by kernel_rfl⟩
instance u19 : Und Tryd.prog 19 (TypeDesc.struct #[{ name := "typ", type := 17, offset := 0, embedded := false, tag := "", pkgPath := "internal/runtime/maps", byteOffset := 0 }]) := ⟨Tryd.underlying19⟩
instance i19 : Inf Tryd.prog 19 (.agg #[(.pointer none)]) 1 8 := ⟨by kernel_rfl⟩
instance u20 : Und Tryd.prog 20 (TypeDesc.interface #[]) := ⟨Tryd.underlying20⟩
instance i20 : Inf Tryd.prog 20 .nilIface 1 16 := ⟨by kernel_rfl⟩
instance u21 : Und Tryd.prog 21 (TypeDesc.int IntKind.i32) := ⟨Tryd.underlying21⟩
instance i21 : Inf Tryd.prog 21 (.int .i32 0) 1 4 := ⟨by kernel_rfl⟩
instance u22 : Und Tryd.prog 22 (TypeDesc.slice 2) := ⟨Tryd.underlying22⟩
instance i22 : Inf Tryd.prog 22 (.slice none 0 0) 1 24 := ⟨by kernel_rfl⟩
instance u23 : Und Tryd.prog 23 (TypeDesc.struct #[{ name := "Sign", type := 2, offset := 0, embedded := false, tag := "", pkgPath := "", byteOffset := 0 }, { name := "Limbs", type := 22, offset := 1, embedded := false, tag := "", pkgPath := "", byteOffset := 8 }]) := ⟨Tryd.underlying23⟩
instance i23 : Inf Tryd.prog 23 (.agg #[(.int .i64 0), (.slice none 0 0)]) 2 32 := ⟨by kernel_rfl⟩
instance u24 : Und Tryd.prog 24 (TypeDesc.struct #[{ name := "Sign", type := 2, offset := 0, embedded := false, tag := "", pkgPath := "", byteOffset := 0 }, { name := "Limbs", type := 22, offset := 1, embedded := false, tag := "", pkgPath := "", byteOffset := 8 }]) := ⟨Tryd.underlying24⟩
instance i24 : Inf Tryd.prog 24 (.agg #[(.int .i64 0), (.slice none 0 0)]) 2 32 := ⟨by kernel_rfl⟩
instance u25 : Und Tryd.prog 25 (TypeDesc.struct #[{ name := "Whole", type := 24, offset := 0, embedded := false, tag := "", pkgPath := "", byteOffset := 0 }, { name := "Exponent", type := 2, offset := 2, embedded := false, tag := "", pkgPath := "", byteOffset := 32 }]) := ⟨Tryd.underlying25⟩
instance i25 : Inf Tryd.prog 25 (.agg #[(.int .i64 0), (.slice none 0 0), (.int .i64 0)]) 3 40 := ⟨by kernel_rfl⟩
instance u26 : Und Tryd.prog 26 (TypeDesc.struct #[{ name := "Whole", type := 24, offset := 0, embedded := false, tag := "", pkgPath := "", byteOffset := 0 }, { name := "Exponent", type := 2, offset := 2, embedded := false, tag := "", pkgPath := "", byteOffset := 32 }]) := ⟨Tryd.underlying26⟩
instance i26 : Inf Tryd.prog 26 (.agg #[(.int .i64 0), (.slice none 0 0), (.int .i64 0)]) 3 40 := ⟨by kernel_rfl⟩
instance u27 : Und Tryd.prog 27 (TypeDesc.func #[26, 3] #[3] false) := ⟨Tryd.underlying27⟩
instance i27 : Inf Tryd.prog 27 .nilFunc 1 8 := ⟨by kernel_rfl⟩
instance u28 : Und Tryd.prog 28 (TypeDesc.tuple #[9, 2]) := ⟨Tryd.underlying28⟩
instance u29 : Und Tryd.prog 29 (TypeDesc.func #[32] #[9, 2] false) := ⟨Tryd.underlying29⟩
instance i29 : Inf Tryd.prog 29 .nilFunc 1 8 := ⟨by kernel_rfl⟩
instance u30 : Und Tryd.prog 30 (TypeDesc.struct #[{ name := "Sign", type := 2, offset := 0, embedded := false, tag := "", pkgPath := "", byteOffset := 0 }, { name := "Limbs", type := 22, offset := 1, embedded := false, tag := "", pkgPath := "", byteOffset := 8 }]) := ⟨Tryd.underlying30⟩
instance i30 : Inf Tryd.prog 30 (.agg #[(.int .i64 0), (.slice none 0 0)]) 2 32 := ⟨by kernel_rfl⟩
instance u31 : Und Tryd.prog 31 (TypeDesc.struct #[{ name := "Whole", type := 30, offset := 0, embedded := false, tag := "", pkgPath := "", byteOffset := 0 }, { name := "Exponent", type := 2, offset := 2, embedded := false, tag := "", pkgPath := "", byteOffset := 32 }]) := ⟨Tryd.underlying31⟩
instance i31 : Inf Tryd.prog 31 (.agg #[(.int .i64 0), (.slice none 0 0), (.int .i64 0)]) 3 40 := ⟨by kernel_rfl⟩
instance u32 : Und Tryd.prog 32 (TypeDesc.struct #[{ name := "Whole", type := 30, offset := 0, embedded := false, tag := "", pkgPath := "", byteOffset := 0 }, { name := "Exponent", type := 2, offset := 2, embedded := false, tag := "", pkgPath := "", byteOffset := 32 }]) := ⟨Tryd.underlying32⟩
instance i32 : Inf Tryd.prog 32 (.agg #[(.int .i64 0), (.slice none 0 0), (.int .i64 0)]) 3 40 := ⟨by kernel_rfl⟩
instance u33 : Und Tryd.prog 33 (TypeDesc.func #[26] #[32] false) := ⟨Tryd.underlying33⟩
instance i33 : Inf Tryd.prog 33 .nilFunc 1 8 := ⟨by kernel_rfl⟩
instance u34 : Und Tryd.prog 34 (TypeDesc.func #[32, 32] #[4] false) := ⟨Tryd.underlying34⟩
instance i34 : Inf Tryd.prog 34 .nilFunc 1 8 := ⟨by kernel_rfl⟩
instance u35 : Und Tryd.prog 35 (TypeDesc.func #[26] #[4] false) := ⟨Tryd.underlying35⟩
instance i35 : Inf Tryd.prog 35 .nilFunc 1 8 := ⟨by kernel_rfl⟩
instance u36 : Und Tryd.prog 36 (TypeDesc.func #[24, 3] #[3] false) := ⟨Tryd.underlying36⟩
instance i36 : Inf Tryd.prog 36 .nilFunc 1 8 := ⟨by kernel_rfl⟩
instance u37 : Und Tryd.prog 37 (TypeDesc.func #[32] #[4] false) := ⟨Tryd.underlying37⟩
instance i37 : Inf Tryd.prog 37 .nilFunc 1 8 := ⟨by kernel_rfl⟩
instance u38 : Und Tryd.prog 38 (TypeDesc.func #[32] #[9] false) := ⟨Tryd.underlying38⟩
instance i38 : Inf Tryd.prog 38 .nilFunc 1 8 := ⟨by kernel_rfl⟩
instance u39 : Und Tryd.prog 39 (TypeDesc.func #[24] #[30] false) := ⟨Tryd.underlying39⟩
instance i39 : Inf Tryd.prog 39 .nilFunc 1 8 := ⟨by kernel_rfl⟩
instance u40 : Und Tryd.prog 40 (TypeDesc.func #[] #[9] false) := ⟨Tryd.underlying40⟩
instance i40 : Inf Tryd.prog 40 .nilFunc 1 8 := ⟨by kernel_rfl⟩
instance u41 : Und Tryd.prog 41 (TypeDesc.func #[30, 30] #[4] false) := ⟨Tryd.underlying41⟩
instance i41 : Inf Tryd.prog 41 .nilFunc 1 8 := ⟨by kernel_rfl⟩
instance u42 : Und Tryd.prog 42 (TypeDesc.func #[22, 3] #[3] false) := ⟨Tryd.underlying42⟩
instance i42 : Inf Tryd.prog 42 .nilFunc 1 8 := ⟨by kernel_rfl⟩
instance u43 : Und Tryd.prog 43 (TypeDesc.func #[30] #[4] false) := ⟨Tryd.underlying43⟩
instance i43 : Inf Tryd.prog 43 .nilFunc 1 8 := ⟨by kernel_rfl⟩
instance u44 : Und Tryd.prog 44 (TypeDesc.func #[2, 2, 2] #[4] false) := ⟨Tryd.underlying44⟩
instance i44 : Inf Tryd.prog 44 .nilFunc 1 8 := ⟨by kernel_rfl⟩
instance u45 : Und Tryd.prog 45 (TypeDesc.func #[30] #[9] false) := ⟨Tryd.underlying45⟩
instance i45 : Inf Tryd.prog 45 .nilFunc 1 8 := ⟨by kernel_rfl⟩
instance u46 : Und Tryd.prog 46 (TypeDesc.func #[2] #[30] false) := ⟨Tryd.underlying46⟩
instance i46 : Inf Tryd.prog 46 .nilFunc 1 8 := ⟨by kernel_rfl⟩
instance u47 : Und Tryd.prog 47 (TypeDesc.func #[22] #[22] false) := ⟨Tryd.underlying47⟩
instance i47 : Inf Tryd.prog 47 .nilFunc 1 8 := ⟨by kernel_rfl⟩
instance u48 : Und Tryd.prog 48 (TypeDesc.pointer 56) := ⟨Tryd.underlying48⟩
instance i48 : Inf Tryd.prog 48 (.pointer none) 1 8 := ⟨by kernel_rfl⟩
instance u49 : Und Tryd.prog 49 (TypeDesc.func #[] #[48] false) := ⟨Tryd.underlying49⟩
instance i49 : Inf Tryd.prog 49 .nilFunc 1 8 := ⟨by kernel_rfl⟩
instance u50 : Und Tryd.prog 50 (TypeDesc.func #[2, 3] #[9] false) := ⟨Tryd.underlying50⟩
instance i50 : Inf Tryd.prog 50 .nilFunc 1 8 := ⟨by kernel_rfl⟩
instance u51 : Und Tryd.prog 51 (TypeDesc.func #[22, 22] #[4] false) := ⟨Tryd.underlying51⟩
instance i51 : Inf Tryd.prog 51 .nilFunc 1 8 := ⟨by kernel_rfl⟩
instance u52 : Und Tryd.prog 52 (TypeDesc.func #[2] #[9] false) := ⟨Tryd.underlying52⟩
instance i52 : Inf Tryd.prog 52 .nilFunc 1 8 := ⟨by kernel_rfl⟩
instance u53 : Und Tryd.prog 53 (TypeDesc.func #[2, 22] #[30] false) := ⟨Tryd.underlying53⟩
instance i53 : Inf Tryd.prog 53 .nilFunc 1 8 := ⟨by kernel_rfl⟩
instance u54 : Und Tryd.prog 54 (TypeDesc.slice 63) := ⟨Tryd.underlying54⟩
instance i54 : Inf Tryd.prog 54 (.slice none 0 0) 1 24 := ⟨by kernel_rfl⟩
instance u55 : Und Tryd.prog 55 (TypeDesc.struct #[{ name := "neg", type := 4, offset := 0, embedded := false, tag := "", pkgPath := "loop.example/g01156/impl", byteOffset := 0 }, { name := "mag", type := 54, offset := 1, embedded := false, tag := "", pkgPath := "loop.example/g01156/impl", byteOffset := 8 }]) := ⟨Tryd.underlying55⟩
instance i55 : Inf Tryd.prog 55 (.agg #[(.bool false), (.slice none 0 0)]) 2 32 := ⟨by kernel_rfl⟩
instance u56 : Und Tryd.prog 56 (TypeDesc.struct #[{ name := "neg", type := 4, offset := 0, embedded := false, tag := "", pkgPath := "loop.example/g01156/impl", byteOffset := 0 }, { name := "mag", type := 54, offset := 1, embedded := false, tag := "", pkgPath := "loop.example/g01156/impl", byteOffset := 8 }]) := ⟨Tryd.underlying56⟩
instance i56 : Inf Tryd.prog 56 (.agg #[(.bool false), (.slice none 0 0)]) 2 32 := ⟨by kernel_rfl⟩
instance u57 : Und Tryd.prog 57 (TypeDesc.func #[48, 58] #[48] false) := ⟨Tryd.underlying57⟩
instance i57 : Inf Tryd.prog 57 .nilFunc 1 8 := ⟨by kernel_rfl⟩
instance u58 : Und Tryd.prog 58 (TypeDesc.int IntKind.u64) := ⟨Tryd.underlying58⟩
instance i58 : Inf Tryd.prog 58 (.int .u64 0) 1 8 := ⟨by kernel_rfl⟩
instance u59 : Und Tryd.prog 59 (TypeDesc.func #[48, 48] #[48] false) := ⟨Tryd.underlying59⟩
instance i59 : Inf Tryd.prog 59 .nilFunc 1 8 := ⟨by kernel_rfl⟩
instance u60 : Und Tryd.prog 60 (TypeDesc.func #[2] #[48] false) := ⟨Tryd.underlying60⟩
instance i60 : Inf Tryd.prog 60 .nilFunc 1 8 := ⟨by kernel_rfl⟩
instance u61 : Und Tryd.prog 61 (TypeDesc.func #[48] #[48] false) := ⟨Tryd.underlying61⟩
instance i61 : Inf Tryd.prog 61 .nilFunc 1 8 := ⟨by kernel_rfl⟩
instance u62 : Und Tryd.prog 62 (TypeDesc.slice 5) := ⟨Tryd.underlying62⟩
instance i62 : Inf Tryd.prog 62 (.slice none 0 0) 1 24 := ⟨by kernel_rfl⟩
instance u63 : Und Tryd.prog 63 (TypeDesc.int IntKind.u32) := ⟨Tryd.underlying63⟩
instance i63 : Inf Tryd.prog 63 (.int .u32 0) 1 4 := ⟨by kernel_rfl⟩
instance u64 : Und Tryd.prog 64 (TypeDesc.tuple #[54, 54]) := ⟨Tryd.underlying64⟩
instance u65 : Und Tryd.prog 65 (TypeDesc.func #[54, 54] #[54, 54] false) := ⟨Tryd.underlying65⟩
instance i65 : Inf Tryd.prog 65 .nilFunc 1 8 := ⟨by kernel_rfl⟩
instance u66 : Und Tryd.prog 66 (TypeDesc.func #[54] #[54] false) := ⟨Tryd.underlying66⟩
instance i66 : Inf Tryd.prog 66 .nilFunc 1 8 := ⟨by kernel_rfl⟩
instance u67 : Und Tryd.prog 67 (TypeDesc.func #[62] #[] false) := ⟨Tryd.underlying67⟩
instance i67 : Inf Tryd.prog 67 .nilFunc 1 8 := ⟨by kernel_rfl⟩
instance u68 : Und Tryd.prog 68 (TypeDesc.int IntKind.u64) := ⟨Tryd.underlying68⟩
instance i68 : Inf Tryd.prog 68 (.int .u64 0) 1 8 := ⟨by kernel_rfl⟩
instance u69 : Und Tryd.prog 69 (TypeDesc.func #[4, 54] #[48] false) := ⟨Tryd.underlying69⟩
instance i69 : Inf Tryd.prog 69 .nilFunc 1 8 := ⟨by kernel_rfl⟩
instance u70 : Und Tryd.prog 70 (TypeDesc.func #[48, 48, 4] #[48] false) := ⟨Tryd.underlying70⟩
instance i70 : Inf Tryd.prog 70 .nilFunc 1 8 := ⟨by kernel_rfl⟩
instance u71 : Und Tryd.prog 71 (TypeDesc.func #[54, 54] #[3] false) := ⟨Tryd.underlying71⟩
instance i71 : Inf Tryd.prog 71 .nilFunc 1 8 := ⟨by kernel_rfl⟩
instance u72 : Und Tryd.prog 72 (TypeDesc.func #[63] #[3] false) := ⟨Tryd.underlying72⟩
instance i72 : Inf Tryd.prog 72 .nilFunc 1 8 := ⟨by kernel_rfl⟩
instance u73 : Und Tryd.prog 73 (TypeDesc.func #[3] #[9] false) := ⟨Tryd.underlying73⟩
instance i73 : Inf Tryd.prog 73 .nilFunc 1 8 := ⟨by kernel_rfl⟩
instance u74 : Und Tryd.prog 74 (TypeDesc.array 24 5) := ⟨Tryd.underlying74⟩
instance i74 : Inf Tryd.prog 74 (.agg #[(.int .u8 0), (.int .u8 0), (.int .u8 0), (.int .u8 0), (.int .u8 0), (.int .u8 0), (.int .u8 0), (.int .u8 0), (.int .u8 0), (.int .u8 0), (.int .u8 0), (.int .u8 0), (.int .u8 0), (.int .u8 0), (.int .u8 0), (.int .u8 0), (.int .u8 0), (.int .u8 0), (.int .u8 0), (.int .u8 0), (.int .u8 0), (.int .u8 0), (.int .u8 0), (.int .u8 0)]) 24 24 := ⟨by kernel_rfl⟩
instance u75 : Und Tryd.prog 75 (TypeDesc.func #[68] #[3] false) := ⟨Tryd.underlying75⟩
instance i75 : Inf Tryd.prog 75 .nilFunc 1 8 := ⟨by kernel_rfl⟩
instance u76 : Und Tryd.prog 76 (TypeDesc.func #[62, 68] #[] false) := ⟨Tryd.underlying76⟩
instance i76 : Inf Tryd.prog 76 .nilFunc 1 8 := ⟨by kernel_rfl⟩
instance u77 : Und Tryd.prog 77 (TypeDesc.tuple #[62, 9]) := ⟨Tryd.underlying77⟩
instance u78 : Und Tryd.prog 78 (TypeDesc.func #[62, 68, 3, 4, 4] #[62, 9] false) := ⟨Tryd.underlying78⟩
instance i78 : Inf Tryd.prog 78 .nilFunc 1 8 := ⟨by kernel_rfl⟩
instance u79 : Und Tryd.prog 79 (TypeDesc.func #[54, 54] #[54] false) := ⟨Tryd.underlying79⟩
instance i79 : Inf Tryd.prog 79 .nilFunc 1 8 := ⟨by kernel_rfl⟩
instance u80 : Und Tryd.prog 80 (TypeDesc.func #[] #[58] false) := ⟨Tryd.underlying80⟩
instance i80 : Inf Tryd.prog 80 .nilFunc 1 8 := ⟨by kernel_rfl⟩
instance u81 : Und Tryd.prog 81 (TypeDesc.func #[3] #[3] false) := ⟨Tryd.underlying81⟩
instance i81 : Inf Tryd.prog 81 .nilFunc 1 8 := ⟨by kernel_rfl⟩
instance u82 : Und Tryd.prog 82 (TypeDesc.func #[4] #[3] false) := ⟨Tryd.underlying82⟩
instance i82 : Inf Tryd.prog 82 .nilFunc 1 8 := ⟨by kernel_rfl⟩
instance u83 : Und Tryd.prog 83 (TypeDesc.array 20 68) := ⟨Tryd.underlying83⟩
instance i83 : Inf Tryd.prog 83 (.agg #[(.int .u64 0), (.int .u64 0), (.int .u64 0), (.int .u64 0), (.int .u64 0), (.int .u64 0), (.int .u64 0), (.int .u64 0), (.int .u64 0), (.int .u64 0), (.int .u64 0), (.int .u64 0), (.int .u64 0), (.int .u64 0), (.int .u64 0), (.int .u64 0), (.int .u64 0), (.int .u64 0), (.int .u64 0), (.int .u64 0)]) 20 160 := ⟨by kernel_rfl⟩
instance u84 : Und Tryd.prog 84 (TypeDesc.array 65 5) := ⟨Tryd.underlying84⟩
instance i84 : Inf Tryd.prog 84 (.agg #[(.int .u8 0), (.int .u8 0), (.int .u8 0), (.int .u8 0), (.int .u8 0), (.int .u8 0), (.int .u8 0), (.int .u8 0), (.int .u8 0), (.int .u8 0), (.int .u8 0), (.int .u8 0), (.int .u8 0), (.int .u8 0), (.int .u8 0), (.int .u8 0), (.int .u8 0), (.int .u8 0), (.int .u8 0), (.int .u8 0), (.int .u8 0), (.int .u8 0), (.int .u8 0), (.int .u8 0), (.int .u8 0), (.int .u8 0), (.int .u8 0), (.int .u8 0), (.int .u8 0), (.int .u8 0), (.int .u8 0), (.int .u8 0), (.int .u8 0), (.int .u8 0), (.int .u8 0), (.int .u8 0), (.int .u8 0), (.int .u8 0), (.int .u8 0), (.int .u8 0), (.int .u8 0), (.int .u8 0), (.int .u8 0), (.int .u8 0), (.int .u8 0), (.int .u8 0), (.int .u8 0), (.int .u8 0), (.int .u8 0), (.int .u8 0), (.int .u8 0), (.int .u8 0), (.int .u8 0), (.int .u8 0), (.int .u8 0), (.int .u8 0), (.int .u8 0), (.int .u8 0), (.int .u8 0), (.int .u8 0), (.int .u8 0), (.int .u8 0), (.int .u8 0), (.int .u8 0), (.int .u8 0)]) 65 65 := ⟨by kernel_rfl⟩
instance u85 : Und Tryd.prog 85 (TypeDesc.func #[3] #[4] false) := ⟨Tryd.underlying85⟩
instance i85 : Inf Tryd.prog 85 .nilFunc 1 8 := ⟨by kernel_rfl⟩
instance u86 : Und Tryd.prog 86 (TypeDesc.func #[58] #[3] false) := ⟨Tryd.underlying86⟩
instance i86 : Inf Tryd.prog 86 .nilFunc 1 8 := ⟨by kernel_rfl⟩
instance u87 : Und Tryd.prog 87 (TypeDesc.array 32 5) := ⟨Tryd.underlying87⟩
instance i87 : Inf Tryd.prog 87 (.agg #[(.int .u8 0), (.int .u8 0), (.int .u8 0), (.int .u8 0), (.int .u8 0), (.int .u8 0), (.int .u8 0), (.int .u8 0), (.int .u8 0), (.int .u8 0), (.int .u8 0), (.int .u8 0), (.int .u8 0), (.int .u8 0), (.int .u8 0), (.int .u8 0), (.int .u8 0), (.int .u8 0), (.int .u8 0), (.int .u8 0), (.int .u8 0), (.int .u8 0), (.int .u8 0), (.int .u8 0), (.int .u8 0), (.int .u8 0), (.int .u8 0), (.int .u8 0), (.int .u8 0), (.int .u8 0), (.int .u8 0), (.int .u8 0)]) 32 32 := ⟨by kernel_rfl⟩
instance u88 : Und Tryd.prog 88 (TypeDesc.array 64 5) := ⟨Tryd.underlying88⟩
instance i88 : Inf Tryd.prog 88 (.agg #[(.int .u8 0), (.int .u8 0), (.int .u8 0), (.int .u8 0), (.int .u8 0), (.int .u8 0), (.int .u8 0), (.int .u8 0), (.int .u8 0), (.int .u8 0), (.int .u8 0), (.int .u8 0), (.int .u8 0), (.int .u8 0), (.int .u8 0), (.int .u8 0), (.int .u8 0), (.int .u8 0), (.int .u8 0), (.int .u8 0), (.int .u8 0), (.int .u8 0), (.int .u8 0), (.int .u8 0), (.int .u8 0), (.int .u8 0), (.int .u8 0), (.int .u8 0), (.int .u8 0), (.int .u8 0), (.int .u8 0), (.int .u8 0), (.int .u8 0), (.int .u8 0), (.int .u8 0), (.int .u8 0), (.int .u8 0), (.int .u8 0), (.int .u8 0), (.int .u8 0), (.int .u8 0), (.int .u8 0), (.int .u8 0), (.int .u8 0), (.int .u8 0), (.int .u8 0), (.int .u8 0), (.int .u8 0), (.int .u8 0), (.int .u8 0), (.int .u8 0), (.int .u8 0), (.int .u8 0), (.int .u8 0), (.int .u8 0), (.int .u8 0), (.int .u8 0), (.int .u8 0), (.int .u8 0), (.int .u8 0), (.int .u8 0), (.int .u8 0), (.int .u8 0), (.int .u8 0)]) 64 64 := ⟨by kernel_rfl⟩
instance u89 : Und Tryd.prog 89 (TypeDesc.struct #[{ name := "_interface", type := 17, offset := 0, embedded := false, tag := "", pkgPath := "runtime", byteOffset := 0 }, { name := "concrete", type := 17, offset := 1, embedded := false, tag := "", pkgPath := "runtime", byteOffset := 8 }, { name := "asserted", type := 17, offset := 2, embedded := false, tag := "", pkgPath := "runtime", byteOffset := 16 }, { name := "missingMethod", type := 9, offset := 3, embedded := false, tag := "", pkgPath := "runtime", byteOffset := 24 }]) := ⟨Tryd.underlying89⟩
instance i89 : Inf Tryd.prog 89 (.agg #[(.pointer none), (.pointer none), (.pointer none), (.string ⟨#[]⟩)]) 4 40 := ⟨by kernel_rfl⟩
instance u90 : Und Tryd.prog 90 (TypeDesc.struct #[{ name := "_interface", type := 17, offset := 0, embedded := false, tag := "", pkgPath := "runtime", byteOffset := 0 }, { name := "concrete", type := 17, offset := 1, embedded := false, tag := "", pkgPath := "runtime", byteOffset := 8 }, { name := "asserted", type := 17, offset := 2, embedded := false, tag := "", pkgPath := "runtime", byteOffset := 16 }, { name := "missingMethod", type := 9, offset := 3, embedded := false, tag := "", pkgPath := "runtime", byteOffset := 24 }]) := ⟨Tryd.underlying90⟩
instance i90 : Inf Tryd.prog 90 (.agg #[(.pointer none), (.pointer none), (.pointer none), (.string ⟨#[]⟩)]) 4 40 := ⟨by kernel_rfl⟩
instance u91 : Und Tryd.prog 91 (TypeDesc.array 0 16) := ⟨Tryd.underlying91⟩
instance i91 : Inf Tryd.prog 91 (.agg #[]) 0 0 := ⟨by kernel_rfl⟩
instance u92 : Und Tryd.prog 92 (TypeDesc.struct #[{ name := "_", type := 91, offset := 0, embedded := false, tag := "", pkgPath := "runtime", byteOffset := 0 }]) := ⟨Tryd.underlying92⟩
instance i92 : Inf Tryd.prog 92 (.agg #[]) 0 0 := ⟨by kernel_rfl⟩
instance u93 : Und Tryd.prog 93 (TypeDesc.struct #[{ name := "_", type := 91, offset := 0, embedded := false, tag := "", pkgPath := "runtime", byteOffset := 0 }]) := ⟨Tryd.underlying93⟩
instance i93 : Inf Tryd.prog 93 (.agg #[]) 0 0 := ⟨by kernel_rfl⟩
instance u94 : Und Tryd.prog 94 (TypeDesc.func #[] #[3] false) := ⟨Tryd.underlying94⟩
instance i94 : Inf Tryd.prog 94 .nilFunc 1 8 := ⟨by kernel_rfl⟩
instance u95 : Und Tryd.prog 95 (TypeDesc.int IntKind.u8) := ⟨Tryd.underlying95⟩
instance i95 : Inf Tryd.prog 95 (.int .u8 0) 1 1 := ⟨by kernel_rfl⟩
instance u96 : Und Tryd.prog 96 (TypeDesc.int IntKind.u8) := ⟨Tryd.underlying96⟩
instance i96 : Inf Tryd.prog 96 (.int .u8 0) 1 1 := ⟨by kernel_rfl⟩
instance u97 : Und Tryd.prog 97 (TypeDesc.func #[103, 103] #[4] false) := ⟨Tryd.underlying97⟩
instance i97 : Inf Tryd.prog 97 .nilFunc 1 8 := ⟨by kernel_rfl⟩
instance u98 : Und Tryd.prog 98 (TypeDesc.pointer 5) := ⟨Tryd.underlying98⟩
instance i98 : Inf Tryd.prog 98 (.pointer none) 1 8 := ⟨by kernel_rfl⟩
instance u99 : Und Tryd.prog 99 (TypeDesc.int IntKind.i32) := ⟨Tryd.underlying99⟩
instance i99 : Inf Tryd.prog 99 (.int .i32 0) 1 4 := ⟨by kernel_rfl⟩
instance u100 : Und Tryd.prog 100 (TypeDesc.int IntKind.i32) := ⟨Tryd.underlying100⟩
instance i100 : Inf Tryd.prog 100 (.int .i32 0) 1 4 := ⟨by kernel_rfl⟩
instance u101 : Und Tryd.prog 101 (TypeDesc.struct #[{ name := "Size_", type := 12, offset := 0, embedded := false, tag := "", pkgPath := "", byteOffset := 0 }, { name := "PtrBytes", type := 12, offset := 1, embedded := false, tag := "", pkgPath := "", byteOffset := 8 }, { name := "Hash", type := 63, offset := 2, embedded := false, tag := "", pkgPath := "", byteOffset := 16 }, { name := "TFlag", type := 95, offset := 3, embedded := false, tag := "", pkgPath := "", byteOffset := 20 }, { name := "Align_", type := 5, offset := 4, embedded := false, tag := "", pkgPath := "", byteOffset := 21 }, { name := "FieldAlign_", type := 5, offset := 5, embedded := false, tag := "", pkgPath := "", byteOffset := 22 }, { name := "Kind_", type := 96, offset := 6, embedded := false, tag := "", pkgPath := "", byteOffset := 23 }, { name := "Equal", type := 97, offset := 7, embedded := false, tag := "", pkgPath := "", byteOffset := 24 }, { name := "GCData", type := 98, offset := 8, embedded := false, tag := "", pkgPath := "", byteOffset := 32 }, { name := "Str", type := 99, offset := 9, embedded := false, tag := "", pkgPath := "", byteOffset := 40 }, { name := "PtrToThis", type := 100, offset := 10, embedded := false, tag := "", pkgPath := "", byteOffset := 44 }]) := ⟨Tryd.underlying101⟩
instance i101 : Inf Tryd.prog 101 (.agg #[(.int .u64 0), (.int .u64 0), (.int .u32 0), (.int .u8 0), (.int .u8 0), (.int .u8 0), (.int .u8 0), .nilFunc, (.pointer none), (.int .i32 0), (.int .i32 0)]) 11 48 := ⟨by kernel_rfl⟩
instance u102 : Und Tryd.prog 102 (TypeDesc.struct #[{ name := "Size_", type := 12, offset := 0, embedded := false, tag := "", pkgPath := "", byteOffset := 0 }, { name := "PtrBytes", type := 12, offset := 1, embedded := false, tag := "", pkgPath := "", byteOffset := 8 }, { name := "Hash", type := 63, offset := 2, embedded := false, tag := "", pkgPath := "", byteOffset := 16 }, { name := "TFlag", type := 95, offset := 3, embedded := false, tag := "", pkgPath := "", byteOffset := 20 }, { name := "Align_", type := 5, offset := 4, embedded := false, tag := "", pkgPath := "", byteOffset := 21 }, { name := "FieldAlign_", type := 5, offset := 5, embedded := false, tag := "", pkgPath := "", byteOffset := 22 }, { name := "Kind_", type := 96, offset := 6, embedded := false, tag := "", pkgPath := "", byteOffset := 23 }, { name := "Equal", type := 97, offset := 7, embedded := false, tag := "", pkgPath := "", byteOffset := 24 }, { name := "GCData", type := 98, offset := 8, embedded := false, tag := "", pkgPath := "", byteOffset := 32 }, { name := "Str", type := 99, offset := 9, embedded := false, tag := "", pkgPath := "", byteOffset := 40 }, { name := "PtrToThis", type := 100, offset := 10, embedded := false, tag := "", pkgPath := "", byteOffset := 44 }]) := ⟨Tryd.underlying102⟩
instance i102 : Inf Tryd.prog 102 (.agg #[(.int .u64 0), (.int .u64 0), (.int .u32 0), (.int .u8 0), (.int .u8 0), (.int .u8 0), (.int .u8 0), .nilFunc, (.pointer none), (.int .i32 0), (.int .i32 0)]) 11 48 := ⟨by kernel_rfl⟩
instance u103 : Und Tryd.prog 103 (TypeDesc.unsafePointer) := ⟨Tryd.underlying103⟩
instance i103 : Inf Tryd.prog 103 (.pointer none) 1 8 := ⟨by kernel_rfl⟩
end Go.Proofs.YtohkhofbemfmbaaDoor.K
