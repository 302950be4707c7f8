/- What the engine is told of the types: written by a program (gen_types.py). -/
import Derived.Test.YtbclejclkicgnaaZKa
import Derived.Test.YtbclejclkicgnaaProg
namespace Go.Proofs.Ytbclejclkicgnaa.K
open Go
set_option maxRecDepth 100000

instance u0 : Und Try.prog 0 (TypeDesc.tuple #[]) := ⟨Try.underlying0⟩
instance u1 : Und Try.prog 1 (TypeDesc.func #[] #[] false) := ⟨Try.underlying1⟩
instance i1 : Inf Try.prog 1 .nilFunc 1 8 := ⟨by kernel_rfl⟩
instance u2 : Und Try.prog 2 (TypeDesc.int IntKind.i64) := ⟨Try.underlying2⟩
instance i2 : Inf Try.prog 2 (.int .i64 0) 1 8 := ⟨by kernel_rfl⟩
instance u3 : Und Try.prog 3 (TypeDesc.int IntKind.i64) := ⟨Try.underlying3⟩
instance i3 : Inf Try.prog 3 (.int .i64 0) 1 8 := ⟨by kernel_rfl⟩
instance u4 : Und Try.prog 4 (TypeDesc.bool) := ⟨Try.underlying4⟩
instance i4 : Inf Try.prog 4 (.bool false) 1 1 := ⟨by kernel_rfl⟩
instance u5 : Und Try.prog 5 (TypeDesc.int IntKind.u8) := ⟨Try.underlying5⟩
instance i5 : Inf Try.prog 5 (.int .u8 0) 1 1 := ⟨by kernel_rfl⟩
instance u6 : Und Try.prog 6 (TypeDesc.int IntKind.u8) := ⟨Try.underlying6⟩
instance i6 : Inf Try.prog 6 (.int .u8 0) 1 1 := ⟨by kernel_rfl⟩
instance u7 : Und Try.prog 7 (TypeDesc.struct #[{ name := "x", type := 2, offset := 0, embedded := false, tag := "", pkgPath := "runtime", byteOffset := 0 }, { name := "y", type := 3, offset := 1, embedded := false, tag := "", pkgPath := "runtime", byteOffset := 8 }, { name := "signed", type := 4, offset := 2, embedded := false, tag := "", pkgPath := "runtime", byteOffset := 16 }, { name := "code", type := 6, offset := 3, embedded := false, tag := "", pkgPath := "runtime", byteOffset := 17 }]) := ⟨Try.underlying7⟩
instance i7 : Inf Try.prog 7 (.agg #[(.int .i64 0), (.int .i64 0), (.bool false), (.int .u8 0)]) 4 24 := ⟨by kernel_rfl⟩
instance u8 : Und Try.prog 8 (TypeDesc.struct #[{ name := "x", type := 2, offset := 0, embedded := false, tag := "", pkgPath := "runtime", byteOffset := 0 }, { name := "y", type := 3, offset := 1, embedded := false, tag := "", pkgPath := "runtime", byteOffset := 8 }, { name := "signed", type := 4, offset := 2, embedded := false, tag := "", pkgPath := "runtime", byteOffset := 16 }, { name := "code", type := 6, offset := 3, embedded := false, tag := "", pkgPath := "runtime", byteOffset := 17 }]) := ⟨Try.underlying8⟩
instance i8 : Inf Try.prog 8 (.agg #[(.int .i64 0), (.int .i64 0), (.bool false), (.int .u8 0)]) 4 24 := ⟨by kernel_rfl⟩
instance u9 : Und Try.prog 9 (TypeDesc.string) := ⟨Try.underlying9⟩
instance i9 : Inf Try.prog 9 (.string ⟨#[]⟩) 1 16 := ⟨by kernel_rfl⟩
instance u10 : Und Try.prog 10 (TypeDesc.string) := ⟨Try.underlying10⟩
instance i10 : Inf Try.prog 10 (.string ⟨#[]⟩) 1 16 := ⟨by kernel_rfl⟩
instance u11 : Und Try.prog 11 (TypeDesc.string) := ⟨Try.underlying11⟩
instance i11 : Inf Try.prog 11 (.string ⟨#[]⟩) 1 16 := ⟨by kernel_rfl⟩
instance u12 : Und Try.prog 12 (TypeDesc.int IntKind.u64) := ⟨Try.underlying12⟩
instance i12 : Inf Try.prog 12 (.int .u64 0) 1 8 := ⟨by kernel_rfl⟩
instance u13 : Und Try.prog 13 (TypeDesc.struct #[{ name := "msg", type := 9, offset := 0, embedded := false, tag := "", pkgPath := "runtime", byteOffset := 0 }, { name := "addr", type := 12, offset := 1, embedded := false, tag := "", pkgPath := "runtime", byteOffset := 16 }]) := ⟨Try.underlying13⟩
instance i13 : Inf Try.prog 13 (.agg #[(.string ⟨#[]⟩), (.int .u64 0)]) 2 24 := ⟨by kernel_rfl⟩
instance u14 : Und Try.prog 14 (TypeDesc.struct #[{ name := "msg", type := 9, offset := 0, embedded := false, tag := "", pkgPath := "runtime", byteOffset := 0 }, { name := "addr", type := 12, offset := 1, embedded := false, tag := "", pkgPath := "runtime", byteOffset := 16 }]) := ⟨Try.underlying14⟩
instance i14 : Inf Try.prog 14 (.agg #[(.string ⟨#[]⟩), (.int .u64 0)]) 2 24 := ⟨by kernel_rfl⟩
instance u15 : Und Try.prog 15 (TypeDesc.pointer 105) := ⟨Try.underlying15⟩
instance i15 : Inf Try.prog 15 (.pointer none) 1 8 := ⟨by kernel_rfl⟩
instance u16 : Und Try.prog 16 (TypeDesc.pointer 108) := ⟨Try.underlying16⟩
instance i16 : Inf Try.prog 16 (.pointer none) 1 8 := ⟨by kernel_rfl⟩
instance u17 : Und Try.prog 17 (TypeDesc.pointer 118) := ⟨Try.underlying17⟩
instance i17 : Inf Try.prog 17 (.pointer none) 1 8 := ⟨by kernel_rfl⟩
instance u18 : Und Try.prog 18 (TypeDesc.struct #[{ name := "typ", type := 17, offset := 0, embedded := false, tag := "", pkgPath := "internal/runtime/maps", byteOffset := 0 }]) := ⟨Try.underlying18⟩
instance i18 : Inf Try.prog 18 (.agg #[(.pointer none)]) 1 8 := ⟨by kernel_rfl⟩
instance u19 : Und Try.prog 19 (TypeDesc.struct #[{ name := "typ", type := 17, offset := 0, embedded := false, tag := "", pkgPath := "internal/runtime/maps", byteOffset := 0 }]) := ⟨Try.underlying19⟩
instance i19 : Inf Try.prog 19 (.agg #[(.pointer none)]) 1 8 := ⟨by kernel_rfl⟩
instance u20 : Und Try.prog 20 (TypeDesc.interface #[]) := ⟨Try.underlying20⟩
instance i20 : Inf Try.prog 20 .nilIface 1 16 := ⟨by kernel_rfl⟩
instance u21 : Und Try.prog 21 (TypeDesc.int IntKind.i32) := ⟨Try.underlying21⟩
instance i21 : Inf Try.prog 21 (.int .i32 0) 1 4 := ⟨by kernel_rfl⟩
instance u22 : Und Try.prog 22 (TypeDesc.slice 5) := ⟨Try.underlying22⟩
instance i22 : Inf Try.prog 22 (.slice none 0 0) 1 24 := ⟨by kernel_rfl⟩
instance u23 : Und Try.prog 23 (TypeDesc.func #[22] #[4] false) := ⟨Try.underlying23⟩
instance i23 : Inf Try.prog 23 .nilFunc 1 8 := ⟨by kernel_rfl⟩
instance u24 : Und Try.prog 24 (TypeDesc.slice 47) := ⟨Try.underlying24⟩
instance i24 : Inf Try.prog 24 (.slice none 0 0) 1 24 := ⟨by kernel_rfl⟩
instance u25 : Und Try.prog 25 (TypeDesc.float FloatKind.f64) := ⟨Try.underlying25⟩
instance i25 : Inf Try.prog 25 (.float .f64 0) 1 8 := ⟨by kernel_rfl⟩
instance u26 : Und Try.prog 26 (TypeDesc.tuple #[24, 24, 2, 4, 25, 2]) := ⟨Try.underlying26⟩
instance u27 : Und Try.prog 27 (TypeDesc.func #[22] #[24, 24, 2, 4, 25, 2] false) := ⟨Try.underlying27⟩
instance i27 : Inf Try.prog 27 .nilFunc 1 8 := ⟨by kernel_rfl⟩
instance u28 : Und Try.prog 28 (TypeDesc.struct #[{ name := "Points", type := 24, offset := 0, embedded := false, tag := "", pkgPath := "", byteOffset := 0 }, { name := "Steps", type := 2, offset := 1, embedded := false, tag := "", pkgPath := "", byteOffset := 24 }, { name := "Last", type := 25, offset := 2, embedded := false, tag := "", pkgPath := "", byteOffset := 32 }, { name := "Still", type := 4, offset := 3, embedded := false, tag := "", pkgPath := "", byteOffset := 40 }]) := ⟨Try.underlying28⟩
instance i28 : Inf Try.prog 28 (.agg #[(.slice none 0 0), (.int .i64 0), (.float .f64 0), (.bool false)]) 4 48 := ⟨by kernel_rfl⟩
instance u29 : Und Try.prog 29 (TypeDesc.struct #[{ name := "Points", type := 24, offset := 0, embedded := false, tag := "", pkgPath := "", byteOffset := 0 }, { name := "Steps", type := 2, offset := 1, embedded := false, tag := "", pkgPath := "", byteOffset := 24 }, { name := "Last", type := 25, offset := 2, embedded := false, tag := "", pkgPath := "", byteOffset := 32 }, { name := "Still", type := 4, offset := 3, embedded := false, tag := "", pkgPath := "", byteOffset := 40 }]) := ⟨Try.underlying29⟩
instance i29 : Inf Try.prog 29 (.agg #[(.slice none 0 0), (.int .i64 0), (.float .f64 0), (.bool false)]) 4 48 := ⟨by kernel_rfl⟩
instance u30 : Und Try.prog 30 (TypeDesc.tuple #[29, 2]) := ⟨Try.underlying30⟩
instance u31 : Und Try.prog 31 (TypeDesc.func #[24, 24, 2, 4, 25, 2] #[29, 2] false) := ⟨Try.underlying31⟩
instance i31 : Inf Try.prog 31 .nilFunc 1 8 := ⟨by kernel_rfl⟩
instance u32 : Und Try.prog 32 (TypeDesc.func #[29, 29] #[4] false) := ⟨Try.underlying32⟩
instance i32 : Inf Try.prog 32 .nilFunc 1 8 := ⟨by kernel_rfl⟩
instance u33 : Und Try.prog 33 (TypeDesc.tuple #[24, 25, 2]) := ⟨Try.underlying33⟩
instance u34 : Und Try.prog 34 (TypeDesc.func #[24, 24, 2, 4] #[24, 25, 2] false) := ⟨Try.underlying34⟩
instance i34 : Inf Try.prog 34 .nilFunc 1 8 := ⟨by kernel_rfl⟩
instance u35 : Und Try.prog 35 (TypeDesc.func #[24, 24] #[4] false) := ⟨Try.underlying35⟩
instance i35 : Inf Try.prog 35 .nilFunc 1 8 := ⟨by kernel_rfl⟩
instance u36 : Und Try.prog 36 (TypeDesc.func #[25, 25] #[4] false) := ⟨Try.underlying36⟩
instance i36 : Inf Try.prog 36 .nilFunc 1 8 := ⟨by kernel_rfl⟩
instance u37 : Und Try.prog 37 (TypeDesc.pointer 62) := ⟨Try.underlying37⟩
instance i37 : Inf Try.prog 37 (.pointer none) 1 8 := ⟨by kernel_rfl⟩
instance u38 : Und Try.prog 38 (TypeDesc.func #[22] #[37] false) := ⟨Try.underlying38⟩
instance i38 : Inf Try.prog 38 .nilFunc 1 8 := ⟨by kernel_rfl⟩
instance u39 : Und Try.prog 39 (TypeDesc.tuple #[24, 24]) := ⟨Try.underlying39⟩
instance u40 : Und Try.prog 40 (TypeDesc.func #[37] #[24, 24] false) := ⟨Try.underlying40⟩
instance i40 : Inf Try.prog 40 .nilFunc 1 8 := ⟨by kernel_rfl⟩
instance u41 : Und Try.prog 41 (TypeDesc.slice 25) := ⟨Try.underlying41⟩
instance i41 : Inf Try.prog 41 (.slice none 0 0) 1 24 := ⟨by kernel_rfl⟩
instance u42 : Und Try.prog 42 (TypeDesc.func #[37, 2] #[2] false) := ⟨Try.underlying42⟩
instance i42 : Inf Try.prog 42 .nilFunc 1 8 := ⟨by kernel_rfl⟩
instance u43 : Und Try.prog 43 (TypeDesc.func #[37] #[2] false) := ⟨Try.underlying43⟩
instance i43 : Inf Try.prog 43 .nilFunc 1 8 := ⟨by kernel_rfl⟩
instance u44 : Und Try.prog 44 (TypeDesc.func #[37, 69] #[2] true) := ⟨Try.underlying44⟩
instance i44 : Inf Try.prog 44 .nilFunc 1 8 := ⟨by kernel_rfl⟩
instance u45 : Und Try.prog 45 (TypeDesc.tuple #[24, 2, 25, 4, 2]) := ⟨Try.underlying45⟩
instance u46 : Und Try.prog 46 (TypeDesc.func #[53, 24, 24, 2, 4, 25, 2] #[24, 2, 25, 4, 2] false) := ⟨Try.underlying46⟩
instance i46 : Inf Try.prog 46 .nilFunc 1 8 := ⟨by kernel_rfl⟩
instance u47 : Und Try.prog 47 (TypeDesc.complex FloatKind.f64) := ⟨Try.underlying47⟩
instance i47 : Inf Try.prog 47 (.complex .f64 0 0) 1 16 := ⟨by kernel_rfl⟩
instance u48 : Und Try.prog 48 (TypeDesc.func #[3] #[47] false) := ⟨Try.underlying48⟩
instance i48 : Inf Try.prog 48 .nilFunc 1 8 := ⟨by kernel_rfl⟩
instance u49 : Und Try.prog 49 (TypeDesc.func #[47, 47] #[47] false) := ⟨Try.underlying49⟩
instance i49 : Inf Try.prog 49 .nilFunc 1 8 := ⟨by kernel_rfl⟩
instance u50 : Und Try.prog 50 (TypeDesc.func #[47] #[25] false) := ⟨Try.underlying50⟩
instance i50 : Inf Try.prog 50 .nilFunc 1 8 := ⟨by kernel_rfl⟩
instance u51 : Und Try.prog 51 (TypeDesc.func #[47] #[4] false) := ⟨Try.underlying51⟩
instance i51 : Inf Try.prog 51 .nilFunc 1 8 := ⟨by kernel_rfl⟩
instance u52 : Und Try.prog 52 (TypeDesc.struct #[{ name := "of", type := 48, offset := 0, embedded := false, tag := "", pkgPath := "loop.example/g01156/impl", byteOffset := 0 }, { name := "add", type := 49, offset := 1, embedded := false, tag := "", pkgPath := "loop.example/g01156/impl", byteOffset := 8 }, { name := "subtract", type := 49, offset := 2, embedded := false, tag := "", pkgPath := "loop.example/g01156/impl", byteOffset := 16 }, { name := "multiply", type := 49, offset := 3, embedded := false, tag := "", pkgPath := "loop.example/g01156/impl", byteOffset := 24 }, { name := "divide", type := 49, offset := 4, embedded := false, tag := "", pkgPath := "loop.example/g01156/impl", byteOffset := 32 }, { name := "size", type := 50, offset := 5, embedded := false, tag := "", pkgPath := "loop.example/g01156/impl", byteOffset := 40 }, { name := "isFinite", type := 51, offset := 6, embedded := false, tag := "", pkgPath := "loop.example/g01156/impl", byteOffset := 48 }, { name := "areRight", type := 35, offset := 7, embedded := false, tag := "", pkgPath := "loop.example/g01156/impl", byteOffset := 56 }]) := ⟨Try.underlying52⟩
instance i52 : Inf Try.prog 52 (.agg #[.nilFunc, .nilFunc, .nilFunc, .nilFunc, .nilFunc, .nilFunc, .nilFunc, .nilFunc]) 8 64 := ⟨by kernel_rfl⟩
instance u53 : Und Try.prog 53 (TypeDesc.struct #[{ name := "of", type := 48, offset := 0, embedded := false, tag := "", pkgPath := "loop.example/g01156/impl", byteOffset := 0 }, { name := "add", type := 49, offset := 1, embedded := false, tag := "", pkgPath := "loop.example/g01156/impl", byteOffset := 8 }, { name := "subtract", type := 49, offset := 2, embedded := false, tag := "", pkgPath := "loop.example/g01156/impl", byteOffset := 16 }, { name := "multiply", type := 49, offset := 3, embedded := false, tag := "", pkgPath := "loop.example/g01156/impl", byteOffset := 24 }, { name := "divide", type := 49, offset := 4, embedded := false, tag := "", pkgPath := "loop.example/g01156/impl", byteOffset := 32 }, { name := "size", type := 50, offset := 5, embedded := false, tag := "", pkgPath := "loop.example/g01156/impl", byteOffset := 40 }, { name := "isFinite", type := 51, offset := 6, embedded := false, tag := "", pkgPath := "loop.example/g01156/impl", byteOffset := 48 }, { name := "areRight", type := 35, offset := 7, embedded := false, tag := "", pkgPath := "loop.example/g01156/impl", byteOffset := 56 }]) := ⟨Try.underlying53⟩
instance i53 : Inf Try.prog 53 (.agg #[.nilFunc, .nilFunc, .nilFunc, .nilFunc, .nilFunc, .nilFunc, .nilFunc, .nilFunc]) 8 64 := ⟨by kernel_rfl⟩
instance u54 : Und Try.prog 54 (TypeDesc.func #[] #[53] false) := ⟨Try.underlying54⟩
instance i54 : Inf Try.prog 54 .nilFunc 1 8 := ⟨by kernel_rfl⟩
instance u55 : Und Try.prog 55 (TypeDesc.func #[24, 24, 2] #[2] false) := ⟨Try.underlying55⟩
instance i55 : Inf Try.prog 55 .nilFunc 1 8 := ⟨by kernel_rfl⟩
instance u56 : Und Try.prog 56 (TypeDesc.func #[25] #[4] false) := ⟨Try.underlying56⟩
instance i56 : Inf Try.prog 56 .nilFunc 1 8 := ⟨by kernel_rfl⟩
instance u57 : Und Try.prog 57 (TypeDesc.func #[2, 2, 2] #[4] false) := ⟨Try.underlying57⟩
instance i57 : Inf Try.prog 57 .nilFunc 1 8 := ⟨by kernel_rfl⟩
instance u58 : Und Try.prog 58 (TypeDesc.func #[53, 24, 24, 2, 4] #[24, 25, 2] false) := ⟨Try.underlying58⟩
instance i58 : Inf Try.prog 58 .nilFunc 1 8 := ⟨by kernel_rfl⟩
instance u59 : Und Try.prog 59 (TypeDesc.func #[47, 47] #[4] false) := ⟨Try.underlying59⟩
instance i59 : Inf Try.prog 59 .nilFunc 1 8 := ⟨by kernel_rfl⟩
instance u60 : Und Try.prog 60 (TypeDesc.int IntKind.u64) := ⟨Try.underlying60⟩
instance i60 : Inf Try.prog 60 (.int .u64 0) 1 8 := ⟨by kernel_rfl⟩
instance u61 : Und Try.prog 61 (TypeDesc.struct #[{ name := "code", type := 22, offset := 0, embedded := false, tag := "", pkgPath := "loop.example/g01156/spec", byteOffset := 0 }, { name := "at", type := 3, offset := 1, embedded := false, tag := "", pkgPath := "loop.example/g01156/spec", byteOffset := 24 }, { name := "hash", type := 60, offset := 2, embedded := false, tag := "", pkgPath := "loop.example/g01156/spec", byteOffset := 32 }]) := ⟨Try.underlying61⟩
instance i61 : Inf Try.prog 61 (.agg #[(.slice none 0 0), (.int .i64 0), (.int .u64 0)]) 3 40 := ⟨by kernel_rfl⟩
instance u62 : Und Try.prog 62 (TypeDesc.struct #[{ name := "code", type := 22, offset := 0, embedded := false, tag := "", pkgPath := "loop.example/g01156/spec", byteOffset := 0 }, { name := "at", type := 3, offset := 1, embedded := false, tag := "", pkgPath := "loop.example/g01156/spec", byteOffset := 24 }, { name := "hash", type := 60, offset := 2, embedded := false, tag := "", pkgPath := "loop.example/g01156/spec", byteOffset := 32 }]) := ⟨Try.underlying62⟩
instance i62 : Inf Try.prog 62 (.agg #[(.slice none 0 0), (.int .i64 0), (.int .u64 0)]) 3 40 := ⟨by kernel_rfl⟩
instance u63 : Und Try.prog 63 (TypeDesc.func #[37] #[24] false) := ⟨Try.underlying63⟩
instance i63 : Inf Try.prog 63 .nilFunc 1 8 := ⟨by kernel_rfl⟩
instance u64 : Und Try.prog 64 (TypeDesc.func #[24] #[4] false) := ⟨Try.underlying64⟩
instance i64 : Inf Try.prog 64 .nilFunc 1 8 := ⟨by kernel_rfl⟩
instance u65 : Und Try.prog 65 (TypeDesc.tuple #[24, 4]) := ⟨Try.underlying65⟩
instance u66 : Und Try.prog 66 (TypeDesc.func #[24] #[24, 4] false) := ⟨Try.underlying66⟩
instance i66 : Inf Try.prog 66 .nilFunc 1 8 := ⟨by kernel_rfl⟩
instance u67 : Und Try.prog 67 (TypeDesc.func #[37] #[47] false) := ⟨Try.underlying67⟩
instance i67 : Inf Try.prog 67 .nilFunc 1 8 := ⟨by kernel_rfl⟩
instance u68 : Und Try.prog 68 (TypeDesc.int IntKind.u64) := ⟨Try.underlying68⟩
instance i68 : Inf Try.prog 68 (.int .u64 0) 1 8 := ⟨by kernel_rfl⟩
instance u69 : Und Try.prog 69 (TypeDesc.slice 2) := ⟨Try.underlying69⟩
instance i69 : Inf Try.prog 69 (.slice none 0 0) 1 24 := ⟨by kernel_rfl⟩
instance u70 : Und Try.prog 70 (TypeDesc.func #[53, 24, 24, 2] #[2] false) := ⟨Try.underlying70⟩
instance i70 : Inf Try.prog 70 .nilFunc 1 8 := ⟨by kernel_rfl⟩
instance u71 : Und Try.prog 71 (TypeDesc.func #[4, 25, 2] #[2] false) := ⟨Try.underlying71⟩
instance i71 : Inf Try.prog 71 .nilFunc 1 8 := ⟨by kernel_rfl⟩
instance u72 : Und Try.prog 72 (TypeDesc.pointer 77) := ⟨Try.underlying72⟩
instance i72 : Inf Try.prog 72 (.pointer none) 1 8 := ⟨by kernel_rfl⟩
instance u73 : Und Try.prog 73 (TypeDesc.func #[53] #[72] false) := ⟨Try.underlying73⟩
instance i73 : Inf Try.prog 73 .nilFunc 1 8 := ⟨by kernel_rfl⟩
instance u74 : Und Try.prog 74 (TypeDesc.tuple #[24, 2, 25, 4]) := ⟨Try.underlying74⟩
instance u75 : Und Try.prog 75 (TypeDesc.func #[24, 24, 2, 4, 25, 2] #[24, 2, 25, 4] false) := ⟨Try.underlying75⟩
instance i75 : Inf Try.prog 75 .nilFunc 1 8 := ⟨by kernel_rfl⟩
instance u76 : Und Try.prog 76 (TypeDesc.struct #[{ name := "field", type := 53, offset := 0, embedded := true, tag := "", pkgPath := "loop.example/g01156/impl", byteOffset := 0 }, { name := "code", type := 2, offset := 8, embedded := false, tag := "", pkgPath := "loop.example/g01156/impl", byteOffset := 64 }]) := ⟨Try.underlying76⟩
instance i76 : Inf Try.prog 76 (.agg #[.nilFunc, .nilFunc, .nilFunc, .nilFunc, .nilFunc, .nilFunc, .nilFunc, .nilFunc, (.int .i64 0)]) 9 72 := ⟨by kernel_rfl⟩
instance u77 : Und Try.prog 77 (TypeDesc.struct #[{ name := "field", type := 53, offset := 0, embedded := true, tag := "", pkgPath := "loop.example/g01156/impl", byteOffset := 0 }, { name := "code", type := 2, offset := 8, embedded := false, tag := "", pkgPath := "loop.example/g01156/impl", byteOffset := 64 }]) := ⟨Try.underlying77⟩
instance i77 : Inf Try.prog 77 (.agg #[.nilFunc, .nilFunc, .nilFunc, .nilFunc, .nilFunc, .nilFunc, .nilFunc, .nilFunc, (.int .i64 0)]) 9 72 := ⟨by kernel_rfl⟩
instance u78 : Und Try.prog 78 (TypeDesc.func #[2] #[4] false) := ⟨Try.underlying78⟩
instance i78 : Inf Try.prog 78 .nilFunc 1 8 := ⟨by kernel_rfl⟩
instance u79 : Und Try.prog 79 (TypeDesc.tuple #[24, 25]) := ⟨Try.underlying79⟩
instance u80 : Und Try.prog 80 (TypeDesc.func #[24, 24, 2, 4] #[24, 25] false) := ⟨Try.underlying80⟩
instance i80 : Inf Try.prog 80 .nilFunc 1 8 := ⟨by kernel_rfl⟩
instance u81 : Und Try.prog 81 (TypeDesc.func #[37, 2] #[24] false) := ⟨Try.underlying81⟩
instance i81 : Inf Try.prog 81 .nilFunc 1 8 := ⟨by kernel_rfl⟩
instance u82 : Und Try.prog 82 (TypeDesc.tuple #[25, 4]) := ⟨Try.underlying82⟩
instance u83 : Und Try.prog 83 (TypeDesc.func #[24] #[25, 4] false) := ⟨Try.underlying83⟩
instance i83 : Inf Try.prog 83 .nilFunc 1 8 := ⟨by kernel_rfl⟩
instance u84 : Und Try.prog 84 (TypeDesc.tuple #[47, 4]) := ⟨Try.underlying84⟩
instance u85 : Und Try.prog 85 (TypeDesc.func #[24] #[47, 4] false) := ⟨Try.underlying85⟩
instance i85 : Inf Try.prog 85 .nilFunc 1 8 := ⟨by kernel_rfl⟩
instance u86 : Und Try.prog 86 (TypeDesc.func #[2] #[47] false) := ⟨Try.underlying86⟩
instance i86 : Inf Try.prog 86 .nilFunc 1 8 := ⟨by kernel_rfl⟩
instance u87 : Und Try.prog 87 (TypeDesc.func #[37] #[25] false) := ⟨Try.underlying87⟩
instance i87 : Inf Try.prog 87 .nilFunc 1 8 := ⟨by kernel_rfl⟩
instance u88 : Und Try.prog 88 (TypeDesc.func #[24] #[24] false) := ⟨Try.underlying88⟩
instance i88 : Inf Try.prog 88 .nilFunc 1 8 := ⟨by kernel_rfl⟩
instance u89 : Und Try.prog 89 (TypeDesc.func #[25] #[25] false) := ⟨Try.underlying89⟩
instance i89 : Inf Try.prog 89 .nilFunc 1 8 := ⟨by kernel_rfl⟩
instance u90 : Und Try.prog 90 (TypeDesc.tuple #[47, 2]) := ⟨Try.underlying90⟩
instance u91 : Und Try.prog 91 (TypeDesc.func #[24, 24, 2, 3] #[47, 2] false) := ⟨Try.underlying91⟩
instance i91 : Inf Try.prog 91 .nilFunc 1 8 := ⟨by kernel_rfl⟩
instance u92 : Und Try.prog 92 (TypeDesc.func #[24, 24, 2, 3] #[47] false) := ⟨Try.underlying92⟩
instance i92 : Inf Try.prog 92 .nilFunc 1 8 := ⟨by kernel_rfl⟩
instance u93 : Und Try.prog 93 (TypeDesc.func #[] #[25] false) := ⟨Try.underlying93⟩
instance i93 : Inf Try.prog 93 .nilFunc 1 8 := ⟨by kernel_rfl⟩
instance u94 : Und Try.prog 94 (TypeDesc.func #[60] #[25] false) := ⟨Try.underlying94⟩
instance i94 : Inf Try.prog 94 .nilFunc 1 8 := ⟨by kernel_rfl⟩
instance u95 : Und Try.prog 95 (TypeDesc.func #[25] #[60] false) := ⟨Try.underlying95⟩
instance i95 : Inf Try.prog 95 .nilFunc 1 8 := ⟨by kernel_rfl⟩
instance u96 : Und Try.prog 96 (TypeDesc.func #[24, 24, 3] #[47, 2] false) := ⟨Try.underlying96⟩
instance i96 : Inf Try.prog 96 .nilFunc 1 8 := ⟨by kernel_rfl⟩
instance u97 : Und Try.prog 97 (TypeDesc.func #[24, 47] #[47] false) := ⟨Try.underlying97⟩
instance i97 : Inf Try.prog 97 .nilFunc 1 8 := ⟨by kernel_rfl⟩
instance u98 : Und Try.prog 98 (TypeDesc.func #[47] #[47] false) := ⟨Try.underlying98⟩
instance i98 : Inf Try.prog 98 .nilFunc 1 8 := ⟨by kernel_rfl⟩
instance u99 : Und Try.prog 99 (TypeDesc.func #[25, 2] #[25] false) := ⟨Try.underlying99⟩
instance i99 : Inf Try.prog 99 .nilFunc 1 8 := ⟨by kernel_rfl⟩
instance u100 : Und Try.prog 100 (TypeDesc.func #[24, 47] #[47, 4] false) := ⟨Try.underlying100⟩
instance i100 : Inf Try.prog 100 .nilFunc 1 8 := ⟨by kernel_rfl⟩
instance u101 : Und Try.prog 101 (TypeDesc.func #[47, 47] #[47, 2] false) := ⟨Try.underlying101⟩
instance i101 : Inf Try.prog 101 .nilFunc 1 8 := ⟨by kernel_rfl⟩
instance u102 : Und Try.prog 102 (TypeDesc.func #[3, 3, 47, 48] #[47] false) := ⟨Try.underlying102⟩
instance i102 : Inf Try.prog 102 .nilFunc 1 8 := ⟨by kernel_rfl⟩
instance u103 : Und Try.prog 103 (TypeDesc.func #[] #[9] false) := ⟨Try.underlying103⟩
instance i103 : Inf Try.prog 103 .nilFunc 1 8 := ⟨by kernel_rfl⟩
instance u104 : Und Try.prog 104 (TypeDesc.struct #[{ name := "_interface", type := 17, offset := 0, embedded := false, tag := "", pkgPath := "runtime", byteOffset := 0 }, { name := "concrete", type := 17, offset := 1, embedded := false, tag := "", pkgPath := "runtime", byteOffset := 8 }, { name := "asserted", type := 17, offset := 2, embedded := false, tag := "", pkgPath := "runtime", byteOffset := 16 }, { name := "missingMethod", type := 9, offset := 3, embedded := false, tag := "", pkgPath := "runtime", byteOffset := 24 }]) := ⟨Try.underlying104⟩
instance i104 : Inf Try.prog 104 (.agg #[(.pointer none), (.pointer none), (.pointer none), (.string ⟨#[]⟩)]) 4 40 := ⟨by kernel_rfl⟩
instance u105 : Und Try.prog 105 (TypeDesc.struct #[{ name := "_interface", type := 17, offset := 0, embedded := false, tag := "", pkgPath := "runtime", byteOffset := 0 }, { name := "concrete", type := 17, offset := 1, embedded := false, tag := "", pkgPath := "runtime", byteOffset := 8 }, { name := "asserted", type := 17, offset := 2, embedded := false, tag := "", pkgPath := "runtime", byteOffset := 16 }, { name := "missingMethod", type := 9, offset := 3, embedded := false, tag := "", pkgPath := "runtime", byteOffset := 24 }]) := ⟨Try.underlying105⟩
instance i105 : Inf Try.prog 105 (.agg #[(.pointer none), (.pointer none), (.pointer none), (.string ⟨#[]⟩)]) 4 40 := ⟨by kernel_rfl⟩
instance u106 : Und Try.prog 106 (TypeDesc.array 0 16) := ⟨Try.underlying106⟩
instance i106 : Inf Try.prog 106 (.agg #[]) 0 0 := ⟨by kernel_rfl⟩
instance u107 : Und Try.prog 107 (TypeDesc.struct #[{ name := "_", type := 106, offset := 0, embedded := false, tag := "", pkgPath := "runtime", byteOffset := 0 }]) := ⟨Try.underlying107⟩
instance i107 : Inf Try.prog 107 (.agg #[]) 0 0 := ⟨by kernel_rfl⟩
instance u108 : Und Try.prog 108 (TypeDesc.struct #[{ name := "_", type := 106, offset := 0, embedded := false, tag := "", pkgPath := "runtime", byteOffset := 0 }]) := ⟨Try.underlying108⟩
instance i108 : Inf Try.prog 108 (.agg #[]) 0 0 := ⟨by kernel_rfl⟩
instance u109 : Und Try.prog 109 (TypeDesc.func #[] #[3] false) := ⟨Try.underlying109⟩
instance i109 : Inf Try.prog 109 .nilFunc 1 8 := ⟨by kernel_rfl⟩
instance u110 : Und Try.prog 110 (TypeDesc.int IntKind.u32) := ⟨Try.underlying110⟩
instance i110 : Inf Try.prog 110 (.int .u32 0) 1 4 := ⟨by kernel_rfl⟩
instance u111 : Und Try.prog 111 (TypeDesc.int IntKind.u8) := ⟨Try.underlying111⟩
instance i111 : Inf Try.prog 111 (.int .u8 0) 1 1 := ⟨by kernel_rfl⟩
instance u112 : Und Try.prog 112 (TypeDesc.int IntKind.u8) := ⟨Try.underlying112⟩
instance i112 : Inf Try.prog 112 (.int .u8 0) 1 1 := ⟨by kernel_rfl⟩
instance u113 : Und Try.prog 113 (TypeDesc.func #[119, 119] #[4] false) := ⟨Try.underlying113⟩
instance i113 : Inf Try.prog 113 .nilFunc 1 8 := ⟨by kernel_rfl⟩
instance u114 : Und Try.prog 114 (TypeDesc.pointer 5) := ⟨Try.underlying114⟩
instance i114 : Inf Try.prog 114 (.pointer none) 1 8 := ⟨by kernel_rfl⟩
instance u115 : Und Try.prog 115 (TypeDesc.int IntKind.i32) := ⟨Try.underlying115⟩
instance i115 : Inf Try.prog 115 (.int .i32 0) 1 4 := ⟨by kernel_rfl⟩
instance u116 : Und Try.prog 116 (TypeDesc.int IntKind.i32) := ⟨Try.underlying116⟩
instance i116 : Inf Try.prog 116 (.int .i32 0) 1 4 := ⟨by kernel_rfl⟩
instance u117 : Und Try.prog 117 (TypeDesc.struct #[{ name := "Size_", type := 12, offset := 0, embedded := false, tag := "", pkgPath := "", byteOffset := 0 }, { name := "PtrBytes", type := 12, offset := 1, embedded := false, tag := "", pkgPath := "", byteOffset := 8 }, { name := "Hash", type := 110, offset := 2, embedded := false, tag := "", pkgPath := "", byteOffset := 16 }, { name := "TFlag", type := 111, offset := 3, embedded := false, tag := "", pkgPath := "", byteOffset := 20 }, { name := "Align_", type := 5, offset := 4, embedded := false, tag := "", pkgPath := "", byteOffset := 21 }, { name := "FieldAlign_", type := 5, offset := 5, embedded := false, tag := "", pkgPath := "", byteOffset := 22 }, { name := "Kind_", type := 112, offset := 6, embedded := false, tag := "", pkgPath := "", byteOffset := 23 }, { name := "Equal", type := 113, offset := 7, embedded := false, tag := "", pkgPath := "", byteOffset := 24 }, { name := "GCData", type := 114, offset := 8, embedded := false, tag := "", pkgPath := "", byteOffset := 32 }, { name := "Str", type := 115, offset := 9, embedded := false, tag := "", pkgPath := "", byteOffset := 40 }, { name := "PtrToThis", type := 116, offset := 10, embedded := false, tag := "", pkgPath := "", byteOffset := 44 }]) := ⟨Try.underlying117⟩
instance i117 : Inf Try.prog 117 (.agg #[(.int .u64 0), (.int .u64 0), (.int .u32 0), (.int .u8 0), (.int .u8 0), (.int .u8 0), (.int .u8 0), .nilFunc, (.pointer none), (.int .i32 0), (.int .i32 0)]) 11 48 := ⟨by kernel_rfl⟩
instance u118 : Und Try.prog 118 (TypeDesc.struct #[{ name := "Size_", type := 12, offset := 0, embedded := false, tag := "", pkgPath := "", byteOffset := 0 }, { name := "PtrBytes", type := 12, offset := 1, embedded := false, tag := "", pkgPath := "", byteOffset := 8 }, { name := "Hash", type := 110, offset := 2, embedded := false, tag := "", pkgPath := "", byteOffset := 16 }, { name := "TFlag", type := 111, offset := 3, embedded := false, tag := "", pkgPath := "", byteOffset := 20 }, { name := "Align_", type := 5, offset := 4, embedded := false, tag := "", pkgPath := "", byteOffset := 21 }, { name := "FieldAlign_", type := 5, offset := 5, embedded := false, tag := "", pkgPath := "", byteOffset := 22 }, { name := "Kind_", type := 112, offset := 6, embedded := false, tag := "", pkgPath := "", byteOffset := 23 }, { name := "Equal", type := 113, offset := 7, embedded := false, tag := "", pkgPath := "", byteOffset := 24 }, { name := "GCData", type := 114, offset := 8, embedded := false, tag := "", pkgPath := "", byteOffset := 32 }, { name := "Str", type := 115, offset := 9, embedded := false, tag := "", pkgPath := "", byteOffset := 40 }, { name := "PtrToThis", type := 116, offset := 10, embedded := false, tag := "", pkgPath := "", byteOffset := 44 }]) := ⟨Try.underlying118⟩
instance i118 : Inf Try.prog 118 (.agg #[(.int .u64 0), (.int .u64 0), (.int .u32 0), (.int .u8 0), (.int .u8 0), (.int .u8 0), (.int .u8 0), .nilFunc, (.pointer none), (.int .i32 0), (.int .i32 0)]) 11 48 := ⟨by kernel_rfl⟩
instance u119 : Und Try.prog 119 (TypeDesc.unsafePointer) := ⟨Try.underlying119⟩
instance i119 : Inf Try.prog 119 (.pointer none) 1 8 := ⟨by kernel_rfl⟩
end Go.Proofs.Ytbclejclkicgnaa.K
