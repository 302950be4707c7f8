/- What the engine is told of the types: written by a program (gen_types.py). -/
import Derived.Test.YtbllgmcpebifhaaGreatDoorZKa
import Derived.Test.YtbllgmcpebifhaaGreatDoorProg
namespace Go.Proofs.YtbllgmcpebifhaaGreatDoor.K
open Go
set_option maxRecDepth 100000

instance u0 : Und Tryz.prog 0 (TypeDesc.tuple #[]) := ⟨Tryz.underlying0⟩
instance u2 : Und Tryz.prog 2 (TypeDesc.int IntKind.i64) := ⟨Tryz.underlying2⟩
instance i2 : Inf Tryz.prog 2 (.int .i64 0) 1 8 := ⟨by kernel_rfl⟩
instance u3 : Und Tryz.prog 3 (TypeDesc.int IntKind.i64) := ⟨Tryz.underlying3⟩
instance i3 : Inf Tryz.prog 3 (.int .i64 0) 1 8 := ⟨by kernel_rfl⟩
instance u4 : Und Tryz.prog 4 (TypeDesc.bool) := ⟨Tryz.underlying4⟩
instance i4 : Inf Tryz.prog 4 (.bool false) 1 1 := ⟨by kernel_rfl⟩
instance u5 : Und Tryz.prog 5 (TypeDesc.int IntKind.u8) := ⟨Tryz.underlying5⟩
instance i5 : Inf Tryz.prog 5 (.int .u8 0) 1 1 := ⟨by kernel_rfl⟩
instance u9 : Und Tryz.prog 9 (TypeDesc.string) := ⟨Tryz.underlying9⟩
instance i9 : Inf Tryz.prog 9 (.string ⟨#[]⟩) 1 16 := ⟨by kernel_rfl⟩
instance u22 : Und Tryz.prog 22 (TypeDesc.slice 5) := ⟨Tryz.underlying22⟩
instance i22 : Inf Tryz.prog 22 (.slice none 0 0) 1 24 := ⟨by kernel_rfl⟩
instance u24 : Und Tryz.prog 24 (TypeDesc.complex FloatKind.f64) := ⟨Tryz.underlying24⟩
instance i24 : Inf Tryz.prog 24 (.complex .f64 0 0) 1 16 := ⟨by kernel_rfl⟩
instance u26 : Und Tryz.prog 26 (TypeDesc.tuple #[24, 2]) := ⟨Tryz.underlying26⟩
instance u30 : Und Tryz.prog 30 (TypeDesc.slice 24) := ⟨Tryz.underlying30⟩
instance i30 : Inf Tryz.prog 30 (.slice none 0 0) 1 24 := ⟨by kernel_rfl⟩
instance u35 : Und Tryz.prog 35 (TypeDesc.float FloatKind.f64) := ⟨Tryz.underlying35⟩
instance i35 : Inf Tryz.prog 35 (.float .f64 0) 1 8 := ⟨by kernel_rfl⟩
instance u43 : Und Tryz.prog 43 (TypeDesc.slice 2) := ⟨Tryz.underlying43⟩
instance i43 : Inf Tryz.prog 43 (.slice none 0 0) 1 24 := ⟨by kernel_rfl⟩
instance u46 : Und Tryz.prog 46 (TypeDesc.struct #[{ name := "Sign", type := 2, offset := 0, embedded := false, tag := "", pkgPath := "", byteOffset := 0 }, { name := "Limbs", type := 43, offset := 1, embedded := false, tag := "", pkgPath := "", byteOffset := 8 }]) := ⟨Tryz.underlying46⟩
instance i46 : Inf Tryz.prog 46 (.agg #[(.int .i64 0), (.slice none 0 0)]) 2 32 := ⟨by kernel_rfl⟩
instance u48 : Und Tryz.prog 48 (TypeDesc.struct #[{ name := "Whole", type := 46, offset := 0, embedded := false, tag := "", pkgPath := "", byteOffset := 0 }, { name := "Exponent", type := 2, offset := 2, embedded := false, tag := "", pkgPath := "", byteOffset := 32 }]) := ⟨Tryz.underlying48⟩
instance i48 : Inf Tryz.prog 48 (.agg #[(.int .i64 0), (.slice none 0 0), (.int .i64 0)]) 3 40 := ⟨by kernel_rfl⟩
instance u49 : Und Tryz.prog 49 (TypeDesc.tuple #[48, 48]) := ⟨Tryz.underlying49⟩
instance u51 : Und Tryz.prog 51 (TypeDesc.tuple #[48, 2]) := ⟨Tryz.underlying51⟩
instance u53 : Und Tryz.prog 53 (TypeDesc.tuple #[2, 2]) := ⟨Tryz.underlying53⟩
instance u57 : Und Tryz.prog 57 (TypeDesc.tuple #[35, 2]) := ⟨Tryz.underlying57⟩
instance u64 : Und Tryz.prog 64 (TypeDesc.tuple #[9, 2]) := ⟨Tryz.underlying64⟩
instance u87 : Und Tryz.prog 87 (TypeDesc.pointer 166) := ⟨Tryz.underlying87⟩
instance i87 : Inf Tryz.prog 87 (.pointer none) 1 8 := ⟨by kernel_rfl⟩
instance u92 : Und Tryz.prog 92 (TypeDesc.tuple #[24, 4]) := ⟨Tryz.underlying92⟩
instance u100 : Und Tryz.prog 100 (TypeDesc.slice 35) := ⟨Tryz.underlying100⟩
instance i100 : Inf Tryz.prog 100 (.slice none 0 0) 1 24 := ⟨by kernel_rfl⟩
instance u107 : Und Tryz.prog 107 (TypeDesc.func #[111, 111] #[111] false) := ⟨Tryz.underlying107⟩
instance i107 : Inf Tryz.prog 107 .nilFunc 1 8 := ⟨by kernel_rfl⟩
instance u109 : Und Tryz.prog 109 (TypeDesc.pointer 189) := ⟨Tryz.underlying109⟩
instance i109 : Inf Tryz.prog 109 (.pointer none) 1 8 := ⟨by kernel_rfl⟩
instance u111 : Und Tryz.prog 111 (TypeDesc.struct #[{ name := "whole", type := 109, offset := 0, embedded := false, tag := "", pkgPath := "loop.example/g01156/impl", byteOffset := 0 }, { name := "power", type := 2, offset := 1, embedded := false, tag := "", pkgPath := "loop.example/g01156/impl", byteOffset := 8 }]) := ⟨Tryz.underlying111⟩
instance i111 : Inf Tryz.prog 111 (.agg #[(.pointer none), (.int .i64 0)]) 2 16 := ⟨by kernel_rfl⟩
instance u120 : Und Tryz.prog 120 (TypeDesc.tuple #[35, 4]) := ⟨Tryz.underlying120⟩
instance u132 : Und Tryz.prog 132 (TypeDesc.tuple #[9, 9, 4]) := ⟨Tryz.underlying132⟩
instance u134 : Und Tryz.prog 134 (TypeDesc.tuple #[46, 2]) := ⟨Tryz.underlying134⟩
instance u137 : Und Tryz.prog 137 ((TypeDesc.interface #[("Error", 140)])) := ⟨Tryz.underlying137⟩
instance i137 : Inf Tryz.prog 137 .nilIface 1 16 := ⟨by kernel_rfl⟩
instance u138 : Und Tryz.prog 138 (TypeDesc.tuple #[2, 137]) := ⟨Tryz.underlying138⟩
instance u141 : Und Tryz.prog 141 (TypeDesc.tuple #[48, 4]) := ⟨Tryz.underlying141⟩
instance u144 : Und Tryz.prog 144 (TypeDesc.slice 9) := ⟨Tryz.underlying144⟩
instance i144 : Inf Tryz.prog 144 (.slice none 0 0) 1 24 := ⟨by kernel_rfl⟩
instance u164 : Und Tryz.prog 164 (TypeDesc.int IntKind.u64) := ⟨Tryz.underlying164⟩
instance i164 : Inf Tryz.prog 164 (.int .u64 0) 1 8 := ⟨by kernel_rfl⟩
instance u166 : Und Tryz.prog 166 (TypeDesc.struct #[{ name := "code", type := 22, offset := 0, embedded := false, tag := "", pkgPath := "loop.example/g01156/spec", byteOffset := 0 }, { name := "at", type := 3, offset := 1, embedded := false, tag := "", pkgPath := "loop.example/g01156/spec", byteOffset := 24 }, { name := "hash", type := 164, offset := 2, embedded := false, tag := "", pkgPath := "loop.example/g01156/spec", byteOffset := 32 }]) := ⟨Tryz.underlying166⟩
instance i166 : Inf Tryz.prog 166 (.agg #[(.slice none 0 0), (.int .i64 0), (.int .u64 0)]) 3 40 := ⟨by kernel_rfl⟩
instance u167 : Und Tryz.prog 167 (TypeDesc.int IntKind.u64) := ⟨Tryz.underlying167⟩
instance i167 : Inf Tryz.prog 167 (.int .u64 0) 1 8 := ⟨by kernel_rfl⟩
instance u177 : Und Tryz.prog 177 (TypeDesc.tuple #[109, 109, 2]) := ⟨Tryz.underlying177⟩
instance u187 : Und Tryz.prog 187 (TypeDesc.slice 220) := ⟨Tryz.underlying187⟩
instance i187 : Inf Tryz.prog 187 (.slice none 0 0) 1 24 := ⟨by kernel_rfl⟩
instance u189 : Und Tryz.prog 189 (TypeDesc.struct #[{ name := "neg", type := 4, offset := 0, embedded := false, tag := "", pkgPath := "loop.example/g01156/impl", byteOffset := 0 }, { name := "mag", type := 187, offset := 1, embedded := false, tag := "", pkgPath := "loop.example/g01156/impl", byteOffset := 8 }]) := ⟨Tryz.underlying189⟩
instance i189 : Inf Tryz.prog 189 (.agg #[(.bool false), (.slice none 0 0)]) 2 32 := ⟨by kernel_rfl⟩
instance u195 : Und Tryz.prog 195 (TypeDesc.tuple #[109, 4]) := ⟨Tryz.underlying195⟩
instance u199 : Und Tryz.prog 199 (TypeDesc.tuple #[46, 4]) := ⟨Tryz.underlying199⟩
instance u218 : Und Tryz.prog 218 (TypeDesc.tuple #[35, 3]) := ⟨Tryz.underlying218⟩
instance u220 : Und Tryz.prog 220 (TypeDesc.int IntKind.u32) := ⟨Tryz.underlying220⟩
instance i220 : Inf Tryz.prog 220 (.int .u32 0) 1 4 := ⟨by kernel_rfl⟩
instance u245 : Und Tryz.prog 245 (TypeDesc.tuple #[187, 187]) := ⟨Tryz.underlying245⟩
instance u258 : Und Tryz.prog 258 (TypeDesc.array 32 5) := ⟨Tryz.underlying258⟩
instance i258 : Inf Tryz.prog 258 (.agg #[(.int .u8 0), (.int .u8 0), (.int .u8 0), (.int .u8 0), (.int .u8 0), (.int .u8 0), (.int .u8 0), (.int .u8 0), (.int .u8 0), (.int .u8 0), (.int .u8 0), (.int .u8 0), (.int .u8 0), (.int .u8 0), (.int .u8 0), (.int .u8 0), (.int .u8 0), (.int .u8 0), (.int .u8 0), (.int .u8 0), (.int .u8 0), (.int .u8 0), (.int .u8 0), (.int .u8 0), (.int .u8 0), (.int .u8 0), (.int .u8 0), (.int .u8 0), (.int .u8 0), (.int .u8 0), (.int .u8 0), (.int .u8 0)]) 32 32 := ⟨by kernel_rfl⟩
end Go.Proofs.YtbllgmcpebifhaaGreatDoor.K
