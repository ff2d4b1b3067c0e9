import Derived.Test.YtejncabmppobfaaProg
import Derived.Test.YtejncabmppobfaaW8
import Derived.KernelRfl
/- What is known of the types of this seat's translation. By a program of this repository (gentypes.py). -/
namespace Go.Proofs.Ytejncabmppobfaa
open Go.V
set_option maxRecDepth 10000

/-- This seat lists no table. -/
instance globs : Globs := ⟨fun _ => none, fun _ _ h => (by cases h), fun _ => none⟩
theorem globOk (w : World) : GlobOk w noLoc := ⟨fun _ _ h => (by cases h), fun _ _ h => (by cases h)⟩
def ti1 : TI := ⟨.func, 1, 8, .nilFunc⟩
theorem tiOk1 : TIOk Try.prog 1 ti1 := ⟨⟨_, _, _, Try.underlying1⟩, ⟨_, rfl, rfl, rfl, rfl⟩, rfl, rfl, by first | exact fun _ => ⟨_, rfl⟩ | exact fun h => absurd h (by decide)⟩
@[simp] theorem ti1_size : ti1.size = 1 := rfl
@[simp] theorem ti1_bytes : ti1.bytes = 8 := rfl
def ti2 : TI := ⟨.int .i64, 1, 8, (.int .i64 0)⟩
theorem tiOk2 : TIOk Try.prog 2 ti2 := ⟨Try.underlying2, ⟨_, rfl, rfl, rfl, rfl⟩, rfl, rfl, by first | exact fun _ => ⟨_, rfl⟩ | exact fun h => absurd h (by decide)⟩
@[simp] theorem ti2_size : ti2.size = 1 := rfl
@[simp] theorem ti2_bytes : ti2.bytes = 8 := rfl
def ti3 : TI := ⟨.int .i64, 1, 8, (.int .i64 0)⟩
theorem tiOk3 : TIOk Try.prog 3 ti3 := ⟨Try.underlying3, ⟨_, rfl, rfl, rfl, rfl⟩, rfl, rfl, by first | exact fun _ => ⟨_, rfl⟩ | exact fun h => absurd h (by decide)⟩
@[simp] theorem ti3_size : ti3.size = 1 := rfl
@[simp] theorem ti3_bytes : ti3.bytes = 8 := rfl
def ti4 : TI := ⟨.bool, 1, 1, (.bool false)⟩
theorem tiOk4 : TIOk Try.prog 4 ti4 := ⟨Try.underlying4, ⟨_, rfl, rfl, rfl, rfl⟩, rfl, rfl, by first | exact fun _ => ⟨_, rfl⟩ | exact fun h => absurd h (by decide)⟩
@[simp] theorem ti4_size : ti4.size = 1 := rfl
@[simp] theorem ti4_bytes : ti4.bytes = 1 := rfl
def ti5 : TI := ⟨.int .u8, 1, 1, (.int .u8 0)⟩
theorem tiOk5 : TIOk Try.prog 5 ti5 := ⟨Try.underlying5, ⟨_, rfl, rfl, rfl, rfl⟩, rfl, rfl, by first | exact fun _ => ⟨_, rfl⟩ | exact fun h => absurd h (by decide)⟩
@[simp] theorem ti5_size : ti5.size = 1 := rfl
@[simp] theorem ti5_bytes : ti5.bytes = 1 := rfl
def ti6 : TI := ⟨.int .u8, 1, 1, (.int .u8 0)⟩
theorem tiOk6 : TIOk Try.prog 6 ti6 := ⟨Try.underlying6, ⟨_, rfl, rfl, rfl, rfl⟩, rfl, rfl, by first | exact fun _ => ⟨_, rfl⟩ | exact fun h => absurd h (by decide)⟩
@[simp] theorem ti6_size : ti6.size = 1 := rfl
@[simp] theorem ti6_bytes : ti6.bytes = 1 := rfl
def ti7 : TI := ⟨.struct [(0, 2), (1, 3), (2, 4), (3, 6)], 4, 24, (.agg ⟨[(.int .i64 0), (.int .i64 0)] ++ [(.bool false)] ++ [(.int .u8 0)]⟩)⟩
theorem tiOk7 : TIOk Try.prog 7 ti7 := ⟨⟨_, Try.underlying7, rfl⟩, ⟨_, rfl, rfl, rfl, rfl⟩, rfl, rfl, by first | exact fun _ => ⟨_, rfl⟩ | exact fun h => absurd h (by decide)⟩
@[simp] theorem ti7_size : ti7.size = 4 := rfl
@[simp] theorem ti7_bytes : ti7.bytes = 24 := rfl
def ti8 : TI := ⟨.struct [(0, 2), (1, 3), (2, 4), (3, 6)], 4, 24, (.agg ⟨[(.int .i64 0), (.int .i64 0)] ++ [(.bool false)] ++ [(.int .u8 0)]⟩)⟩
theorem tiOk8 : TIOk Try.prog 8 ti8 := ⟨⟨_, Try.underlying8, rfl⟩, ⟨_, rfl, rfl, rfl, rfl⟩, rfl, rfl, by first | exact fun _ => ⟨_, rfl⟩ | exact fun h => absurd h (by decide)⟩
@[simp] theorem ti8_size : ti8.size = 4 := rfl
@[simp] theorem ti8_bytes : ti8.bytes = 24 := rfl
def ti9 : TI := ⟨.str, 1, 16, (.string ⟨#[]⟩)⟩
theorem tiOk9 : TIOk Try.prog 9 ti9 := ⟨Try.underlying9, ⟨_, rfl, rfl, rfl, rfl⟩, rfl, rfl, by first | exact fun _ => ⟨_, rfl⟩ | exact fun h => absurd h (by decide)⟩
@[simp] theorem ti9_size : ti9.size = 1 := rfl
@[simp] theorem ti9_bytes : ti9.bytes = 16 := rfl
def ti10 : TI := ⟨.str, 1, 16, (.string ⟨#[]⟩)⟩
theorem tiOk10 : TIOk Try.prog 10 ti10 := ⟨Try.underlying10, ⟨_, rfl, rfl, rfl, rfl⟩, rfl, rfl, by first | exact fun _ => ⟨_, rfl⟩ | exact fun h => absurd h (by decide)⟩
@[simp] theorem ti10_size : ti10.size = 1 := rfl
@[simp] theorem ti10_bytes : ti10.bytes = 16 := rfl
def ti11 : TI := ⟨.str, 1, 16, (.string ⟨#[]⟩)⟩
theorem tiOk11 : TIOk Try.prog 11 ti11 := ⟨Try.underlying11, ⟨_, rfl, rfl, rfl, rfl⟩, rfl, rfl, by first | exact fun _ => ⟨_, rfl⟩ | exact fun h => absurd h (by decide)⟩
@[simp] theorem ti11_size : ti11.size = 1 := rfl
@[simp] theorem ti11_bytes : ti11.bytes = 16 := rfl
def ti12 : TI := ⟨.int .u64, 1, 8, (.int .u64 0)⟩
theorem tiOk12 : TIOk Try.prog 12 ti12 := ⟨Try.underlying12, ⟨_, rfl, rfl, rfl, rfl⟩, rfl, rfl, by first | exact fun _ => ⟨_, rfl⟩ | exact fun h => absurd h (by decide)⟩
@[simp] theorem ti12_size : ti12.size = 1 := rfl
@[simp] theorem ti12_bytes : ti12.bytes = 8 := rfl
def ti13 : TI := ⟨.struct [(0, 9), (1, 12)], 2, 24, (.agg ⟨[(.string ⟨#[]⟩)] ++ [(.int .u64 0)]⟩)⟩
theorem tiOk13 : TIOk Try.prog 13 ti13 := ⟨⟨_, Try.underlying13, rfl⟩, ⟨_, rfl, rfl, rfl, rfl⟩, rfl, rfl, by first | exact fun _ => ⟨_, rfl⟩ | exact fun h => absurd h (by decide)⟩
@[simp] theorem ti13_size : ti13.size = 2 := rfl
@[simp] theorem ti13_bytes : ti13.bytes = 24 := rfl
def ti14 : TI := ⟨.struct [(0, 9), (1, 12)], 2, 24, (.agg ⟨[(.string ⟨#[]⟩)] ++ [(.int .u64 0)]⟩)⟩
theorem tiOk14 : TIOk Try.prog 14 ti14 := ⟨⟨_, Try.underlying14, rfl⟩, ⟨_, rfl, rfl, rfl, rfl⟩, rfl, rfl, by first | exact fun _ => ⟨_, rfl⟩ | exact fun h => absurd h (by decide)⟩
@[simp] theorem ti14_size : ti14.size = 2 := rfl
@[simp] theorem ti14_bytes : ti14.bytes = 24 := rfl
def ti15 : TI := ⟨.ptr, 1, 8, (.pointer none)⟩
theorem tiOk15 : TIOk Try.prog 15 ti15 := ⟨⟨_, Try.underlying15⟩, ⟨_, rfl, rfl, rfl, rfl⟩, rfl, rfl, by first | exact fun _ => ⟨_, rfl⟩ | exact fun h => absurd h (by decide)⟩
@[simp] theorem ti15_size : ti15.size = 1 := rfl
@[simp] theorem ti15_bytes : ti15.bytes = 8 := rfl
def ti16 : TI := ⟨.ptr, 1, 8, (.pointer none)⟩
theorem tiOk16 : TIOk Try.prog 16 ti16 := ⟨⟨_, Try.underlying16⟩, ⟨_, rfl, rfl, rfl, rfl⟩, rfl, rfl, by first | exact fun _ => ⟨_, rfl⟩ | exact fun h => absurd h (by decide)⟩
@[simp] theorem ti16_size : ti16.size = 1 := rfl
@[simp] theorem ti16_bytes : ti16.bytes = 8 := rfl
def ti17 : TI := ⟨.ptr, 1, 8, (.pointer none)⟩
theorem tiOk17 : TIOk Try.prog 17 ti17 := ⟨⟨_, Try.underlying17⟩, ⟨_, rfl, rfl, rfl, rfl⟩, rfl, rfl, by first | exact fun _ => ⟨_, rfl⟩ | exact fun h => absurd h (by decide)⟩
@[simp] theorem ti17_size : ti17.size = 1 := rfl
@[simp] theorem ti17_bytes : ti17.bytes = 8 := rfl
def ti18 : TI := ⟨.struct [(0, 17)], 1, 8, (.agg ⟨[(.pointer none)]⟩)⟩
theorem tiOk18 : TIOk Try.prog 18 ti18 := ⟨⟨_, Try.underlying18, rfl⟩, ⟨_, rfl, rfl, rfl, rfl⟩, rfl, rfl, by first | exact fun _ => ⟨_, rfl⟩ | exact fun h => absurd h (by decide)⟩
@[simp] theorem ti18_size : ti18.size = 1 := rfl
@[simp] theorem ti18_bytes : ti18.bytes = 8 := rfl
def ti19 : TI := ⟨.struct [(0, 17)], 1, 8, (.agg ⟨[(.pointer none)]⟩)⟩
theorem tiOk19 : TIOk Try.prog 19 ti19 := ⟨⟨_, Try.underlying19, rfl⟩, ⟨_, rfl, rfl, rfl, rfl⟩, rfl, rfl, by first | exact fun _ => ⟨_, rfl⟩ | exact fun h => absurd h (by decide)⟩
@[simp] theorem ti19_size : ti19.size = 1 := rfl
@[simp] theorem ti19_bytes : ti19.bytes = 8 := rfl
def ti21 : TI := ⟨.int .i32, 1, 4, (.int .i32 0)⟩
theorem tiOk21 : TIOk Try.prog 21 ti21 := ⟨Try.underlying21, ⟨_, rfl, rfl, rfl, rfl⟩, rfl, rfl, by first | exact fun _ => ⟨_, rfl⟩ | exact fun h => absurd h (by decide)⟩
@[simp] theorem ti21_size : ti21.size = 1 := rfl
@[simp] theorem ti21_bytes : ti21.bytes = 4 := rfl
def ti22 : TI := ⟨.int .i8, 1, 1, (.int .i8 0)⟩
theorem tiOk22 : TIOk Try.prog 22 ti22 := ⟨Try.underlying22, ⟨_, rfl, rfl, rfl, rfl⟩, rfl, rfl, by first | exact fun _ => ⟨_, rfl⟩ | exact fun h => absurd h (by decide)⟩
@[simp] theorem ti22_size : ti22.size = 1 := rfl
@[simp] theorem ti22_bytes : ti22.bytes = 1 := rfl
def ti23 : TI := ⟨.arr 8 5, 8, 8, (.agg ⟨List.replicate 8 (.int .u8 0)⟩)⟩
theorem tiOk23 : TIOk Try.prog 23 ti23 := ⟨Try.underlying23, ⟨_, rfl, rfl, rfl, rfl⟩, rfl, rfl, by first | exact fun _ => ⟨_, rfl⟩ | exact fun h => absurd h (by decide)⟩
@[simp] theorem ti23_size : ti23.size = 8 := rfl
@[simp] theorem ti23_bytes : ti23.bytes = 8 := rfl
def ti24 : TI := ⟨.arr 8 23, 64, 64, (.agg ⟨List.replicate 64 (.int .u8 0)⟩)⟩
theorem tiOk24 : TIOk Try.prog 24 ti24 := ⟨Try.underlying24, ⟨_, rfl, rfl, rfl, rfl⟩, rfl, rfl, by first | exact fun _ => ⟨_, rfl⟩ | exact fun h => absurd h (by decide)⟩
@[simp] theorem ti24_size : ti24.size = 64 := rfl
@[simp] theorem ti24_bytes : ti24.bytes = 64 := rfl
def ti25 : TI := ⟨.struct [(0, 22), (1, 22), (2, 5), (3, 24)], 67, 67, (.agg ⟨[(.int .i8 0), (.int .i8 0)] ++ List.replicate 65 (.int .u8 0)⟩)⟩
theorem tiOk25 : TIOk Try.prog 25 ti25 := ⟨⟨_, Try.underlying25, rfl⟩, ⟨_, rfl, rfl, rfl, rfl⟩, rfl, rfl, by first | exact fun _ => ⟨_, rfl⟩ | exact fun h => absurd h (by decide)⟩
@[simp] theorem ti25_size : ti25.size = 67 := rfl
@[simp] theorem ti25_bytes : ti25.bytes = 67 := rfl
def ti26 : TI := ⟨.struct [(0, 22), (1, 22), (2, 5), (3, 24)], 67, 67, (.agg ⟨[(.int .i8 0), (.int .i8 0)] ++ List.replicate 65 (.int .u8 0)⟩)⟩
theorem tiOk26 : TIOk Try.prog 26 ti26 := ⟨⟨_, Try.underlying26, rfl⟩, ⟨_, rfl, rfl, rfl, rfl⟩, rfl, rfl, by first | exact fun _ => ⟨_, rfl⟩ | exact fun h => absurd h (by decide)⟩
@[simp] theorem ti26_size : ti26.size = 67 := rfl
@[simp] theorem ti26_bytes : ti26.bytes = 67 := rfl
def ti27 : TI := ⟨.int .i16, 1, 2, (.int .i16 0)⟩
theorem tiOk27 : TIOk Try.prog 27 ti27 := ⟨Try.underlying27, ⟨_, rfl, rfl, rfl, rfl⟩, rfl, rfl, by first | exact fun _ => ⟨_, rfl⟩ | exact fun h => absurd h (by decide)⟩
@[simp] theorem ti27_size : ti27.size = 1 := rfl
@[simp] theorem ti27_bytes : ti27.bytes = 2 := rfl
def ti28 : TI := ⟨.arr 17 27, 17, 34, (.agg ⟨List.replicate 17 (.int .i16 0)⟩)⟩
theorem tiOk28 : TIOk Try.prog 28 ti28 := ⟨Try.underlying28, ⟨_, rfl, rfl, rfl, rfl⟩, rfl, rfl, by first | exact fun _ => ⟨_, rfl⟩ | exact fun h => absurd h (by decide)⟩
@[simp] theorem ti28_size : ti28.size = 17 := rfl
@[simp] theorem ti28_bytes : ti28.bytes = 34 := rfl
def ti29 : TI := ⟨.slice 53, 1, 24, (.slice none 0 0)⟩
theorem tiOk29 : TIOk Try.prog 29 ti29 := ⟨Try.underlying29, ⟨_, rfl, rfl, rfl, rfl⟩, rfl, rfl, by first | exact fun _ => ⟨_, rfl⟩ | exact fun h => absurd h (by decide)⟩
@[simp] theorem ti29_size : ti29.size = 1 := rfl
@[simp] theorem ti29_bytes : ti29.bytes = 24 := rfl
def ti30 : TI := ⟨.func, 1, 8, .nilFunc⟩
theorem tiOk30 : TIOk Try.prog 30 ti30 := ⟨⟨_, _, _, Try.underlying30⟩, ⟨_, rfl, rfl, rfl, rfl⟩, rfl, rfl, by first | exact fun _ => ⟨_, rfl⟩ | exact fun h => absurd h (by decide)⟩
@[simp] theorem ti30_size : ti30.size = 1 := rfl
@[simp] theorem ti30_bytes : ti30.bytes = 8 := rfl
def ti31 : TI := ⟨.slice 2, 1, 24, (.slice none 0 0)⟩
theorem tiOk31 : TIOk Try.prog 31 ti31 := ⟨Try.underlying31, ⟨_, rfl, rfl, rfl, rfl⟩, rfl, rfl, by first | exact fun _ => ⟨_, rfl⟩ | exact fun h => absurd h (by decide)⟩
@[simp] theorem ti31_size : ti31.size = 1 := rfl
@[simp] theorem ti31_bytes : ti31.bytes = 24 := rfl
def ti33 : TI := ⟨.func, 1, 8, .nilFunc⟩
theorem tiOk33 : TIOk Try.prog 33 ti33 := ⟨⟨_, _, _, Try.underlying33⟩, ⟨_, rfl, rfl, rfl, rfl⟩, rfl, rfl, by first | exact fun _ => ⟨_, rfl⟩ | exact fun h => absurd h (by decide)⟩
@[simp] theorem ti33_size : ti33.size = 1 := rfl
@[simp] theorem ti33_bytes : ti33.bytes = 8 := rfl
def ti34 : TI := ⟨.struct [(0, 22), (1, 22), (2, 5), (3, 24)], 67, 67, (.agg ⟨[(.int .i8 0), (.int .i8 0)] ++ List.replicate 65 (.int .u8 0)⟩)⟩
theorem tiOk34 : TIOk Try.prog 34 ti34 := ⟨⟨_, Try.underlying34, rfl⟩, ⟨_, rfl, rfl, rfl, rfl⟩, rfl, rfl, by first | exact fun _ => ⟨_, rfl⟩ | exact fun h => absurd h (by decide)⟩
@[simp] theorem ti34_size : ti34.size = 67 := rfl
@[simp] theorem ti34_bytes : ti34.bytes = 67 := rfl
def ti35 : TI := ⟨.func, 1, 8, .nilFunc⟩
theorem tiOk35 : TIOk Try.prog 35 ti35 := ⟨⟨_, _, _, Try.underlying35⟩, ⟨_, rfl, rfl, rfl, rfl⟩, rfl, rfl, by first | exact fun _ => ⟨_, rfl⟩ | exact fun h => absurd h (by decide)⟩
@[simp] theorem ti35_size : ti35.size = 1 := rfl
@[simp] theorem ti35_bytes : ti35.bytes = 8 := rfl
def ti36 : TI := ⟨.arr 17 27, 17, 34, (.agg ⟨List.replicate 17 (.int .i16 0)⟩)⟩
theorem tiOk36 : TIOk Try.prog 36 ti36 := ⟨Try.underlying36, ⟨_, rfl, rfl, rfl, rfl⟩, rfl, rfl, by first | exact fun _ => ⟨_, rfl⟩ | exact fun h => absurd h (by decide)⟩
@[simp] theorem ti36_size : ti36.size = 17 := rfl
@[simp] theorem ti36_bytes : ti36.bytes = 34 := rfl
def ti37 : TI := ⟨.func, 1, 8, .nilFunc⟩
theorem tiOk37 : TIOk Try.prog 37 ti37 := ⟨⟨_, _, _, Try.underlying37⟩, ⟨_, rfl, rfl, rfl, rfl⟩, rfl, rfl, by first | exact fun _ => ⟨_, rfl⟩ | exact fun h => absurd h (by decide)⟩
@[simp] theorem ti37_size : ti37.size = 1 := rfl
@[simp] theorem ti37_bytes : ti37.bytes = 8 := rfl
def ti38 : TI := ⟨.slice 56, 1, 24, (.slice none 0 0)⟩
theorem tiOk38 : TIOk Try.prog 38 ti38 := ⟨Try.underlying38, ⟨_, rfl, rfl, rfl, rfl⟩, rfl, rfl, by first | exact fun _ => ⟨_, rfl⟩ | exact fun h => absurd h (by decide)⟩
@[simp] theorem ti38_size : ti38.size = 1 := rfl
@[simp] theorem ti38_bytes : ti38.bytes = 24 := rfl
def ti39 : TI := ⟨.func, 1, 8, .nilFunc⟩
theorem tiOk39 : TIOk Try.prog 39 ti39 := ⟨⟨_, _, _, Try.underlying39⟩, ⟨_, rfl, rfl, rfl, rfl⟩, rfl, rfl, by first | exact fun _ => ⟨_, rfl⟩ | exact fun h => absurd h (by decide)⟩
@[simp] theorem ti39_size : ti39.size = 1 := rfl
@[simp] theorem ti39_bytes : ti39.bytes = 8 := rfl
def ti40 : TI := ⟨.func, 1, 8, .nilFunc⟩
theorem tiOk40 : TIOk Try.prog 40 ti40 := ⟨⟨_, _, _, Try.underlying40⟩, ⟨_, rfl, rfl, rfl, rfl⟩, rfl, rfl, by first | exact fun _ => ⟨_, rfl⟩ | exact fun h => absurd h (by decide)⟩
@[simp] theorem ti40_size : ti40.size = 1 := rfl
@[simp] theorem ti40_bytes : ti40.bytes = 8 := rfl
def ti41 : TI := ⟨.func, 1, 8, .nilFunc⟩
theorem tiOk41 : TIOk Try.prog 41 ti41 := ⟨⟨_, _, _, Try.underlying41⟩, ⟨_, rfl, rfl, rfl, rfl⟩, rfl, rfl, by first | exact fun _ => ⟨_, rfl⟩ | exact fun h => absurd h (by decide)⟩
@[simp] theorem ti41_size : ti41.size = 1 := rfl
@[simp] theorem ti41_bytes : ti41.bytes = 8 := rfl
def ti42 : TI := ⟨.func, 1, 8, .nilFunc⟩
theorem tiOk42 : TIOk Try.prog 42 ti42 := ⟨⟨_, _, _, Try.underlying42⟩, ⟨_, rfl, rfl, rfl, rfl⟩, rfl, rfl, by first | exact fun _ => ⟨_, rfl⟩ | exact fun h => absurd h (by decide)⟩
@[simp] theorem ti42_size : ti42.size = 1 := rfl
@[simp] theorem ti42_bytes : ti42.bytes = 8 := rfl
def ti43 : TI := ⟨.func, 1, 8, .nilFunc⟩
theorem tiOk43 : TIOk Try.prog 43 ti43 := ⟨⟨_, _, _, Try.underlying43⟩, ⟨_, rfl, rfl, rfl, rfl⟩, rfl, rfl, by first | exact fun _ => ⟨_, rfl⟩ | exact fun h => absurd h (by decide)⟩
@[simp] theorem ti43_size : ti43.size = 1 := rfl
@[simp] theorem ti43_bytes : ti43.bytes = 8 := rfl
def ti44 : TI := ⟨.func, 1, 8, .nilFunc⟩
theorem tiOk44 : TIOk Try.prog 44 ti44 := ⟨⟨_, _, _, Try.underlying44⟩, ⟨_, rfl, rfl, rfl, rfl⟩, rfl, rfl, by first | exact fun _ => ⟨_, rfl⟩ | exact fun h => absurd h (by decide)⟩
@[simp] theorem ti44_size : ti44.size = 1 := rfl
@[simp] theorem ti44_bytes : ti44.bytes = 8 := rfl
def ti45 : TI := ⟨.arr 17 21, 17, 68, (.agg ⟨List.replicate 17 (.int .i32 0)⟩)⟩
theorem tiOk45 : TIOk Try.prog 45 ti45 := ⟨Try.underlying45, ⟨_, rfl, rfl, rfl, rfl⟩, rfl, rfl, by first | exact fun _ => ⟨_, rfl⟩ | exact fun h => absurd h (by decide)⟩
@[simp] theorem ti45_size : ti45.size = 17 := rfl
@[simp] theorem ti45_bytes : ti45.bytes = 68 := rfl
def ti46 : TI := ⟨.arr 8 45, 136, 544, (.agg ⟨List.replicate 136 (.int .i32 0)⟩)⟩
theorem tiOk46 : TIOk Try.prog 46 ti46 := ⟨Try.underlying46, ⟨_, rfl, rfl, rfl, rfl⟩, rfl, rfl, by first | exact fun _ => ⟨_, rfl⟩ | exact fun h => absurd h (by decide)⟩
@[simp] theorem ti46_size : ti46.size = 136 := rfl
@[simp] theorem ti46_bytes : ti46.bytes = 544 := rfl
def ti48 : TI := ⟨.func, 1, 8, .nilFunc⟩
theorem tiOk48 : TIOk Try.prog 48 ti48 := ⟨⟨_, _, _, Try.underlying48⟩, ⟨_, rfl, rfl, rfl, rfl⟩, rfl, rfl, by first | exact fun _ => ⟨_, rfl⟩ | exact fun h => absurd h (by decide)⟩
@[simp] theorem ti48_size : ti48.size = 1 := rfl
@[simp] theorem ti48_bytes : ti48.bytes = 8 := rfl
def ti49 : TI := ⟨.arr 8 45, 136, 544, (.agg ⟨List.replicate 136 (.int .i32 0)⟩)⟩
theorem tiOk49 : TIOk Try.prog 49 ti49 := ⟨Try.underlying49, ⟨_, rfl, rfl, rfl, rfl⟩, rfl, rfl, by first | exact fun _ => ⟨_, rfl⟩ | exact fun h => absurd h (by decide)⟩
@[simp] theorem ti49_size : ti49.size = 136 := rfl
@[simp] theorem ti49_bytes : ti49.bytes = 544 := rfl
def ti50 : TI := ⟨.func, 1, 8, .nilFunc⟩
theorem tiOk50 : TIOk Try.prog 50 ti50 := ⟨⟨_, _, _, Try.underlying50⟩, ⟨_, rfl, rfl, rfl, rfl⟩, rfl, rfl, by first | exact fun _ => ⟨_, rfl⟩ | exact fun h => absurd h (by decide)⟩
@[simp] theorem ti50_size : ti50.size = 1 := rfl
@[simp] theorem ti50_bytes : ti50.bytes = 8 := rfl
def ti51 : TI := ⟨.func, 1, 8, .nilFunc⟩
theorem tiOk51 : TIOk Try.prog 51 ti51 := ⟨⟨_, _, _, Try.underlying51⟩, ⟨_, rfl, rfl, rfl, rfl⟩, rfl, rfl, by first | exact fun _ => ⟨_, rfl⟩ | exact fun h => absurd h (by decide)⟩
@[simp] theorem ti51_size : ti51.size = 1 := rfl
@[simp] theorem ti51_bytes : ti51.bytes = 8 := rfl
def ti52 : TI := ⟨.struct [(0, 22), (1, 22)], 2, 2, (.agg ⟨[(.int .i8 0), (.int .i8 0)]⟩)⟩
theorem tiOk52 : TIOk Try.prog 52 ti52 := ⟨⟨_, Try.underlying52, rfl⟩, ⟨_, rfl, rfl, rfl, rfl⟩, rfl, rfl, by first | exact fun _ => ⟨_, rfl⟩ | exact fun h => absurd h (by decide)⟩
@[simp] theorem ti52_size : ti52.size = 2 := rfl
@[simp] theorem ti52_bytes : ti52.bytes = 2 := rfl
def ti53 : TI := ⟨.struct [(0, 22), (1, 22)], 2, 2, (.agg ⟨[(.int .i8 0), (.int .i8 0)]⟩)⟩
theorem tiOk53 : TIOk Try.prog 53 ti53 := ⟨⟨_, Try.underlying53, rfl⟩, ⟨_, rfl, rfl, rfl, rfl⟩, rfl, rfl, by first | exact fun _ => ⟨_, rfl⟩ | exact fun h => absurd h (by decide)⟩
@[simp] theorem ti53_size : ti53.size = 2 := rfl
@[simp] theorem ti53_bytes : ti53.bytes = 2 := rfl
def ti55 : TI := ⟨.func, 1, 8, .nilFunc⟩
theorem tiOk55 : TIOk Try.prog 55 ti55 := ⟨⟨_, _, _, Try.underlying55⟩, ⟨_, rfl, rfl, rfl, rfl⟩, rfl, rfl, by first | exact fun _ => ⟨_, rfl⟩ | exact fun h => absurd h (by decide)⟩
@[simp] theorem ti55_size : ti55.size = 1 := rfl
@[simp] theorem ti55_bytes : ti55.bytes = 8 := rfl
def ti56 : TI := ⟨.struct [(0, 22), (1, 22)], 2, 2, (.agg ⟨[(.int .i8 0), (.int .i8 0)]⟩)⟩
theorem tiOk56 : TIOk Try.prog 56 ti56 := ⟨⟨_, Try.underlying56, rfl⟩, ⟨_, rfl, rfl, rfl, rfl⟩, rfl, rfl, by first | exact fun _ => ⟨_, rfl⟩ | exact fun h => absurd h (by decide)⟩
@[simp] theorem ti56_size : ti56.size = 2 := rfl
@[simp] theorem ti56_bytes : ti56.bytes = 2 := rfl
def ti57 : TI := ⟨.func, 1, 8, .nilFunc⟩
theorem tiOk57 : TIOk Try.prog 57 ti57 := ⟨⟨_, _, _, Try.underlying57⟩, ⟨_, rfl, rfl, rfl, rfl⟩, rfl, rfl, by first | exact fun _ => ⟨_, rfl⟩ | exact fun h => absurd h (by decide)⟩
@[simp] theorem ti57_size : ti57.size = 1 := rfl
@[simp] theorem ti57_bytes : ti57.bytes = 8 := rfl
def ti58 : TI := ⟨.func, 1, 8, .nilFunc⟩
theorem tiOk58 : TIOk Try.prog 58 ti58 := ⟨⟨_, _, _, Try.underlying58⟩, ⟨_, rfl, rfl, rfl, rfl⟩, rfl, rfl, by first | exact fun _ => ⟨_, rfl⟩ | exact fun h => absurd h (by decide)⟩
@[simp] theorem ti58_size : ti58.size = 1 := rfl
@[simp] theorem ti58_bytes : ti58.bytes = 8 := rfl
def ti60 : TI := ⟨.func, 1, 8, .nilFunc⟩
theorem tiOk60 : TIOk Try.prog 60 ti60 := ⟨⟨_, _, _, Try.underlying60⟩, ⟨_, rfl, rfl, rfl, rfl⟩, rfl, rfl, by first | exact fun _ => ⟨_, rfl⟩ | exact fun h => absurd h (by decide)⟩
@[simp] theorem ti60_size : ti60.size = 1 := rfl
@[simp] theorem ti60_bytes : ti60.bytes = 8 := rfl
def ti61 : TI := ⟨.func, 1, 8, .nilFunc⟩
theorem tiOk61 : TIOk Try.prog 61 ti61 := ⟨⟨_, _, _, Try.underlying61⟩, ⟨_, rfl, rfl, rfl, rfl⟩, rfl, rfl, by first | exact fun _ => ⟨_, rfl⟩ | exact fun h => absurd h (by decide)⟩
@[simp] theorem ti61_size : ti61.size = 1 := rfl
@[simp] theorem ti61_bytes : ti61.bytes = 8 := rfl
def ti63 : TI := ⟨.func, 1, 8, .nilFunc⟩
theorem tiOk63 : TIOk Try.prog 63 ti63 := ⟨⟨_, _, _, Try.underlying63⟩, ⟨_, rfl, rfl, rfl, rfl⟩, rfl, rfl, by first | exact fun _ => ⟨_, rfl⟩ | exact fun h => absurd h (by decide)⟩
@[simp] theorem ti63_size : ti63.size = 1 := rfl
@[simp] theorem ti63_bytes : ti63.bytes = 8 := rfl
def ti64 : TI := ⟨.func, 1, 8, .nilFunc⟩
theorem tiOk64 : TIOk Try.prog 64 ti64 := ⟨⟨_, _, _, Try.underlying64⟩, ⟨_, rfl, rfl, rfl, rfl⟩, rfl, rfl, by first | exact fun _ => ⟨_, rfl⟩ | exact fun h => absurd h (by decide)⟩
@[simp] theorem ti64_size : ti64.size = 1 := rfl
@[simp] theorem ti64_bytes : ti64.bytes = 8 := rfl
def ti65 : TI := ⟨.func, 1, 8, .nilFunc⟩
theorem tiOk65 : TIOk Try.prog 65 ti65 := ⟨⟨_, _, _, Try.underlying65⟩, ⟨_, rfl, rfl, rfl, rfl⟩, rfl, rfl, by first | exact fun _ => ⟨_, rfl⟩ | exact fun h => absurd h (by decide)⟩
@[simp] theorem ti65_size : ti65.size = 1 := rfl
@[simp] theorem ti65_bytes : ti65.bytes = 8 := rfl
def ti66 : TI := ⟨.ptr, 1, 8, (.pointer none)⟩
theorem tiOk66 : TIOk Try.prog 66 ti66 := ⟨⟨_, Try.underlying66⟩, ⟨_, rfl, rfl, rfl, rfl⟩, rfl, rfl, by first | exact fun _ => ⟨_, rfl⟩ | exact fun h => absurd h (by decide)⟩
@[simp] theorem ti66_size : ti66.size = 1 := rfl
@[simp] theorem ti66_bytes : ti66.bytes = 8 := rfl
def ti67 : TI := ⟨.ptr, 1, 8, (.pointer none)⟩
theorem tiOk67 : TIOk Try.prog 67 ti67 := ⟨⟨_, Try.underlying67⟩, ⟨_, rfl, rfl, rfl, rfl⟩, rfl, rfl, by first | exact fun _ => ⟨_, rfl⟩ | exact fun h => absurd h (by decide)⟩
@[simp] theorem ti67_size : ti67.size = 1 := rfl
@[simp] theorem ti67_bytes : ti67.bytes = 8 := rfl
def ti68 : TI := ⟨.func, 1, 8, .nilFunc⟩
theorem tiOk68 : TIOk Try.prog 68 ti68 := ⟨⟨_, _, _, Try.underlying68⟩, ⟨_, rfl, rfl, rfl, rfl⟩, rfl, rfl, by first | exact fun _ => ⟨_, rfl⟩ | exact fun h => absurd h (by decide)⟩
@[simp] theorem ti68_size : ti68.size = 1 := rfl
@[simp] theorem ti68_bytes : ti68.bytes = 8 := rfl
def ti69 : TI := ⟨.map 56 3, 1, 8, (.map none)⟩
theorem tiOk69 : TIOk Try.prog 69 ti69 := ⟨Try.underlying69, ⟨_, rfl, rfl, rfl, rfl⟩, rfl, rfl, by first | exact fun _ => ⟨_, rfl⟩ | exact fun h => absurd h (by decide)⟩
@[simp] theorem ti69_size : ti69.size = 1 := rfl
@[simp] theorem ti69_bytes : ti69.bytes = 8 := rfl
def ti70 : TI := ⟨.map 56 4, 1, 8, (.map none)⟩
theorem tiOk70 : TIOk Try.prog 70 ti70 := ⟨Try.underlying70, ⟨_, rfl, rfl, rfl, rfl⟩, rfl, rfl, by first | exact fun _ => ⟨_, rfl⟩ | exact fun h => absurd h (by decide)⟩
@[simp] theorem ti70_size : ti70.size = 1 := rfl
@[simp] theorem ti70_bytes : ti70.bytes = 8 := rfl
def ti71 : TI := ⟨.func, 1, 8, .nilFunc⟩
theorem tiOk71 : TIOk Try.prog 71 ti71 := ⟨⟨_, _, _, Try.underlying71⟩, ⟨_, rfl, rfl, rfl, rfl⟩, rfl, rfl, by first | exact fun _ => ⟨_, rfl⟩ | exact fun h => absurd h (by decide)⟩
@[simp] theorem ti71_size : ti71.size = 1 := rfl
@[simp] theorem ti71_bytes : ti71.bytes = 8 := rfl
def ti72 : TI := ⟨.func, 1, 8, .nilFunc⟩
theorem tiOk72 : TIOk Try.prog 72 ti72 := ⟨⟨_, _, _, Try.underlying72⟩, ⟨_, rfl, rfl, rfl, rfl⟩, rfl, rfl, by first | exact fun _ => ⟨_, rfl⟩ | exact fun h => absurd h (by decide)⟩
@[simp] theorem ti72_size : ti72.size = 1 := rfl
@[simp] theorem ti72_bytes : ti72.bytes = 8 := rfl
def ti73 : TI := ⟨.func, 1, 8, .nilFunc⟩
theorem tiOk73 : TIOk Try.prog 73 ti73 := ⟨⟨_, _, _, Try.underlying73⟩, ⟨_, rfl, rfl, rfl, rfl⟩, rfl, rfl, by first | exact fun _ => ⟨_, rfl⟩ | exact fun h => absurd h (by decide)⟩
@[simp] theorem ti73_size : ti73.size = 1 := rfl
@[simp] theorem ti73_bytes : ti73.bytes = 8 := rfl
def ti74 : TI := ⟨.func, 1, 8, .nilFunc⟩
theorem tiOk74 : TIOk Try.prog 74 ti74 := ⟨⟨_, _, _, Try.underlying74⟩, ⟨_, rfl, rfl, rfl, rfl⟩, rfl, rfl, by first | exact fun _ => ⟨_, rfl⟩ | exact fun h => absurd h (by decide)⟩
@[simp] theorem ti74_size : ti74.size = 1 := rfl
@[simp] theorem ti74_bytes : ti74.bytes = 8 := rfl
def ti75 : TI := ⟨.func, 1, 8, .nilFunc⟩
theorem tiOk75 : TIOk Try.prog 75 ti75 := ⟨⟨_, _, _, Try.underlying75⟩, ⟨_, rfl, rfl, rfl, rfl⟩, rfl, rfl, by first | exact fun _ => ⟨_, rfl⟩ | exact fun h => absurd h (by decide)⟩
@[simp] theorem ti75_size : ti75.size = 1 := rfl
@[simp] theorem ti75_bytes : ti75.bytes = 8 := rfl
def ti77 : TI := ⟨.func, 1, 8, .nilFunc⟩
theorem tiOk77 : TIOk Try.prog 77 ti77 := ⟨⟨_, _, _, Try.underlying77⟩, ⟨_, rfl, rfl, rfl, rfl⟩, rfl, rfl, by first | exact fun _ => ⟨_, rfl⟩ | exact fun h => absurd h (by decide)⟩
@[simp] theorem ti77_size : ti77.size = 1 := rfl
@[simp] theorem ti77_bytes : ti77.bytes = 8 := rfl
def ti78 : TI := ⟨.ptr, 1, 8, (.pointer none)⟩
theorem tiOk78 : TIOk Try.prog 78 ti78 := ⟨⟨_, Try.underlying78⟩, ⟨_, rfl, rfl, rfl, rfl⟩, rfl, rfl, by first | exact fun _ => ⟨_, rfl⟩ | exact fun h => absurd h (by decide)⟩
@[simp] theorem ti78_size : ti78.size = 1 := rfl
@[simp] theorem ti78_bytes : ti78.bytes = 8 := rfl
def ti79 : TI := ⟨.ptr, 1, 8, (.pointer none)⟩
theorem tiOk79 : TIOk Try.prog 79 ti79 := ⟨⟨_, Try.underlying79⟩, ⟨_, rfl, rfl, rfl, rfl⟩, rfl, rfl, by first | exact fun _ => ⟨_, rfl⟩ | exact fun h => absurd h (by decide)⟩
@[simp] theorem ti79_size : ti79.size = 1 := rfl
@[simp] theorem ti79_bytes : ti79.bytes = 8 := rfl
def ti80 : TI := ⟨.func, 1, 8, .nilFunc⟩
theorem tiOk80 : TIOk Try.prog 80 ti80 := ⟨⟨_, _, _, Try.underlying80⟩, ⟨_, rfl, rfl, rfl, rfl⟩, rfl, rfl, by first | exact fun _ => ⟨_, rfl⟩ | exact fun h => absurd h (by decide)⟩
@[simp] theorem ti80_size : ti80.size = 1 := rfl
@[simp] theorem ti80_bytes : ti80.bytes = 8 := rfl
def ti81 : TI := ⟨.struct [(0, 34), (67, 38), (68, 49), (204, 49), (340, 56), (342, 2), (343, 4), (344, 34), (411, 2), (412, 2), (413, 2), (414, 4)], 415, 1304, (.agg ⟨[(.int .i8 0), (.int .i8 0)] ++ List.replicate 65 (.int .u8 0) ++ [(.slice none 0 0)] ++ List.replicate 272 (.int .i32 0) ++ [(.int .i8 0), (.int .i8 0)] ++ [(.int .i64 0)] ++ [(.bool false)] ++ [(.int .i8 0), (.int .i8 0)] ++ List.replicate 65 (.int .u8 0) ++ [(.int .i64 0), (.int .i64 0), (.int .i64 0)] ++ [(.bool false)]⟩)⟩
theorem tiOk81 : TIOk Try.prog 81 ti81 := ⟨⟨_, Try.underlying81, rfl⟩, ⟨_, rfl, rfl, rfl, rfl⟩, rfl, rfl, by first | exact fun _ => ⟨_, rfl⟩ | exact fun h => absurd h (by decide)⟩
@[simp] theorem ti81_size : ti81.size = 415 := rfl
@[simp] theorem ti81_bytes : ti81.bytes = 1304 := rfl
def ti82 : TI := ⟨.struct [(0, 34), (67, 38), (68, 49), (204, 49), (340, 56), (342, 2), (343, 4), (344, 34), (411, 2), (412, 2), (413, 2), (414, 4)], 415, 1304, (.agg ⟨[(.int .i8 0), (.int .i8 0)] ++ List.replicate 65 (.int .u8 0) ++ [(.slice none 0 0)] ++ List.replicate 272 (.int .i32 0) ++ [(.int .i8 0), (.int .i8 0)] ++ [(.int .i64 0)] ++ [(.bool false)] ++ [(.int .i8 0), (.int .i8 0)] ++ List.replicate 65 (.int .u8 0) ++ [(.int .i64 0), (.int .i64 0), (.int .i64 0)] ++ [(.bool false)]⟩)⟩
theorem tiOk82 : TIOk Try.prog 82 ti82 := ⟨⟨_, Try.underlying82, rfl⟩, ⟨_, rfl, rfl, rfl, rfl⟩, rfl, rfl, by first | exact fun _ => ⟨_, rfl⟩ | exact fun h => absurd h (by decide)⟩
@[simp] theorem ti82_size : ti82.size = 415 := rfl
@[simp] theorem ti82_bytes : ti82.bytes = 1304 := rfl
def ti83 : TI := ⟨.func, 1, 8, .nilFunc⟩
theorem tiOk83 : TIOk Try.prog 83 ti83 := ⟨⟨_, _, _, Try.underlying83⟩, ⟨_, rfl, rfl, rfl, rfl⟩, rfl, rfl, by first | exact fun _ => ⟨_, rfl⟩ | exact fun h => absurd h (by decide)⟩
@[simp] theorem ti83_size : ti83.size = 1 := rfl
@[simp] theorem ti83_bytes : ti83.bytes = 8 := rfl
def ti84 : TI := ⟨.func, 1, 8, .nilFunc⟩
theorem tiOk84 : TIOk Try.prog 84 ti84 := ⟨⟨_, _, _, Try.underlying84⟩, ⟨_, rfl, rfl, rfl, rfl⟩, rfl, rfl, by first | exact fun _ => ⟨_, rfl⟩ | exact fun h => absurd h (by decide)⟩
@[simp] theorem ti84_size : ti84.size = 1 := rfl
@[simp] theorem ti84_bytes : ti84.bytes = 8 := rfl
def ti85 : TI := ⟨.func, 1, 8, .nilFunc⟩
theorem tiOk85 : TIOk Try.prog 85 ti85 := ⟨⟨_, _, _, Try.underlying85⟩, ⟨_, rfl, rfl, rfl, rfl⟩, rfl, rfl, by first | exact fun _ => ⟨_, rfl⟩ | exact fun h => absurd h (by decide)⟩
@[simp] theorem ti85_size : ti85.size = 1 := rfl
@[simp] theorem ti85_bytes : ti85.bytes = 8 := rfl
def ti86 : TI := ⟨.func, 1, 8, .nilFunc⟩
theorem tiOk86 : TIOk Try.prog 86 ti86 := ⟨⟨_, _, _, Try.underlying86⟩, ⟨_, rfl, rfl, rfl, rfl⟩, rfl, rfl, by first | exact fun _ => ⟨_, rfl⟩ | exact fun h => absurd h (by decide)⟩
@[simp] theorem ti86_size : ti86.size = 1 := rfl
@[simp] theorem ti86_bytes : ti86.bytes = 8 := rfl
def ti87 : TI := ⟨.ptr, 1, 8, (.pointer none)⟩
theorem tiOk87 : TIOk Try.prog 87 ti87 := ⟨⟨_, Try.underlying87⟩, ⟨_, rfl, rfl, rfl, rfl⟩, rfl, rfl, by first | exact fun _ => ⟨_, rfl⟩ | exact fun h => absurd h (by decide)⟩
@[simp] theorem ti87_size : ti87.size = 1 := rfl
@[simp] theorem ti87_bytes : ti87.bytes = 8 := rfl
def ti88 : TI := ⟨.func, 1, 8, .nilFunc⟩
theorem tiOk88 : TIOk Try.prog 88 ti88 := ⟨⟨_, _, _, Try.underlying88⟩, ⟨_, rfl, rfl, rfl, rfl⟩, rfl, rfl, by first | exact fun _ => ⟨_, rfl⟩ | exact fun h => absurd h (by decide)⟩
@[simp] theorem ti88_size : ti88.size = 1 := rfl
@[simp] theorem ti88_bytes : ti88.bytes = 8 := rfl
def ti89 : TI := ⟨.slice 31, 1, 24, (.slice none 0 0)⟩
theorem tiOk89 : TIOk Try.prog 89 ti89 := ⟨Try.underlying89, ⟨_, rfl, rfl, rfl, rfl⟩, rfl, rfl, by first | exact fun _ => ⟨_, rfl⟩ | exact fun h => absurd h (by decide)⟩
@[simp] theorem ti89_size : ti89.size = 1 := rfl
@[simp] theorem ti89_bytes : ti89.bytes = 24 := rfl
def ti90 : TI := ⟨.slice 31, 1, 24, (.slice none 0 0)⟩
theorem tiOk90 : TIOk Try.prog 90 ti90 := ⟨Try.underlying90, ⟨_, rfl, rfl, rfl, rfl⟩, rfl, rfl, by first | exact fun _ => ⟨_, rfl⟩ | exact fun h => absurd h (by decide)⟩
@[simp] theorem ti90_size : ti90.size = 1 := rfl
@[simp] theorem ti90_bytes : ti90.bytes = 24 := rfl
def ti91 : TI := ⟨.func, 1, 8, .nilFunc⟩
theorem tiOk91 : TIOk Try.prog 91 ti91 := ⟨⟨_, _, _, Try.underlying91⟩, ⟨_, rfl, rfl, rfl, rfl⟩, rfl, rfl, by first | exact fun _ => ⟨_, rfl⟩ | exact fun h => absurd h (by decide)⟩
@[simp] theorem ti91_size : ti91.size = 1 := rfl
@[simp] theorem ti91_bytes : ti91.bytes = 8 := rfl
def ti92 : TI := ⟨.slice 5, 1, 24, (.slice none 0 0)⟩
theorem tiOk92 : TIOk Try.prog 92 ti92 := ⟨Try.underlying92, ⟨_, rfl, rfl, rfl, rfl⟩, rfl, rfl, by first | exact fun _ => ⟨_, rfl⟩ | exact fun h => absurd h (by decide)⟩
@[simp] theorem ti92_size : ti92.size = 1 := rfl
@[simp] theorem ti92_bytes : ti92.bytes = 24 := rfl
def ti93 : TI := ⟨.func, 1, 8, .nilFunc⟩
theorem tiOk93 : TIOk Try.prog 93 ti93 := ⟨⟨_, _, _, Try.underlying93⟩, ⟨_, rfl, rfl, rfl, rfl⟩, rfl, rfl, by first | exact fun _ => ⟨_, rfl⟩ | exact fun h => absurd h (by decide)⟩
@[simp] theorem ti93_size : ti93.size = 1 := rfl
@[simp] theorem ti93_bytes : ti93.bytes = 8 := rfl
def ti94 : TI := ⟨.func, 1, 8, .nilFunc⟩
theorem tiOk94 : TIOk Try.prog 94 ti94 := ⟨⟨_, _, _, Try.underlying94⟩, ⟨_, rfl, rfl, rfl, rfl⟩, rfl, rfl, by first | exact fun _ => ⟨_, rfl⟩ | exact fun h => absurd h (by decide)⟩
@[simp] theorem ti94_size : ti94.size = 1 := rfl
@[simp] theorem ti94_bytes : ti94.bytes = 8 := rfl
def ti95 : TI := ⟨.func, 1, 8, .nilFunc⟩
theorem tiOk95 : TIOk Try.prog 95 ti95 := ⟨⟨_, _, _, Try.underlying95⟩, ⟨_, rfl, rfl, rfl, rfl⟩, rfl, rfl, by first | exact fun _ => ⟨_, rfl⟩ | exact fun h => absurd h (by decide)⟩
@[simp] theorem ti95_size : ti95.size = 1 := rfl
@[simp] theorem ti95_bytes : ti95.bytes = 8 := rfl
def ti96 : TI := ⟨.func, 1, 8, .nilFunc⟩
theorem tiOk96 : TIOk Try.prog 96 ti96 := ⟨⟨_, _, _, Try.underlying96⟩, ⟨_, rfl, rfl, rfl, rfl⟩, rfl, rfl, by first | exact fun _ => ⟨_, rfl⟩ | exact fun h => absurd h (by decide)⟩
@[simp] theorem ti96_size : ti96.size = 1 := rfl
@[simp] theorem ti96_bytes : ti96.bytes = 8 := rfl
def ti97 : TI := ⟨.func, 1, 8, .nilFunc⟩
theorem tiOk97 : TIOk Try.prog 97 ti97 := ⟨⟨_, _, _, Try.underlying97⟩, ⟨_, rfl, rfl, rfl, rfl⟩, rfl, rfl, by first | exact fun _ => ⟨_, rfl⟩ | exact fun h => absurd h (by decide)⟩
@[simp] theorem ti97_size : ti97.size = 1 := rfl
@[simp] theorem ti97_bytes : ti97.bytes = 8 := rfl
def ti98 : TI := ⟨.func, 1, 8, .nilFunc⟩
theorem tiOk98 : TIOk Try.prog 98 ti98 := ⟨⟨_, _, _, Try.underlying98⟩, ⟨_, rfl, rfl, rfl, rfl⟩, rfl, rfl, by first | exact fun _ => ⟨_, rfl⟩ | exact fun h => absurd h (by decide)⟩
@[simp] theorem ti98_size : ti98.size = 1 := rfl
@[simp] theorem ti98_bytes : ti98.bytes = 8 := rfl
def ti99 : TI := ⟨.func, 1, 8, .nilFunc⟩
theorem tiOk99 : TIOk Try.prog 99 ti99 := ⟨⟨_, _, _, Try.underlying99⟩, ⟨_, rfl, rfl, rfl, rfl⟩, rfl, rfl, by first | exact fun _ => ⟨_, rfl⟩ | exact fun h => absurd h (by decide)⟩
@[simp] theorem ti99_size : ti99.size = 1 := rfl
@[simp] theorem ti99_bytes : ti99.bytes = 8 := rfl
def ti101 : TI := ⟨.func, 1, 8, .nilFunc⟩
theorem tiOk101 : TIOk Try.prog 101 ti101 := ⟨⟨_, _, _, Try.underlying101⟩, ⟨_, rfl, rfl, rfl, rfl⟩, rfl, rfl, by first | exact fun _ => ⟨_, rfl⟩ | exact fun h => absurd h (by decide)⟩
@[simp] theorem ti101_size : ti101.size = 1 := rfl
@[simp] theorem ti101_bytes : ti101.bytes = 8 := rfl
def ti102 : TI := ⟨.func, 1, 8, .nilFunc⟩
theorem tiOk102 : TIOk Try.prog 102 ti102 := ⟨⟨_, _, _, Try.underlying102⟩, ⟨_, rfl, rfl, rfl, rfl⟩, rfl, rfl, by first | exact fun _ => ⟨_, rfl⟩ | exact fun h => absurd h (by decide)⟩
@[simp] theorem ti102_size : ti102.size = 1 := rfl
@[simp] theorem ti102_bytes : ti102.bytes = 8 := rfl
def ti103 : TI := ⟨.func, 1, 8, .nilFunc⟩
theorem tiOk103 : TIOk Try.prog 103 ti103 := ⟨⟨_, _, _, Try.underlying103⟩, ⟨_, rfl, rfl, rfl, rfl⟩, rfl, rfl, by first | exact fun _ => ⟨_, rfl⟩ | exact fun h => absurd h (by decide)⟩
@[simp] theorem ti103_size : ti103.size = 1 := rfl
@[simp] theorem ti103_bytes : ti103.bytes = 8 := rfl
def ti105 : TI := ⟨.func, 1, 8, .nilFunc⟩
theorem tiOk105 : TIOk Try.prog 105 ti105 := ⟨⟨_, _, _, Try.underlying105⟩, ⟨_, rfl, rfl, rfl, rfl⟩, rfl, rfl, by first | exact fun _ => ⟨_, rfl⟩ | exact fun h => absurd h (by decide)⟩
@[simp] theorem ti105_size : ti105.size = 1 := rfl
@[simp] theorem ti105_bytes : ti105.bytes = 8 := rfl
def ti106 : TI := ⟨.func, 1, 8, .nilFunc⟩
theorem tiOk106 : TIOk Try.prog 106 ti106 := ⟨⟨_, _, _, Try.underlying106⟩, ⟨_, rfl, rfl, rfl, rfl⟩, rfl, rfl, by first | exact fun _ => ⟨_, rfl⟩ | exact fun h => absurd h (by decide)⟩
@[simp] theorem ti106_size : ti106.size = 1 := rfl
@[simp] theorem ti106_bytes : ti106.bytes = 8 := rfl
def ti107 : TI := ⟨.func, 1, 8, .nilFunc⟩
theorem tiOk107 : TIOk Try.prog 107 ti107 := ⟨⟨_, _, _, Try.underlying107⟩, ⟨_, rfl, rfl, rfl, rfl⟩, rfl, rfl, by first | exact fun _ => ⟨_, rfl⟩ | exact fun h => absurd h (by decide)⟩
@[simp] theorem ti107_size : ti107.size = 1 := rfl
@[simp] theorem ti107_bytes : ti107.bytes = 8 := rfl
def ti108 : TI := ⟨.func, 1, 8, .nilFunc⟩
theorem tiOk108 : TIOk Try.prog 108 ti108 := ⟨⟨_, _, _, Try.underlying108⟩, ⟨_, rfl, rfl, rfl, rfl⟩, rfl, rfl, by first | exact fun _ => ⟨_, rfl⟩ | exact fun h => absurd h (by decide)⟩
@[simp] theorem ti108_size : ti108.size = 1 := rfl
@[simp] theorem ti108_bytes : ti108.bytes = 8 := rfl
def ti109 : TI := ⟨.func, 1, 8, .nilFunc⟩
theorem tiOk109 : TIOk Try.prog 109 ti109 := ⟨⟨_, _, _, Try.underlying109⟩, ⟨_, rfl, rfl, rfl, rfl⟩, rfl, rfl, by first | exact fun _ => ⟨_, rfl⟩ | exact fun h => absurd h (by decide)⟩
@[simp] theorem ti109_size : ti109.size = 1 := rfl
@[simp] theorem ti109_bytes : ti109.bytes = 8 := rfl
def ti110 : TI := ⟨.func, 1, 8, .nilFunc⟩
theorem tiOk110 : TIOk Try.prog 110 ti110 := ⟨⟨_, _, _, Try.underlying110⟩, ⟨_, rfl, rfl, rfl, rfl⟩, rfl, rfl, by first | exact fun _ => ⟨_, rfl⟩ | exact fun h => absurd h (by decide)⟩
@[simp] theorem ti110_size : ti110.size = 1 := rfl
@[simp] theorem ti110_bytes : ti110.bytes = 8 := rfl
def ti111 : TI := ⟨.func, 1, 8, .nilFunc⟩
theorem tiOk111 : TIOk Try.prog 111 ti111 := ⟨⟨_, _, _, Try.underlying111⟩, ⟨_, rfl, rfl, rfl, rfl⟩, rfl, rfl, by first | exact fun _ => ⟨_, rfl⟩ | exact fun h => absurd h (by decide)⟩
@[simp] theorem ti111_size : ti111.size = 1 := rfl
@[simp] theorem ti111_bytes : ti111.bytes = 8 := rfl
def ti112 : TI := ⟨.func, 1, 8, .nilFunc⟩
theorem tiOk112 : TIOk Try.prog 112 ti112 := ⟨⟨_, _, _, Try.underlying112⟩, ⟨_, rfl, rfl, rfl, rfl⟩, rfl, rfl, by first | exact fun _ => ⟨_, rfl⟩ | exact fun h => absurd h (by decide)⟩
@[simp] theorem ti112_size : ti112.size = 1 := rfl
@[simp] theorem ti112_bytes : ti112.bytes = 8 := rfl
def ti113 : TI := ⟨.func, 1, 8, .nilFunc⟩
theorem tiOk113 : TIOk Try.prog 113 ti113 := ⟨⟨_, _, _, Try.underlying113⟩, ⟨_, rfl, rfl, rfl, rfl⟩, rfl, rfl, by first | exact fun _ => ⟨_, rfl⟩ | exact fun h => absurd h (by decide)⟩
@[simp] theorem ti113_size : ti113.size = 1 := rfl
@[simp] theorem ti113_bytes : ti113.bytes = 8 := rfl
def ti114 : TI := ⟨.func, 1, 8, .nilFunc⟩
theorem tiOk114 : TIOk Try.prog 114 ti114 := ⟨⟨_, _, _, Try.underlying114⟩, ⟨_, rfl, rfl, rfl, rfl⟩, rfl, rfl, by first | exact fun _ => ⟨_, rfl⟩ | exact fun h => absurd h (by decide)⟩
@[simp] theorem ti114_size : ti114.size = 1 := rfl
@[simp] theorem ti114_bytes : ti114.bytes = 8 := rfl
def ti115 : TI := ⟨.func, 1, 8, .nilFunc⟩
theorem tiOk115 : TIOk Try.prog 115 ti115 := ⟨⟨_, _, _, Try.underlying115⟩, ⟨_, rfl, rfl, rfl, rfl⟩, rfl, rfl, by first | exact fun _ => ⟨_, rfl⟩ | exact fun h => absurd h (by decide)⟩
@[simp] theorem ti115_size : ti115.size = 1 := rfl
@[simp] theorem ti115_bytes : ti115.bytes = 8 := rfl
def ti116 : TI := ⟨.func, 1, 8, .nilFunc⟩
theorem tiOk116 : TIOk Try.prog 116 ti116 := ⟨⟨_, _, _, Try.underlying116⟩, ⟨_, rfl, rfl, rfl, rfl⟩, rfl, rfl, by first | exact fun _ => ⟨_, rfl⟩ | exact fun h => absurd h (by decide)⟩
@[simp] theorem ti116_size : ti116.size = 1 := rfl
@[simp] theorem ti116_bytes : ti116.bytes = 8 := rfl
def ti117 : TI := ⟨.func, 1, 8, .nilFunc⟩
theorem tiOk117 : TIOk Try.prog 117 ti117 := ⟨⟨_, _, _, Try.underlying117⟩, ⟨_, rfl, rfl, rfl, rfl⟩, rfl, rfl, by first | exact fun _ => ⟨_, rfl⟩ | exact fun h => absurd h (by decide)⟩
@[simp] theorem ti117_size : ti117.size = 1 := rfl
@[simp] theorem ti117_bytes : ti117.bytes = 8 := rfl
def ti118 : TI := ⟨.func, 1, 8, .nilFunc⟩
theorem tiOk118 : TIOk Try.prog 118 ti118 := ⟨⟨_, _, _, Try.underlying118⟩, ⟨_, rfl, rfl, rfl, rfl⟩, rfl, rfl, by first | exact fun _ => ⟨_, rfl⟩ | exact fun h => absurd h (by decide)⟩
@[simp] theorem ti118_size : ti118.size = 1 := rfl
@[simp] theorem ti118_bytes : ti118.bytes = 8 := rfl
def ti119 : TI := ⟨.func, 1, 8, .nilFunc⟩
theorem tiOk119 : TIOk Try.prog 119 ti119 := ⟨⟨_, _, _, Try.underlying119⟩, ⟨_, rfl, rfl, rfl, rfl⟩, rfl, rfl, by first | exact fun _ => ⟨_, rfl⟩ | exact fun h => absurd h (by decide)⟩
@[simp] theorem ti119_size : ti119.size = 1 := rfl
@[simp] theorem ti119_bytes : ti119.bytes = 8 := rfl
def ti120 : TI := ⟨.func, 1, 8, .nilFunc⟩
theorem tiOk120 : TIOk Try.prog 120 ti120 := ⟨⟨_, _, _, Try.underlying120⟩, ⟨_, rfl, rfl, rfl, rfl⟩, rfl, rfl, by first | exact fun _ => ⟨_, rfl⟩ | exact fun h => absurd h (by decide)⟩
@[simp] theorem ti120_size : ti120.size = 1 := rfl
@[simp] theorem ti120_bytes : ti120.bytes = 8 := rfl
def ti121 : TI := ⟨.func, 1, 8, .nilFunc⟩
theorem tiOk121 : TIOk Try.prog 121 ti121 := ⟨⟨_, _, _, Try.underlying121⟩, ⟨_, rfl, rfl, rfl, rfl⟩, rfl, rfl, by first | exact fun _ => ⟨_, rfl⟩ | exact fun h => absurd h (by decide)⟩
@[simp] theorem ti121_size : ti121.size = 1 := rfl
@[simp] theorem ti121_bytes : ti121.bytes = 8 := rfl
def ti122 : TI := ⟨.func, 1, 8, .nilFunc⟩
theorem tiOk122 : TIOk Try.prog 122 ti122 := ⟨⟨_, _, _, Try.underlying122⟩, ⟨_, rfl, rfl, rfl, rfl⟩, rfl, rfl, by first | exact fun _ => ⟨_, rfl⟩ | exact fun h => absurd h (by decide)⟩
@[simp] theorem ti122_size : ti122.size = 1 := rfl
@[simp] theorem ti122_bytes : ti122.bytes = 8 := rfl
def ti124 : TI := ⟨.func, 1, 8, .nilFunc⟩
theorem tiOk124 : TIOk Try.prog 124 ti124 := ⟨⟨_, _, _, Try.underlying124⟩, ⟨_, rfl, rfl, rfl, rfl⟩, rfl, rfl, by first | exact fun _ => ⟨_, rfl⟩ | exact fun h => absurd h (by decide)⟩
@[simp] theorem ti124_size : ti124.size = 1 := rfl
@[simp] theorem ti124_bytes : ti124.bytes = 8 := rfl
def ti125 : TI := ⟨.func, 1, 8, .nilFunc⟩
theorem tiOk125 : TIOk Try.prog 125 ti125 := ⟨⟨_, _, _, Try.underlying125⟩, ⟨_, rfl, rfl, rfl, rfl⟩, rfl, rfl, by first | exact fun _ => ⟨_, rfl⟩ | exact fun h => absurd h (by decide)⟩
@[simp] theorem ti125_size : ti125.size = 1 := rfl
@[simp] theorem ti125_bytes : ti125.bytes = 8 := rfl
def ti126 : TI := ⟨.func, 1, 8, .nilFunc⟩
theorem tiOk126 : TIOk Try.prog 126 ti126 := ⟨⟨_, _, _, Try.underlying126⟩, ⟨_, rfl, rfl, rfl, rfl⟩, rfl, rfl, by first | exact fun _ => ⟨_, rfl⟩ | exact fun h => absurd h (by decide)⟩
@[simp] theorem ti126_size : ti126.size = 1 := rfl
@[simp] theorem ti126_bytes : ti126.bytes = 8 := rfl
def ti127 : TI := ⟨.func, 1, 8, .nilFunc⟩
theorem tiOk127 : TIOk Try.prog 127 ti127 := ⟨⟨_, _, _, Try.underlying127⟩, ⟨_, rfl, rfl, rfl, rfl⟩, rfl, rfl, by first | exact fun _ => ⟨_, rfl⟩ | exact fun h => absurd h (by decide)⟩
@[simp] theorem ti127_size : ti127.size = 1 := rfl
@[simp] theorem ti127_bytes : ti127.bytes = 8 := rfl
def ti128 : TI := ⟨.func, 1, 8, .nilFunc⟩
theorem tiOk128 : TIOk Try.prog 128 ti128 := ⟨⟨_, _, _, Try.underlying128⟩, ⟨_, rfl, rfl, rfl, rfl⟩, rfl, rfl, by first | exact fun _ => ⟨_, rfl⟩ | exact fun h => absurd h (by decide)⟩
@[simp] theorem ti128_size : ti128.size = 1 := rfl
@[simp] theorem ti128_bytes : ti128.bytes = 8 := rfl
def ti129 : TI := ⟨.struct [(0, 34), (67, 49), (203, 49)], 339, 1156, (.agg ⟨[(.int .i8 0), (.int .i8 0)] ++ List.replicate 65 (.int .u8 0) ++ List.replicate 272 (.int .i32 0)⟩)⟩
theorem tiOk129 : TIOk Try.prog 129 ti129 := ⟨⟨_, Try.underlying129, rfl⟩, ⟨_, rfl, rfl, rfl, rfl⟩, rfl, rfl, by first | exact fun _ => ⟨_, rfl⟩ | exact fun h => absurd h (by decide)⟩
@[simp] theorem ti129_size : ti129.size = 339 := rfl
@[simp] theorem ti129_bytes : ti129.bytes = 1156 := rfl
def ti130 : TI := ⟨.struct [(0, 34), (67, 49), (203, 49)], 339, 1156, (.agg ⟨[(.int .i8 0), (.int .i8 0)] ++ List.replicate 65 (.int .u8 0) ++ List.replicate 272 (.int .i32 0)⟩)⟩
theorem tiOk130 : TIOk Try.prog 130 ti130 := ⟨⟨_, Try.underlying130, rfl⟩, ⟨_, rfl, rfl, rfl, rfl⟩, rfl, rfl, by first | exact fun _ => ⟨_, rfl⟩ | exact fun h => absurd h (by decide)⟩
@[simp] theorem ti130_size : ti130.size = 339 := rfl
@[simp] theorem ti130_bytes : ti130.bytes = 1156 := rfl
def ti131 : TI := ⟨.func, 1, 8, .nilFunc⟩
theorem tiOk131 : TIOk Try.prog 131 ti131 := ⟨⟨_, _, _, Try.underlying131⟩, ⟨_, rfl, rfl, rfl, rfl⟩, rfl, rfl, by first | exact fun _ => ⟨_, rfl⟩ | exact fun h => absurd h (by decide)⟩
@[simp] theorem ti131_size : ti131.size = 1 := rfl
@[simp] theorem ti131_bytes : ti131.bytes = 8 := rfl
def ti132 : TI := ⟨.func, 1, 8, .nilFunc⟩
theorem tiOk132 : TIOk Try.prog 132 ti132 := ⟨⟨_, _, _, Try.underlying132⟩, ⟨_, rfl, rfl, rfl, rfl⟩, rfl, rfl, by first | exact fun _ => ⟨_, rfl⟩ | exact fun h => absurd h (by decide)⟩
@[simp] theorem ti132_size : ti132.size = 1 := rfl
@[simp] theorem ti132_bytes : ti132.bytes = 8 := rfl
def ti133 : TI := ⟨.func, 1, 8, .nilFunc⟩
theorem tiOk133 : TIOk Try.prog 133 ti133 := ⟨⟨_, _, _, Try.underlying133⟩, ⟨_, rfl, rfl, rfl, rfl⟩, rfl, rfl, by first | exact fun _ => ⟨_, rfl⟩ | exact fun h => absurd h (by decide)⟩
@[simp] theorem ti133_size : ti133.size = 1 := rfl
@[simp] theorem ti133_bytes : ti133.bytes = 8 := rfl
def ti134 : TI := ⟨.func, 1, 8, .nilFunc⟩
theorem tiOk134 : TIOk Try.prog 134 ti134 := ⟨⟨_, _, _, Try.underlying134⟩, ⟨_, rfl, rfl, rfl, rfl⟩, rfl, rfl, by first | exact fun _ => ⟨_, rfl⟩ | exact fun h => absurd h (by decide)⟩
@[simp] theorem ti134_size : ti134.size = 1 := rfl
@[simp] theorem ti134_bytes : ti134.bytes = 8 := rfl
def ti135 : TI := ⟨.func, 1, 8, .nilFunc⟩
theorem tiOk135 : TIOk Try.prog 135 ti135 := ⟨⟨_, _, _, Try.underlying135⟩, ⟨_, rfl, rfl, rfl, rfl⟩, rfl, rfl, by first | exact fun _ => ⟨_, rfl⟩ | exact fun h => absurd h (by decide)⟩
@[simp] theorem ti135_size : ti135.size = 1 := rfl
@[simp] theorem ti135_bytes : ti135.bytes = 8 := rfl
def ti136 : TI := ⟨.func, 1, 8, .nilFunc⟩
theorem tiOk136 : TIOk Try.prog 136 ti136 := ⟨⟨_, _, _, Try.underlying136⟩, ⟨_, rfl, rfl, rfl, rfl⟩, rfl, rfl, by first | exact fun _ => ⟨_, rfl⟩ | exact fun h => absurd h (by decide)⟩
@[simp] theorem ti136_size : ti136.size = 1 := rfl
@[simp] theorem ti136_bytes : ti136.bytes = 8 := rfl
def ti137 : TI := ⟨.map 3 4, 1, 8, (.map none)⟩
theorem tiOk137 : TIOk Try.prog 137 ti137 := ⟨Try.underlying137, ⟨_, rfl, rfl, rfl, rfl⟩, rfl, rfl, by first | exact fun _ => ⟨_, rfl⟩ | exact fun h => absurd h (by decide)⟩
@[simp] theorem ti137_size : ti137.size = 1 := rfl
@[simp] theorem ti137_bytes : ti137.bytes = 8 := rfl
def ti138 : TI := ⟨.func, 1, 8, .nilFunc⟩
theorem tiOk138 : TIOk Try.prog 138 ti138 := ⟨⟨_, _, _, Try.underlying138⟩, ⟨_, rfl, rfl, rfl, rfl⟩, rfl, rfl, by first | exact fun _ => ⟨_, rfl⟩ | exact fun h => absurd h (by decide)⟩
@[simp] theorem ti138_size : ti138.size = 1 := rfl
@[simp] theorem ti138_bytes : ti138.bytes = 8 := rfl
def ti139 : TI := ⟨.slice 3, 1, 24, (.slice none 0 0)⟩
theorem tiOk139 : TIOk Try.prog 139 ti139 := ⟨Try.underlying139, ⟨_, rfl, rfl, rfl, rfl⟩, rfl, rfl, by first | exact fun _ => ⟨_, rfl⟩ | exact fun h => absurd h (by decide)⟩
@[simp] theorem ti139_size : ti139.size = 1 := rfl
@[simp] theorem ti139_bytes : ti139.bytes = 24 := rfl
def ti140 : TI := ⟨.func, 1, 8, .nilFunc⟩
theorem tiOk140 : TIOk Try.prog 140 ti140 := ⟨⟨_, _, _, Try.underlying140⟩, ⟨_, rfl, rfl, rfl, rfl⟩, rfl, rfl, by first | exact fun _ => ⟨_, rfl⟩ | exact fun h => absurd h (by decide)⟩
@[simp] theorem ti140_size : ti140.size = 1 := rfl
@[simp] theorem ti140_bytes : ti140.bytes = 8 := rfl
def ti141 : TI := ⟨.func, 1, 8, .nilFunc⟩
theorem tiOk141 : TIOk Try.prog 141 ti141 := ⟨⟨_, _, _, Try.underlying141⟩, ⟨_, rfl, rfl, rfl, rfl⟩, rfl, rfl, by first | exact fun _ => ⟨_, rfl⟩ | exact fun h => absurd h (by decide)⟩
@[simp] theorem ti141_size : ti141.size = 1 := rfl
@[simp] theorem ti141_bytes : ti141.bytes = 8 := rfl
def ti142 : TI := ⟨.func, 1, 8, .nilFunc⟩
theorem tiOk142 : TIOk Try.prog 142 ti142 := ⟨⟨_, _, _, Try.underlying142⟩, ⟨_, rfl, rfl, rfl, rfl⟩, rfl, rfl, by first | exact fun _ => ⟨_, rfl⟩ | exact fun h => absurd h (by decide)⟩
@[simp] theorem ti142_size : ti142.size = 1 := rfl
@[simp] theorem ti142_bytes : ti142.bytes = 8 := rfl
def ti143 : TI := ⟨.func, 1, 8, .nilFunc⟩
theorem tiOk143 : TIOk Try.prog 143 ti143 := ⟨⟨_, _, _, Try.underlying143⟩, ⟨_, rfl, rfl, rfl, rfl⟩, rfl, rfl, by first | exact fun _ => ⟨_, rfl⟩ | exact fun h => absurd h (by decide)⟩
@[simp] theorem ti143_size : ti143.size = 1 := rfl
@[simp] theorem ti143_bytes : ti143.bytes = 8 := rfl
def ti144 : TI := ⟨.func, 1, 8, .nilFunc⟩
theorem tiOk144 : TIOk Try.prog 144 ti144 := ⟨⟨_, _, _, Try.underlying144⟩, ⟨_, rfl, rfl, rfl, rfl⟩, rfl, rfl, by first | exact fun _ => ⟨_, rfl⟩ | exact fun h => absurd h (by decide)⟩
@[simp] theorem ti144_size : ti144.size = 1 := rfl
@[simp] theorem ti144_bytes : ti144.bytes = 8 := rfl
def ti145 : TI := ⟨.func, 1, 8, .nilFunc⟩
theorem tiOk145 : TIOk Try.prog 145 ti145 := ⟨⟨_, _, _, Try.underlying145⟩, ⟨_, rfl, rfl, rfl, rfl⟩, rfl, rfl, by first | exact fun _ => ⟨_, rfl⟩ | exact fun h => absurd h (by decide)⟩
@[simp] theorem ti145_size : ti145.size = 1 := rfl
@[simp] theorem ti145_bytes : ti145.bytes = 8 := rfl
def ti146 : TI := ⟨.func, 1, 8, .nilFunc⟩
theorem tiOk146 : TIOk Try.prog 146 ti146 := ⟨⟨_, _, _, Try.underlying146⟩, ⟨_, rfl, rfl, rfl, rfl⟩, rfl, rfl, by first | exact fun _ => ⟨_, rfl⟩ | exact fun h => absurd h (by decide)⟩
@[simp] theorem ti146_size : ti146.size = 1 := rfl
@[simp] theorem ti146_bytes : ti146.bytes = 8 := rfl
def ti147 : TI := ⟨.func, 1, 8, .nilFunc⟩
theorem tiOk147 : TIOk Try.prog 147 ti147 := ⟨⟨_, _, _, Try.underlying147⟩, ⟨_, rfl, rfl, rfl, rfl⟩, rfl, rfl, by first | exact fun _ => ⟨_, rfl⟩ | exact fun h => absurd h (by decide)⟩
@[simp] theorem ti147_size : ti147.size = 1 := rfl
@[simp] theorem ti147_bytes : ti147.bytes = 8 := rfl
def ti148 : TI := ⟨.func, 1, 8, .nilFunc⟩
theorem tiOk148 : TIOk Try.prog 148 ti148 := ⟨⟨_, _, _, Try.underlying148⟩, ⟨_, rfl, rfl, rfl, rfl⟩, rfl, rfl, by first | exact fun _ => ⟨_, rfl⟩ | exact fun h => absurd h (by decide)⟩
@[simp] theorem ti148_size : ti148.size = 1 := rfl
@[simp] theorem ti148_bytes : ti148.bytes = 8 := rfl
def ti149 : TI := ⟨.func, 1, 8, .nilFunc⟩
theorem tiOk149 : TIOk Try.prog 149 ti149 := ⟨⟨_, _, _, Try.underlying149⟩, ⟨_, rfl, rfl, rfl, rfl⟩, rfl, rfl, by first | exact fun _ => ⟨_, rfl⟩ | exact fun h => absurd h (by decide)⟩
@[simp] theorem ti149_size : ti149.size = 1 := rfl
@[simp] theorem ti149_bytes : ti149.bytes = 8 := rfl
def ti150 : TI := ⟨.func, 1, 8, .nilFunc⟩
theorem tiOk150 : TIOk Try.prog 150 ti150 := ⟨⟨_, _, _, Try.underlying150⟩, ⟨_, rfl, rfl, rfl, rfl⟩, rfl, rfl, by first | exact fun _ => ⟨_, rfl⟩ | exact fun h => absurd h (by decide)⟩
@[simp] theorem ti150_size : ti150.size = 1 := rfl
@[simp] theorem ti150_bytes : ti150.bytes = 8 := rfl
def ti151 : TI := ⟨.func, 1, 8, .nilFunc⟩
theorem tiOk151 : TIOk Try.prog 151 ti151 := ⟨⟨_, _, _, Try.underlying151⟩, ⟨_, rfl, rfl, rfl, rfl⟩, rfl, rfl, by first | exact fun _ => ⟨_, rfl⟩ | exact fun h => absurd h (by decide)⟩
@[simp] theorem ti151_size : ti151.size = 1 := rfl
@[simp] theorem ti151_bytes : ti151.bytes = 8 := rfl
def ti153 : TI := ⟨.func, 1, 8, .nilFunc⟩
theorem tiOk153 : TIOk Try.prog 153 ti153 := ⟨⟨_, _, _, Try.underlying153⟩, ⟨_, rfl, rfl, rfl, rfl⟩, rfl, rfl, by first | exact fun _ => ⟨_, rfl⟩ | exact fun h => absurd h (by decide)⟩
@[simp] theorem ti153_size : ti153.size = 1 := rfl
@[simp] theorem ti153_bytes : ti153.bytes = 8 := rfl
def ti154 : TI := ⟨.func, 1, 8, .nilFunc⟩
theorem tiOk154 : TIOk Try.prog 154 ti154 := ⟨⟨_, _, _, Try.underlying154⟩, ⟨_, rfl, rfl, rfl, rfl⟩, rfl, rfl, by first | exact fun _ => ⟨_, rfl⟩ | exact fun h => absurd h (by decide)⟩
@[simp] theorem ti154_size : ti154.size = 1 := rfl
@[simp] theorem ti154_bytes : ti154.bytes = 8 := rfl
def ti155 : TI := ⟨.func, 1, 8, .nilFunc⟩
theorem tiOk155 : TIOk Try.prog 155 ti155 := ⟨⟨_, _, _, Try.underlying155⟩, ⟨_, rfl, rfl, rfl, rfl⟩, rfl, rfl, by first | exact fun _ => ⟨_, rfl⟩ | exact fun h => absurd h (by decide)⟩
@[simp] theorem ti155_size : ti155.size = 1 := rfl
@[simp] theorem ti155_bytes : ti155.bytes = 8 := rfl
def ti156 : TI := ⟨.func, 1, 8, .nilFunc⟩
theorem tiOk156 : TIOk Try.prog 156 ti156 := ⟨⟨_, _, _, Try.underlying156⟩, ⟨_, rfl, rfl, rfl, rfl⟩, rfl, rfl, by first | exact fun _ => ⟨_, rfl⟩ | exact fun h => absurd h (by decide)⟩
@[simp] theorem ti156_size : ti156.size = 1 := rfl
@[simp] theorem ti156_bytes : ti156.bytes = 8 := rfl
def ti157 : TI := ⟨.struct [(0, 49), (136, 31), (137, 70)], 138, 576, (.agg ⟨List.replicate 136 (.int .i32 0) ++ [(.slice none 0 0)] ++ [(.map none)]⟩)⟩
theorem tiOk157 : TIOk Try.prog 157 ti157 := ⟨⟨_, Try.underlying157, rfl⟩, ⟨_, rfl, rfl, rfl, rfl⟩, rfl, rfl, by first | exact fun _ => ⟨_, rfl⟩ | exact fun h => absurd h (by decide)⟩
@[simp] theorem ti157_size : ti157.size = 138 := rfl
@[simp] theorem ti157_bytes : ti157.bytes = 576 := rfl
def ti158 : TI := ⟨.struct [(0, 49), (136, 31), (137, 70)], 138, 576, (.agg ⟨List.replicate 136 (.int .i32 0) ++ [(.slice none 0 0)] ++ [(.map none)]⟩)⟩
theorem tiOk158 : TIOk Try.prog 158 ti158 := ⟨⟨_, Try.underlying158, rfl⟩, ⟨_, rfl, rfl, rfl, rfl⟩, rfl, rfl, by first | exact fun _ => ⟨_, rfl⟩ | exact fun h => absurd h (by decide)⟩
@[simp] theorem ti158_size : ti158.size = 138 := rfl
@[simp] theorem ti158_bytes : ti158.bytes = 576 := rfl
def ti159 : TI := ⟨.func, 1, 8, .nilFunc⟩
theorem tiOk159 : TIOk Try.prog 159 ti159 := ⟨⟨_, _, _, Try.underlying159⟩, ⟨_, rfl, rfl, rfl, rfl⟩, rfl, rfl, by first | exact fun _ => ⟨_, rfl⟩ | exact fun h => absurd h (by decide)⟩
@[simp] theorem ti159_size : ti159.size = 1 := rfl
@[simp] theorem ti159_bytes : ti159.bytes = 8 := rfl
def ti160 : TI := ⟨.func, 1, 8, .nilFunc⟩
theorem tiOk160 : TIOk Try.prog 160 ti160 := ⟨⟨_, _, _, Try.underlying160⟩, ⟨_, rfl, rfl, rfl, rfl⟩, rfl, rfl, by first | exact fun _ => ⟨_, rfl⟩ | exact fun h => absurd h (by decide)⟩
@[simp] theorem ti160_size : ti160.size = 1 := rfl
@[simp] theorem ti160_bytes : ti160.bytes = 8 := rfl
def ti161 : TI := ⟨.func, 1, 8, .nilFunc⟩
theorem tiOk161 : TIOk Try.prog 161 ti161 := ⟨⟨_, _, _, Try.underlying161⟩, ⟨_, rfl, rfl, rfl, rfl⟩, rfl, rfl, by first | exact fun _ => ⟨_, rfl⟩ | exact fun h => absurd h (by decide)⟩
@[simp] theorem ti161_size : ti161.size = 1 := rfl
@[simp] theorem ti161_bytes : ti161.bytes = 8 := rfl
def ti162 : TI := ⟨.func, 1, 8, .nilFunc⟩
theorem tiOk162 : TIOk Try.prog 162 ti162 := ⟨⟨_, _, _, Try.underlying162⟩, ⟨_, rfl, rfl, rfl, rfl⟩, rfl, rfl, by first | exact fun _ => ⟨_, rfl⟩ | exact fun h => absurd h (by decide)⟩
@[simp] theorem ti162_size : ti162.size = 1 := rfl
@[simp] theorem ti162_bytes : ti162.bytes = 8 := rfl
def ti163 : TI := ⟨.func, 1, 8, .nilFunc⟩
theorem tiOk163 : TIOk Try.prog 163 ti163 := ⟨⟨_, _, _, Try.underlying163⟩, ⟨_, rfl, rfl, rfl, rfl⟩, rfl, rfl, by first | exact fun _ => ⟨_, rfl⟩ | exact fun h => absurd h (by decide)⟩
@[simp] theorem ti163_size : ti163.size = 1 := rfl
@[simp] theorem ti163_bytes : ti163.bytes = 8 := rfl
def ti164 : TI := ⟨.func, 1, 8, .nilFunc⟩
theorem tiOk164 : TIOk Try.prog 164 ti164 := ⟨⟨_, _, _, Try.underlying164⟩, ⟨_, rfl, rfl, rfl, rfl⟩, rfl, rfl, by first | exact fun _ => ⟨_, rfl⟩ | exact fun h => absurd h (by decide)⟩
@[simp] theorem ti164_size : ti164.size = 1 := rfl
@[simp] theorem ti164_bytes : ti164.bytes = 8 := rfl
def ti165 : TI := ⟨.func, 1, 8, .nilFunc⟩
theorem tiOk165 : TIOk Try.prog 165 ti165 := ⟨⟨_, _, _, Try.underlying165⟩, ⟨_, rfl, rfl, rfl, rfl⟩, rfl, rfl, by first | exact fun _ => ⟨_, rfl⟩ | exact fun h => absurd h (by decide)⟩
@[simp] theorem ti165_size : ti165.size = 1 := rfl
@[simp] theorem ti165_bytes : ti165.bytes = 8 := rfl
def ti166 : TI := ⟨.func, 1, 8, .nilFunc⟩
theorem tiOk166 : TIOk Try.prog 166 ti166 := ⟨⟨_, _, _, Try.underlying166⟩, ⟨_, rfl, rfl, rfl, rfl⟩, rfl, rfl, by first | exact fun _ => ⟨_, rfl⟩ | exact fun h => absurd h (by decide)⟩
@[simp] theorem ti166_size : ti166.size = 1 := rfl
@[simp] theorem ti166_bytes : ti166.bytes = 8 := rfl
def ti167 : TI := ⟨.func, 1, 8, .nilFunc⟩
theorem tiOk167 : TIOk Try.prog 167 ti167 := ⟨⟨_, _, _, Try.underlying167⟩, ⟨_, rfl, rfl, rfl, rfl⟩, rfl, rfl, by first | exact fun _ => ⟨_, rfl⟩ | exact fun h => absurd h (by decide)⟩
@[simp] theorem ti167_size : ti167.size = 1 := rfl
@[simp] theorem ti167_bytes : ti167.bytes = 8 := rfl
def ti168 : TI := ⟨.int .u64, 1, 8, (.int .u64 0)⟩
theorem tiOk168 : TIOk Try.prog 168 ti168 := ⟨Try.underlying168, ⟨_, rfl, rfl, rfl, rfl⟩, rfl, rfl, by first | exact fun _ => ⟨_, rfl⟩ | exact fun h => absurd h (by decide)⟩
@[simp] theorem ti168_size : ti168.size = 1 := rfl
@[simp] theorem ti168_bytes : ti168.bytes = 8 := rfl
def ti170 : TI := ⟨.func, 1, 8, .nilFunc⟩
theorem tiOk170 : TIOk Try.prog 170 ti170 := ⟨⟨_, _, _, Try.underlying170⟩, ⟨_, rfl, rfl, rfl, rfl⟩, rfl, rfl, by first | exact fun _ => ⟨_, rfl⟩ | exact fun h => absurd h (by decide)⟩
@[simp] theorem ti170_size : ti170.size = 1 := rfl
@[simp] theorem ti170_bytes : ti170.bytes = 8 := rfl
def ti171 : TI := ⟨.func, 1, 8, .nilFunc⟩
theorem tiOk171 : TIOk Try.prog 171 ti171 := ⟨⟨_, _, _, Try.underlying171⟩, ⟨_, rfl, rfl, rfl, rfl⟩, rfl, rfl, by first | exact fun _ => ⟨_, rfl⟩ | exact fun h => absurd h (by decide)⟩
@[simp] theorem ti171_size : ti171.size = 1 := rfl
@[simp] theorem ti171_bytes : ti171.bytes = 8 := rfl
def ti172 : TI := ⟨.func, 1, 8, .nilFunc⟩
theorem tiOk172 : TIOk Try.prog 172 ti172 := ⟨⟨_, _, _, Try.underlying172⟩, ⟨_, rfl, rfl, rfl, rfl⟩, rfl, rfl, by first | exact fun _ => ⟨_, rfl⟩ | exact fun h => absurd h (by decide)⟩
@[simp] theorem ti172_size : ti172.size = 1 := rfl
@[simp] theorem ti172_bytes : ti172.bytes = 8 := rfl
def ti173 : TI := ⟨.func, 1, 8, .nilFunc⟩
theorem tiOk173 : TIOk Try.prog 173 ti173 := ⟨⟨_, _, _, Try.underlying173⟩, ⟨_, rfl, rfl, rfl, rfl⟩, rfl, rfl, by first | exact fun _ => ⟨_, rfl⟩ | exact fun h => absurd h (by decide)⟩
@[simp] theorem ti173_size : ti173.size = 1 := rfl
@[simp] theorem ti173_bytes : ti173.bytes = 8 := rfl
def ti174 : TI := ⟨.func, 1, 8, .nilFunc⟩
theorem tiOk174 : TIOk Try.prog 174 ti174 := ⟨⟨_, _, _, Try.underlying174⟩, ⟨_, rfl, rfl, rfl, rfl⟩, rfl, rfl, by first | exact fun _ => ⟨_, rfl⟩ | exact fun h => absurd h (by decide)⟩
@[simp] theorem ti174_size : ti174.size = 1 := rfl
@[simp] theorem ti174_bytes : ti174.bytes = 8 := rfl
def ti175 : TI := ⟨.func, 1, 8, .nilFunc⟩
theorem tiOk175 : TIOk Try.prog 175 ti175 := ⟨⟨_, _, _, Try.underlying175⟩, ⟨_, rfl, rfl, rfl, rfl⟩, rfl, rfl, by first | exact fun _ => ⟨_, rfl⟩ | exact fun h => absurd h (by decide)⟩
@[simp] theorem ti175_size : ti175.size = 1 := rfl
@[simp] theorem ti175_bytes : ti175.bytes = 8 := rfl
def ti176 : TI := ⟨.func, 1, 8, .nilFunc⟩
theorem tiOk176 : TIOk Try.prog 176 ti176 := ⟨⟨_, _, _, Try.underlying176⟩, ⟨_, rfl, rfl, rfl, rfl⟩, rfl, rfl, by first | exact fun _ => ⟨_, rfl⟩ | exact fun h => absurd h (by decide)⟩
@[simp] theorem ti176_size : ti176.size = 1 := rfl
@[simp] theorem ti176_bytes : ti176.bytes = 8 := rfl
def ti177 : TI := ⟨.slice 45, 1, 24, (.slice none 0 0)⟩
theorem tiOk177 : TIOk Try.prog 177 ti177 := ⟨Try.underlying177, ⟨_, rfl, rfl, rfl, rfl⟩, rfl, rfl, by first | exact fun _ => ⟨_, rfl⟩ | exact fun h => absurd h (by decide)⟩
@[simp] theorem ti177_size : ti177.size = 1 := rfl
@[simp] theorem ti177_bytes : ti177.bytes = 24 := rfl
def ti178 : TI := ⟨.func, 1, 8, .nilFunc⟩
theorem tiOk178 : TIOk Try.prog 178 ti178 := ⟨⟨_, _, _, Try.underlying178⟩, ⟨_, rfl, rfl, rfl, rfl⟩, rfl, rfl, by first | exact fun _ => ⟨_, rfl⟩ | exact fun h => absurd h (by decide)⟩
@[simp] theorem ti178_size : ti178.size = 1 := rfl
@[simp] theorem ti178_bytes : ti178.bytes = 8 := rfl
def ti179 : TI := ⟨.slice 21, 1, 24, (.slice none 0 0)⟩
theorem tiOk179 : TIOk Try.prog 179 ti179 := ⟨Try.underlying179, ⟨_, rfl, rfl, rfl, rfl⟩, rfl, rfl, by first | exact fun _ => ⟨_, rfl⟩ | exact fun h => absurd h (by decide)⟩
@[simp] theorem ti179_size : ti179.size = 1 := rfl
@[simp] theorem ti179_bytes : ti179.bytes = 24 := rfl
def ti180 : TI := ⟨.func, 1, 8, .nilFunc⟩
theorem tiOk180 : TIOk Try.prog 180 ti180 := ⟨⟨_, _, _, Try.underlying180⟩, ⟨_, rfl, rfl, rfl, rfl⟩, rfl, rfl, by first | exact fun _ => ⟨_, rfl⟩ | exact fun h => absurd h (by decide)⟩
@[simp] theorem ti180_size : ti180.size = 1 := rfl
@[simp] theorem ti180_bytes : ti180.bytes = 8 := rfl
def ti181 : TI := ⟨.func, 1, 8, .nilFunc⟩
theorem tiOk181 : TIOk Try.prog 181 ti181 := ⟨⟨_, _, _, Try.underlying181⟩, ⟨_, rfl, rfl, rfl, rfl⟩, rfl, rfl, by first | exact fun _ => ⟨_, rfl⟩ | exact fun h => absurd h (by decide)⟩
@[simp] theorem ti181_size : ti181.size = 1 := rfl
@[simp] theorem ti181_bytes : ti181.bytes = 8 := rfl
def ti182 : TI := ⟨.func, 1, 8, .nilFunc⟩
theorem tiOk182 : TIOk Try.prog 182 ti182 := ⟨⟨_, _, _, Try.underlying182⟩, ⟨_, rfl, rfl, rfl, rfl⟩, rfl, rfl, by first | exact fun _ => ⟨_, rfl⟩ | exact fun h => absurd h (by decide)⟩
@[simp] theorem ti182_size : ti182.size = 1 := rfl
@[simp] theorem ti182_bytes : ti182.bytes = 8 := rfl
def ti183 : TI := ⟨.func, 1, 8, .nilFunc⟩
theorem tiOk183 : TIOk Try.prog 183 ti183 := ⟨⟨_, _, _, Try.underlying183⟩, ⟨_, rfl, rfl, rfl, rfl⟩, rfl, rfl, by first | exact fun _ => ⟨_, rfl⟩ | exact fun h => absurd h (by decide)⟩
@[simp] theorem ti183_size : ti183.size = 1 := rfl
@[simp] theorem ti183_bytes : ti183.bytes = 8 := rfl
def ti184 : TI := ⟨.func, 1, 8, .nilFunc⟩
theorem tiOk184 : TIOk Try.prog 184 ti184 := ⟨⟨_, _, _, Try.underlying184⟩, ⟨_, rfl, rfl, rfl, rfl⟩, rfl, rfl, by first | exact fun _ => ⟨_, rfl⟩ | exact fun h => absurd h (by decide)⟩
@[simp] theorem ti184_size : ti184.size = 1 := rfl
@[simp] theorem ti184_bytes : ti184.bytes = 8 := rfl
def ti185 : TI := ⟨.func, 1, 8, .nilFunc⟩
theorem tiOk185 : TIOk Try.prog 185 ti185 := ⟨⟨_, _, _, Try.underlying185⟩, ⟨_, rfl, rfl, rfl, rfl⟩, rfl, rfl, by first | exact fun _ => ⟨_, rfl⟩ | exact fun h => absurd h (by decide)⟩
@[simp] theorem ti185_size : ti185.size = 1 := rfl
@[simp] theorem ti185_bytes : ti185.bytes = 8 := rfl
def ti186 : TI := ⟨.func, 1, 8, .nilFunc⟩
theorem tiOk186 : TIOk Try.prog 186 ti186 := ⟨⟨_, _, _, Try.underlying186⟩, ⟨_, rfl, rfl, rfl, rfl⟩, rfl, rfl, by first | exact fun _ => ⟨_, rfl⟩ | exact fun h => absurd h (by decide)⟩
@[simp] theorem ti186_size : ti186.size = 1 := rfl
@[simp] theorem ti186_bytes : ti186.bytes = 8 := rfl
def ti187 : TI := ⟨.func, 1, 8, .nilFunc⟩
theorem tiOk187 : TIOk Try.prog 187 ti187 := ⟨⟨_, _, _, Try.underlying187⟩, ⟨_, rfl, rfl, rfl, rfl⟩, rfl, rfl, by first | exact fun _ => ⟨_, rfl⟩ | exact fun h => absurd h (by decide)⟩
@[simp] theorem ti187_size : ti187.size = 1 := rfl
@[simp] theorem ti187_bytes : ti187.bytes = 8 := rfl
def ti188 : TI := ⟨.func, 1, 8, .nilFunc⟩
theorem tiOk188 : TIOk Try.prog 188 ti188 := ⟨⟨_, _, _, Try.underlying188⟩, ⟨_, rfl, rfl, rfl, rfl⟩, rfl, rfl, by first | exact fun _ => ⟨_, rfl⟩ | exact fun h => absurd h (by decide)⟩
@[simp] theorem ti188_size : ti188.size = 1 := rfl
@[simp] theorem ti188_bytes : ti188.bytes = 8 := rfl
def ti189 : TI := ⟨.int .u32, 1, 4, (.int .u32 0)⟩
theorem tiOk189 : TIOk Try.prog 189 ti189 := ⟨Try.underlying189, ⟨_, rfl, rfl, rfl, rfl⟩, rfl, rfl, by first | exact fun _ => ⟨_, rfl⟩ | exact fun h => absurd h (by decide)⟩
@[simp] theorem ti189_size : ti189.size = 1 := rfl
@[simp] theorem ti189_bytes : ti189.bytes = 4 := rfl
def ti191 : TI := ⟨.func, 1, 8, .nilFunc⟩
theorem tiOk191 : TIOk Try.prog 191 ti191 := ⟨⟨_, _, _, Try.underlying191⟩, ⟨_, rfl, rfl, rfl, rfl⟩, rfl, rfl, by first | exact fun _ => ⟨_, rfl⟩ | exact fun h => absurd h (by decide)⟩
@[simp] theorem ti191_size : ti191.size = 1 := rfl
@[simp] theorem ti191_bytes : ti191.bytes = 8 := rfl
def ti192 : TI := ⟨.int .u64, 1, 8, (.int .u64 0)⟩
theorem tiOk192 : TIOk Try.prog 192 ti192 := ⟨Try.underlying192, ⟨_, rfl, rfl, rfl, rfl⟩, rfl, rfl, by first | exact fun _ => ⟨_, rfl⟩ | exact fun h => absurd h (by decide)⟩
@[simp] theorem ti192_size : ti192.size = 1 := rfl
@[simp] theorem ti192_bytes : ti192.bytes = 8 := rfl
def ti194 : TI := ⟨.func, 1, 8, .nilFunc⟩
theorem tiOk194 : TIOk Try.prog 194 ti194 := ⟨⟨_, _, _, Try.underlying194⟩, ⟨_, rfl, rfl, rfl, rfl⟩, rfl, rfl, by first | exact fun _ => ⟨_, rfl⟩ | exact fun h => absurd h (by decide)⟩
@[simp] theorem ti194_size : ti194.size = 1 := rfl
@[simp] theorem ti194_bytes : ti194.bytes = 8 := rfl
def ti195 : TI := ⟨.func, 1, 8, .nilFunc⟩
theorem tiOk195 : TIOk Try.prog 195 ti195 := ⟨⟨_, _, _, Try.underlying195⟩, ⟨_, rfl, rfl, rfl, rfl⟩, rfl, rfl, by first | exact fun _ => ⟨_, rfl⟩ | exact fun h => absurd h (by decide)⟩
@[simp] theorem ti195_size : ti195.size = 1 := rfl
@[simp] theorem ti195_bytes : ti195.bytes = 8 := rfl
def ti196 : TI := ⟨.func, 1, 8, .nilFunc⟩
theorem tiOk196 : TIOk Try.prog 196 ti196 := ⟨⟨_, _, _, Try.underlying196⟩, ⟨_, rfl, rfl, rfl, rfl⟩, rfl, rfl, by first | exact fun _ => ⟨_, rfl⟩ | exact fun h => absurd h (by decide)⟩
@[simp] theorem ti196_size : ti196.size = 1 := rfl
@[simp] theorem ti196_bytes : ti196.bytes = 8 := rfl
def ti197 : TI := ⟨.func, 1, 8, .nilFunc⟩
theorem tiOk197 : TIOk Try.prog 197 ti197 := ⟨⟨_, _, _, Try.underlying197⟩, ⟨_, rfl, rfl, rfl, rfl⟩, rfl, rfl, by first | exact fun _ => ⟨_, rfl⟩ | exact fun h => absurd h (by decide)⟩
@[simp] theorem ti197_size : ti197.size = 1 := rfl
@[simp] theorem ti197_bytes : ti197.bytes = 8 := rfl
def ti198 : TI := ⟨.func, 1, 8, .nilFunc⟩
theorem tiOk198 : TIOk Try.prog 198 ti198 := ⟨⟨_, _, _, Try.underlying198⟩, ⟨_, rfl, rfl, rfl, rfl⟩, rfl, rfl, by first | exact fun _ => ⟨_, rfl⟩ | exact fun h => absurd h (by decide)⟩
@[simp] theorem ti198_size : ti198.size = 1 := rfl
@[simp] theorem ti198_bytes : ti198.bytes = 8 := rfl
def ti199 : TI := ⟨.func, 1, 8, .nilFunc⟩
theorem tiOk199 : TIOk Try.prog 199 ti199 := ⟨⟨_, _, _, Try.underlying199⟩, ⟨_, rfl, rfl, rfl, rfl⟩, rfl, rfl, by first | exact fun _ => ⟨_, rfl⟩ | exact fun h => absurd h (by decide)⟩
@[simp] theorem ti199_size : ti199.size = 1 := rfl
@[simp] theorem ti199_bytes : ti199.bytes = 8 := rfl
def ti200 : TI := ⟨.struct [(0, 17), (1, 17), (2, 17), (3, 9)], 4, 40, (.agg ⟨[(.pointer none), (.pointer none), (.pointer none)] ++ [(.string ⟨#[]⟩)]⟩)⟩
theorem tiOk200 : TIOk Try.prog 200 ti200 := ⟨⟨_, Try.underlying200, rfl⟩, ⟨_, rfl, rfl, rfl, rfl⟩, rfl, rfl, by first | exact fun _ => ⟨_, rfl⟩ | exact fun h => absurd h (by decide)⟩
@[simp] theorem ti200_size : ti200.size = 4 := rfl
@[simp] theorem ti200_bytes : ti200.bytes = 40 := rfl
def ti201 : TI := ⟨.struct [(0, 17), (1, 17), (2, 17), (3, 9)], 4, 40, (.agg ⟨[(.pointer none), (.pointer none), (.pointer none)] ++ [(.string ⟨#[]⟩)]⟩)⟩
theorem tiOk201 : TIOk Try.prog 201 ti201 := ⟨⟨_, Try.underlying201, rfl⟩, ⟨_, rfl, rfl, rfl, rfl⟩, rfl, rfl, by first | exact fun _ => ⟨_, rfl⟩ | exact fun h => absurd h (by decide)⟩
@[simp] theorem ti201_size : ti201.size = 4 := rfl
@[simp] theorem ti201_bytes : ti201.bytes = 40 := rfl
def ti202 : TI := ⟨.arr 0 16, 0, 0, (.agg ⟨[]⟩)⟩
theorem tiOk202 : TIOk Try.prog 202 ti202 := ⟨Try.underlying202, ⟨_, rfl, rfl, rfl, rfl⟩, rfl, rfl, by first | exact fun _ => ⟨_, rfl⟩ | exact fun h => absurd h (by decide)⟩
@[simp] theorem ti202_size : ti202.size = 0 := rfl
@[simp] theorem ti202_bytes : ti202.bytes = 0 := rfl
def ti203 : TI := ⟨.struct [(0, 202)], 0, 0, (.agg ⟨[]⟩)⟩
theorem tiOk203 : TIOk Try.prog 203 ti203 := ⟨⟨_, Try.underlying203, rfl⟩, ⟨_, rfl, rfl, rfl, rfl⟩, rfl, rfl, by first | exact fun _ => ⟨_, rfl⟩ | exact fun h => absurd h (by decide)⟩
@[simp] theorem ti203_size : ti203.size = 0 := rfl
@[simp] theorem ti203_bytes : ti203.bytes = 0 := rfl
def ti204 : TI := ⟨.struct [(0, 202)], 0, 0, (.agg ⟨[]⟩)⟩
theorem tiOk204 : TIOk Try.prog 204 ti204 := ⟨⟨_, Try.underlying204, rfl⟩, ⟨_, rfl, rfl, rfl, rfl⟩, rfl, rfl, by first | exact fun _ => ⟨_, rfl⟩ | exact fun h => absurd h (by decide)⟩
@[simp] theorem ti204_size : ti204.size = 0 := rfl
@[simp] theorem ti204_bytes : ti204.bytes = 0 := rfl
def ti205 : TI := ⟨.int .u8, 1, 1, (.int .u8 0)⟩
theorem tiOk205 : TIOk Try.prog 205 ti205 := ⟨Try.underlying205, ⟨_, rfl, rfl, rfl, rfl⟩, rfl, rfl, by first | exact fun _ => ⟨_, rfl⟩ | exact fun h => absurd h (by decide)⟩
@[simp] theorem ti205_size : ti205.size = 1 := rfl
@[simp] theorem ti205_bytes : ti205.bytes = 1 := rfl
def ti206 : TI := ⟨.int .u8, 1, 1, (.int .u8 0)⟩
theorem tiOk206 : TIOk Try.prog 206 ti206 := ⟨Try.underlying206, ⟨_, rfl, rfl, rfl, rfl⟩, rfl, rfl, by first | exact fun _ => ⟨_, rfl⟩ | exact fun h => absurd h (by decide)⟩
@[simp] theorem ti206_size : ti206.size = 1 := rfl
@[simp] theorem ti206_bytes : ti206.bytes = 1 := rfl
def ti207 : TI := ⟨.func, 1, 8, .nilFunc⟩
theorem tiOk207 : TIOk Try.prog 207 ti207 := ⟨⟨_, _, _, Try.underlying207⟩, ⟨_, rfl, rfl, rfl, rfl⟩, rfl, rfl, by first | exact fun _ => ⟨_, rfl⟩ | exact fun h => absurd h (by decide)⟩
@[simp] theorem ti207_size : ti207.size = 1 := rfl
@[simp] theorem ti207_bytes : ti207.bytes = 8 := rfl
def ti208 : TI := ⟨.ptr, 1, 8, (.pointer none)⟩
theorem tiOk208 : TIOk Try.prog 208 ti208 := ⟨⟨_, Try.underlying208⟩, ⟨_, rfl, rfl, rfl, rfl⟩, rfl, rfl, by first | exact fun _ => ⟨_, rfl⟩ | exact fun h => absurd h (by decide)⟩
@[simp] theorem ti208_size : ti208.size = 1 := rfl
@[simp] theorem ti208_bytes : ti208.bytes = 8 := rfl
def ti209 : TI := ⟨.int .i32, 1, 4, (.int .i32 0)⟩
theorem tiOk209 : TIOk Try.prog 209 ti209 := ⟨Try.underlying209, ⟨_, rfl, rfl, rfl, rfl⟩, rfl, rfl, by first | exact fun _ => ⟨_, rfl⟩ | exact fun h => absurd h (by decide)⟩
@[simp] theorem ti209_size : ti209.size = 1 := rfl
@[simp] theorem ti209_bytes : ti209.bytes = 4 := rfl
def ti210 : TI := ⟨.int .i32, 1, 4, (.int .i32 0)⟩
theorem tiOk210 : TIOk Try.prog 210 ti210 := ⟨Try.underlying210, ⟨_, rfl, rfl, rfl, rfl⟩, rfl, rfl, by first | exact fun _ => ⟨_, rfl⟩ | exact fun h => absurd h (by decide)⟩
@[simp] theorem ti210_size : ti210.size = 1 := rfl
@[simp] theorem ti210_bytes : ti210.bytes = 4 := rfl
def ti211 : TI := ⟨.struct [(0, 12), (1, 12), (2, 189), (3, 205), (4, 5), (5, 5), (6, 206), (7, 207), (8, 208), (9, 209), (10, 210)], 11, 48, (.agg ⟨[(.int .u64 0), (.int .u64 0)] ++ [(.int .u32 0)] ++ [(.int .u8 0), (.int .u8 0), (.int .u8 0), (.int .u8 0)] ++ [.nilFunc] ++ [(.pointer none)] ++ [(.int .i32 0), (.int .i32 0)]⟩)⟩
theorem tiOk211 : TIOk Try.prog 211 ti211 := ⟨⟨_, Try.underlying211, rfl⟩, ⟨_, rfl, rfl, rfl, rfl⟩, rfl, rfl, by first | exact fun _ => ⟨_, rfl⟩ | exact fun h => absurd h (by decide)⟩
@[simp] theorem ti211_size : ti211.size = 11 := rfl
@[simp] theorem ti211_bytes : ti211.bytes = 48 := rfl
def ti212 : TI := ⟨.struct [(0, 12), (1, 12), (2, 189), (3, 205), (4, 5), (5, 5), (6, 206), (7, 207), (8, 208), (9, 209), (10, 210)], 11, 48, (.agg ⟨[(.int .u64 0), (.int .u64 0)] ++ [(.int .u32 0)] ++ [(.int .u8 0), (.int .u8 0), (.int .u8 0), (.int .u8 0)] ++ [.nilFunc] ++ [(.pointer none)] ++ [(.int .i32 0), (.int .i32 0)]⟩)⟩
theorem tiOk212 : TIOk Try.prog 212 ti212 := ⟨⟨_, Try.underlying212, rfl⟩, ⟨_, rfl, rfl, rfl, rfl⟩, rfl, rfl, by first | exact fun _ => ⟨_, rfl⟩ | exact fun h => absurd h (by decide)⟩
@[simp] theorem ti212_size : ti212.size = 11 := rfl
@[simp] theorem ti212_bytes : ti212.bytes = 48 := rfl
def tlist : List (Nat × TI) := [(1, ti1), (2, ti2), (3, ti3), (4, ti4), (5, ti5), (6, ti6), (7, ti7), (8, ti8), (9, ti9), (10, ti10), (11, ti11), (12, ti12), (13, ti13), (14, ti14), (15, ti15), (16, ti16), (17, ti17), (18, ti18), (19, ti19), (21, ti21), (22, ti22), (23, ti23), (24, ti24), (25, ti25), (26, ti26), (27, ti27), (28, ti28), (29, ti29), (30, ti30), (31, ti31), (33, ti33), (34, ti34), (35, ti35), (36, ti36), (37, ti37), (38, ti38), (39, ti39), (40, ti40), (41, ti41), (42, ti42), (43, ti43), (44, ti44), (45, ti45), (46, ti46), (48, ti48), (49, ti49), (50, ti50), (51, ti51), (52, ti52), (53, ti53), (55, ti55), (56, ti56), (57, ti57), (58, ti58), (60, ti60), (61, ti61), (63, ti63), (64, ti64), (65, ti65), (66, ti66), (67, ti67), (68, ti68), (69, ti69), (70, ti70), (71, ti71), (72, ti72), (73, ti73), (74, ti74), (75, ti75), (77, ti77), (78, ti78), (79, ti79), (80, ti80), (81, ti81), (82, ti82), (83, ti83), (84, ti84), (85, ti85), (86, ti86), (87, ti87), (88, ti88), (89, ti89), (90, ti90), (91, ti91), (92, ti92), (93, ti93), (94, ti94), (95, ti95), (96, ti96), (97, ti97), (98, ti98), (99, ti99), (101, ti101), (102, ti102), (103, ti103), (105, ti105), (106, ti106), (107, ti107), (108, ti108), (109, ti109), (110, ti110), (111, ti111), (112, ti112), (113, ti113), (114, ti114), (115, ti115), (116, ti116), (117, ti117), (118, ti118), (119, ti119), (120, ti120), (121, ti121), (122, ti122), (124, ti124), (125, ti125), (126, ti126), (127, ti127), (128, ti128), (129, ti129), (130, ti130), (131, ti131), (132, ti132), (133, ti133), (134, ti134), (135, ti135), (136, ti136), (137, ti137), (138, ti138), (139, ti139), (140, ti140), (141, ti141), (142, ti142), (143, ti143), (144, ti144), (145, ti145), (146, ti146), (147, ti147), (148, ti148), (149, ti149), (150, ti150), (151, ti151), (153, ti153), (154, ti154), (155, ti155), (156, ti156), (157, ti157), (158, ti158), (159, ti159), (160, ti160), (161, ti161), (162, ti162), (163, ti163), (164, ti164), (165, ti165), (166, ti166), (167, ti167), (168, ti168), (170, ti170), (171, ti171), (172, ti172), (173, ti173), (174, ti174), (175, ti175), (176, ti176), (177, ti177), (178, ti178), (179, ti179), (180, ti180), (181, ti181), (182, ti182), (183, ti183), (184, ti184), (185, ti185), (186, ti186), (187, ti187), (188, ti188), (189, ti189), (191, ti191), (192, ti192), (194, ti194), (195, ti195), (196, ti196), (197, ti197), (198, ti198), (199, ti199), (200, ti200), (201, ti201), (202, ti202), (203, ti203), (204, ti204), (205, ti205), (206, ti206), (207, ti207), (208, ti208), (209, ti209), (210, ti210), (211, ti211), (212, ti212)]
def tt : Types := lk tlist
theorem tOk : TOk Try.prog tt := TOk.of_list (by
  simp only [tlist, ListOk]
  exact ⟨tiOk1, tiOk2, tiOk3, tiOk4, tiOk5, tiOk6, tiOk7, tiOk8, tiOk9, tiOk10, tiOk11, tiOk12, tiOk13, tiOk14, tiOk15, tiOk16, tiOk17, tiOk18, tiOk19, tiOk21, tiOk22, tiOk23, tiOk24, tiOk25, tiOk26, tiOk27, tiOk28, tiOk29, tiOk30, tiOk31, tiOk33, tiOk34, tiOk35, tiOk36, tiOk37, tiOk38, tiOk39, tiOk40, tiOk41, tiOk42, tiOk43, tiOk44, tiOk45, tiOk46, tiOk48, tiOk49, tiOk50, tiOk51, tiOk52, tiOk53, tiOk55, tiOk56, tiOk57, tiOk58, tiOk60, tiOk61, tiOk63, tiOk64, tiOk65, tiOk66, tiOk67, tiOk68, tiOk69, tiOk70, tiOk71, tiOk72, tiOk73, tiOk74, tiOk75, tiOk77, tiOk78, tiOk79, tiOk80, tiOk81, tiOk82, tiOk83, tiOk84, tiOk85, tiOk86, tiOk87, tiOk88, tiOk89, tiOk90, tiOk91, tiOk92, tiOk93, tiOk94, tiOk95, tiOk96, tiOk97, tiOk98, tiOk99, tiOk101, tiOk102, tiOk103, tiOk105, tiOk106, tiOk107, tiOk108, tiOk109, tiOk110, tiOk111, tiOk112, tiOk113, tiOk114, tiOk115, tiOk116, tiOk117, tiOk118, tiOk119, tiOk120, tiOk121, tiOk122, tiOk124, tiOk125, tiOk126, tiOk127, tiOk128, tiOk129, tiOk130, tiOk131, tiOk132, tiOk133, tiOk134, tiOk135, tiOk136, tiOk137, tiOk138, tiOk139, tiOk140, tiOk141, tiOk142, tiOk143, tiOk144, tiOk145, tiOk146, tiOk147, tiOk148, tiOk149, tiOk150, tiOk151, tiOk153, tiOk154, tiOk155, tiOk156, tiOk157, tiOk158, tiOk159, tiOk160, tiOk161, tiOk162, tiOk163, tiOk164, tiOk165, tiOk166, tiOk167, tiOk168, tiOk170, tiOk171, tiOk172, tiOk173, tiOk174, tiOk175, tiOk176, tiOk177, tiOk178, tiOk179, tiOk180, tiOk181, tiOk182, tiOk183, tiOk184, tiOk185, tiOk186, tiOk187, tiOk188, tiOk189, tiOk191, tiOk192, tiOk194, tiOk195, tiOk196, tiOk197, tiOk198, tiOk199, tiOk200, tiOk201, tiOk202, tiOk203, tiOk204, tiOk205, tiOk206, tiOk207, tiOk208, tiOk209, tiOk210, tiOk211, tiOk212, trivial⟩)
theorem hMix : Try.prog.follows .mixedOrders = true := by kernel_rfl
end Go.Proofs.Ytejncabmppobfaa
