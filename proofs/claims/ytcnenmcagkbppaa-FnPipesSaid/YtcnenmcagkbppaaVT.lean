import Derived.Test.YtcnenmcagkbppaaProg
import Derived.Test.YtcnenmcagkbppaaW7
import Derived.KernelRfl
/- What is known of the types of this seat's translation. By a program of this repository (gentypes.py). -/
namespace Go.Proofs.Ytcnenmcagkbppaa
open Go.V
set_option maxRecDepth 10000

/-- This seat lists no table. -/
instance globs : Globs := ⟨fun _ => none, fun _ _ h => (by cases h), fun _ => none⟩
theorem globOk (w : World) : GlobOk w noLoc := ⟨fun _ _ h => (by cases h), fun _ _ h => (by cases h)⟩
def ti1 : TI := ⟨.func, 1, 8, .nilFunc⟩
theorem tiOk1 : TIOk Try.prog 1 ti1 := ⟨⟨_, _, _, Try.underlying1⟩, ⟨_, rfl, rfl, rfl, rfl⟩, rfl, rfl, by first | exact fun _ => ⟨_, rfl⟩ | exact fun h => absurd h (by decide)⟩
@[simp] theorem ti1_size : ti1.size = 1 := rfl
@[simp] theorem ti1_bytes : ti1.bytes = 8 := rfl
def ti2 : TI := ⟨.int .i64, 1, 8, (.int .i64 0)⟩
theorem tiOk2 : TIOk Try.prog 2 ti2 := ⟨Try.underlying2, ⟨_, rfl, rfl, rfl, rfl⟩, rfl, rfl, by first | exact fun _ => ⟨_, rfl⟩ | exact fun h => absurd h (by decide)⟩
@[simp] theorem ti2_size : ti2.size = 1 := rfl
@[simp] theorem ti2_bytes : ti2.bytes = 8 := rfl
def ti3 : TI := ⟨.int .i64, 1, 8, (.int .i64 0)⟩
theorem tiOk3 : TIOk Try.prog 3 ti3 := ⟨Try.underlying3, ⟨_, rfl, rfl, rfl, rfl⟩, rfl, rfl, by first | exact fun _ => ⟨_, rfl⟩ | exact fun h => absurd h (by decide)⟩
@[simp] theorem ti3_size : ti3.size = 1 := rfl
@[simp] theorem ti3_bytes : ti3.bytes = 8 := rfl
def ti4 : TI := ⟨.bool, 1, 1, (.bool false)⟩
theorem tiOk4 : TIOk Try.prog 4 ti4 := ⟨Try.underlying4, ⟨_, rfl, rfl, rfl, rfl⟩, rfl, rfl, by first | exact fun _ => ⟨_, rfl⟩ | exact fun h => absurd h (by decide)⟩
@[simp] theorem ti4_size : ti4.size = 1 := rfl
@[simp] theorem ti4_bytes : ti4.bytes = 1 := rfl
def ti5 : TI := ⟨.int .u8, 1, 1, (.int .u8 0)⟩
theorem tiOk5 : TIOk Try.prog 5 ti5 := ⟨Try.underlying5, ⟨_, rfl, rfl, rfl, rfl⟩, rfl, rfl, by first | exact fun _ => ⟨_, rfl⟩ | exact fun h => absurd h (by decide)⟩
@[simp] theorem ti5_size : ti5.size = 1 := rfl
@[simp] theorem ti5_bytes : ti5.bytes = 1 := rfl
def ti6 : TI := ⟨.int .u8, 1, 1, (.int .u8 0)⟩
theorem tiOk6 : TIOk Try.prog 6 ti6 := ⟨Try.underlying6, ⟨_, rfl, rfl, rfl, rfl⟩, rfl, rfl, by first | exact fun _ => ⟨_, rfl⟩ | exact fun h => absurd h (by decide)⟩
@[simp] theorem ti6_size : ti6.size = 1 := rfl
@[simp] theorem ti6_bytes : ti6.bytes = 1 := rfl
def ti7 : TI := ⟨.struct [(0, 2), (1, 3), (2, 4), (3, 6)], 4, 24, (.agg ⟨[(.int .i64 0), (.int .i64 0)] ++ [(.bool false)] ++ [(.int .u8 0)]⟩)⟩
theorem tiOk7 : TIOk Try.prog 7 ti7 := ⟨⟨_, Try.underlying7, rfl⟩, ⟨_, rfl, rfl, rfl, rfl⟩, rfl, rfl, by first | exact fun _ => ⟨_, rfl⟩ | exact fun h => absurd h (by decide)⟩
@[simp] theorem ti7_size : ti7.size = 4 := rfl
@[simp] theorem ti7_bytes : ti7.bytes = 24 := rfl
def ti8 : TI := ⟨.struct [(0, 2), (1, 3), (2, 4), (3, 6)], 4, 24, (.agg ⟨[(.int .i64 0), (.int .i64 0)] ++ [(.bool false)] ++ [(.int .u8 0)]⟩)⟩
theorem tiOk8 : TIOk Try.prog 8 ti8 := ⟨⟨_, Try.underlying8, rfl⟩, ⟨_, rfl, rfl, rfl, rfl⟩, rfl, rfl, by first | exact fun _ => ⟨_, rfl⟩ | exact fun h => absurd h (by decide)⟩
@[simp] theorem ti8_size : ti8.size = 4 := rfl
@[simp] theorem ti8_bytes : ti8.bytes = 24 := rfl
def ti9 : TI := ⟨.str, 1, 16, (.string ⟨#[]⟩)⟩
theorem tiOk9 : TIOk Try.prog 9 ti9 := ⟨Try.underlying9, ⟨_, rfl, rfl, rfl, rfl⟩, rfl, rfl, by first | exact fun _ => ⟨_, rfl⟩ | exact fun h => absurd h (by decide)⟩
@[simp] theorem ti9_size : ti9.size = 1 := rfl
@[simp] theorem ti9_bytes : ti9.bytes = 16 := rfl
def ti10 : TI := ⟨.str, 1, 16, (.string ⟨#[]⟩)⟩
theorem tiOk10 : TIOk Try.prog 10 ti10 := ⟨Try.underlying10, ⟨_, rfl, rfl, rfl, rfl⟩, rfl, rfl, by first | exact fun _ => ⟨_, rfl⟩ | exact fun h => absurd h (by decide)⟩
@[simp] theorem ti10_size : ti10.size = 1 := rfl
@[simp] theorem ti10_bytes : ti10.bytes = 16 := rfl
def ti11 : TI := ⟨.str, 1, 16, (.string ⟨#[]⟩)⟩
theorem tiOk11 : TIOk Try.prog 11 ti11 := ⟨Try.underlying11, ⟨_, rfl, rfl, rfl, rfl⟩, rfl, rfl, by first | exact fun _ => ⟨_, rfl⟩ | exact fun h => absurd h (by decide)⟩
@[simp] theorem ti11_size : ti11.size = 1 := rfl
@[simp] theorem ti11_bytes : ti11.bytes = 16 := rfl
def ti12 : TI := ⟨.int .u64, 1, 8, (.int .u64 0)⟩
theorem tiOk12 : TIOk Try.prog 12 ti12 := ⟨Try.underlying12, ⟨_, rfl, rfl, rfl, rfl⟩, rfl, rfl, by first | exact fun _ => ⟨_, rfl⟩ | exact fun h => absurd h (by decide)⟩
@[simp] theorem ti12_size : ti12.size = 1 := rfl
@[simp] theorem ti12_bytes : ti12.bytes = 8 := rfl
def ti13 : TI := ⟨.struct [(0, 9), (1, 12)], 2, 24, (.agg ⟨[(.string ⟨#[]⟩)] ++ [(.int .u64 0)]⟩)⟩
theorem tiOk13 : TIOk Try.prog 13 ti13 := ⟨⟨_, Try.underlying13, rfl⟩, ⟨_, rfl, rfl, rfl, rfl⟩, rfl, rfl, by first | exact fun _ => ⟨_, rfl⟩ | exact fun h => absurd h (by decide)⟩
@[simp] theorem ti13_size : ti13.size = 2 := rfl
@[simp] theorem ti13_bytes : ti13.bytes = 24 := rfl
def ti14 : TI := ⟨.struct [(0, 9), (1, 12)], 2, 24, (.agg ⟨[(.string ⟨#[]⟩)] ++ [(.int .u64 0)]⟩)⟩
theorem tiOk14 : TIOk Try.prog 14 ti14 := ⟨⟨_, Try.underlying14, rfl⟩, ⟨_, rfl, rfl, rfl, rfl⟩, rfl, rfl, by first | exact fun _ => ⟨_, rfl⟩ | exact fun h => absurd h (by decide)⟩
@[simp] theorem ti14_size : ti14.size = 2 := rfl
@[simp] theorem ti14_bytes : ti14.bytes = 24 := rfl
def ti15 : TI := ⟨.ptr, 1, 8, (.pointer none)⟩
theorem tiOk15 : TIOk Try.prog 15 ti15 := ⟨⟨_, Try.underlying15⟩, ⟨_, rfl, rfl, rfl, rfl⟩, rfl, rfl, by first | exact fun _ => ⟨_, rfl⟩ | exact fun h => absurd h (by decide)⟩
@[simp] theorem ti15_size : ti15.size = 1 := rfl
@[simp] theorem ti15_bytes : ti15.bytes = 8 := rfl
def ti16 : TI := ⟨.ptr, 1, 8, (.pointer none)⟩
theorem tiOk16 : TIOk Try.prog 16 ti16 := ⟨⟨_, Try.underlying16⟩, ⟨_, rfl, rfl, rfl, rfl⟩, rfl, rfl, by first | exact fun _ => ⟨_, rfl⟩ | exact fun h => absurd h (by decide)⟩
@[simp] theorem ti16_size : ti16.size = 1 := rfl
@[simp] theorem ti16_bytes : ti16.bytes = 8 := rfl
def ti17 : TI := ⟨.ptr, 1, 8, (.pointer none)⟩
theorem tiOk17 : TIOk Try.prog 17 ti17 := ⟨⟨_, Try.underlying17⟩, ⟨_, rfl, rfl, rfl, rfl⟩, rfl, rfl, by first | exact fun _ => ⟨_, rfl⟩ | exact fun h => absurd h (by decide)⟩
@[simp] theorem ti17_size : ti17.size = 1 := rfl
@[simp] theorem ti17_bytes : ti17.bytes = 8 := rfl
def ti18 : TI := ⟨.struct [(0, 17)], 1, 8, (.agg ⟨[(.pointer none)]⟩)⟩
theorem tiOk18 : TIOk Try.prog 18 ti18 := ⟨⟨_, Try.underlying18, rfl⟩, ⟨_, rfl, rfl, rfl, rfl⟩, rfl, rfl, by first | exact fun _ => ⟨_, rfl⟩ | exact fun h => absurd h (by decide)⟩
@[simp] theorem ti18_size : ti18.size = 1 := rfl
@[simp] theorem ti18_bytes : ti18.bytes = 8 := rfl
def ti19 : TI := ⟨.struct [(0, 17)], 1, 8, (.agg ⟨[(.pointer none)]⟩)⟩
theorem tiOk19 : TIOk Try.prog 19 ti19 := ⟨⟨_, Try.underlying19, rfl⟩, ⟨_, rfl, rfl, rfl, rfl⟩, rfl, rfl, by first | exact fun _ => ⟨_, rfl⟩ | exact fun h => absurd h (by decide)⟩
@[simp] theorem ti19_size : ti19.size = 1 := rfl
@[simp] theorem ti19_bytes : ti19.bytes = 8 := rfl
def ti21 : TI := ⟨.int .i32, 1, 4, (.int .i32 0)⟩
theorem tiOk21 : TIOk Try.prog 21 ti21 := ⟨Try.underlying21, ⟨_, rfl, rfl, rfl, rfl⟩, rfl, rfl, by first | exact fun _ => ⟨_, rfl⟩ | exact fun h => absurd h (by decide)⟩
@[simp] theorem ti21_size : ti21.size = 1 := rfl
@[simp] theorem ti21_bytes : ti21.bytes = 4 := rfl
def ti22 : TI := ⟨.slice 5, 1, 24, (.slice none 0 0)⟩
theorem tiOk22 : TIOk Try.prog 22 ti22 := ⟨Try.underlying22, ⟨_, rfl, rfl, rfl, rfl⟩, rfl, rfl, by first | exact fun _ => ⟨_, rfl⟩ | exact fun h => absurd h (by decide)⟩
@[simp] theorem ti22_size : ti22.size = 1 := rfl
@[simp] theorem ti22_bytes : ti22.bytes = 24 := rfl
def ti23 : TI := ⟨.func, 1, 8, .nilFunc⟩
theorem tiOk23 : TIOk Try.prog 23 ti23 := ⟨⟨_, _, _, Try.underlying23⟩, ⟨_, rfl, rfl, rfl, rfl⟩, rfl, rfl, by first | exact fun _ => ⟨_, rfl⟩ | exact fun h => absurd h (by decide)⟩
@[simp] theorem ti23_size : ti23.size = 1 := rfl
@[simp] theorem ti23_bytes : ti23.bytes = 8 := rfl
def ti24 : TI := ⟨.int .i8, 1, 1, (.int .i8 0)⟩
theorem tiOk24 : TIOk Try.prog 24 ti24 := ⟨Try.underlying24, ⟨_, rfl, rfl, rfl, rfl⟩, rfl, rfl, by first | exact fun _ => ⟨_, rfl⟩ | exact fun h => absurd h (by decide)⟩
@[simp] theorem ti24_size : ti24.size = 1 := rfl
@[simp] theorem ti24_bytes : ti24.bytes = 1 := rfl
def ti25 : TI := ⟨.int .i16, 1, 2, (.int .i16 0)⟩
theorem tiOk25 : TIOk Try.prog 25 ti25 := ⟨Try.underlying25, ⟨_, rfl, rfl, rfl, rfl⟩, rfl, rfl, by first | exact fun _ => ⟨_, rfl⟩ | exact fun h => absurd h (by decide)⟩
@[simp] theorem ti25_size : ti25.size = 1 := rfl
@[simp] theorem ti25_bytes : ti25.bytes = 2 := rfl
def ti26 : TI := ⟨.arr 17 24, 17, 17, (.agg ⟨List.replicate 17 (.int .i8 0)⟩)⟩
theorem tiOk26 : TIOk Try.prog 26 ti26 := ⟨Try.underlying26, ⟨_, rfl, rfl, rfl, rfl⟩, rfl, rfl, by first | exact fun _ => ⟨_, rfl⟩ | exact fun h => absurd h (by decide)⟩
@[simp] theorem ti26_size : ti26.size = 17 := rfl
@[simp] theorem ti26_bytes : ti26.bytes = 17 := rfl
def ti27 : TI := ⟨.int .u32, 1, 4, (.int .u32 0)⟩
theorem tiOk27 : TIOk Try.prog 27 ti27 := ⟨Try.underlying27, ⟨_, rfl, rfl, rfl, rfl⟩, rfl, rfl, by first | exact fun _ => ⟨_, rfl⟩ | exact fun h => absurd h (by decide)⟩
@[simp] theorem ti27_size : ti27.size = 1 := rfl
@[simp] theorem ti27_bytes : ti27.bytes = 4 := rfl
def ti28 : TI := ⟨.slice 41, 1, 24, (.slice none 0 0)⟩
theorem tiOk28 : TIOk Try.prog 28 ti28 := ⟨Try.underlying28, ⟨_, rfl, rfl, rfl, rfl⟩, rfl, rfl, by first | exact fun _ => ⟨_, rfl⟩ | exact fun h => absurd h (by decide)⟩
@[simp] theorem ti28_size : ti28.size = 1 := rfl
@[simp] theorem ti28_bytes : ti28.bytes = 24 := rfl
def ti29 : TI := ⟨.struct [(0, 24), (1, 25), (2, 26), (19, 27), (20, 28)], 21, 56, (.agg ⟨[(.int .i8 0)] ++ [(.int .i16 0)] ++ List.replicate 17 (.int .i8 0) ++ [(.int .u32 0)] ++ [(.slice none 0 0)]⟩)⟩
theorem tiOk29 : TIOk Try.prog 29 ti29 := ⟨⟨_, Try.underlying29, rfl⟩, ⟨_, rfl, rfl, rfl, rfl⟩, rfl, rfl, by first | exact fun _ => ⟨_, rfl⟩ | exact fun h => absurd h (by decide)⟩
@[simp] theorem ti29_size : ti29.size = 21 := rfl
@[simp] theorem ti29_bytes : ti29.bytes = 56 := rfl
def ti30 : TI := ⟨.struct [(0, 24), (1, 25), (2, 26), (19, 27), (20, 28)], 21, 56, (.agg ⟨[(.int .i8 0)] ++ [(.int .i16 0)] ++ List.replicate 17 (.int .i8 0) ++ [(.int .u32 0)] ++ [(.slice none 0 0)]⟩)⟩
theorem tiOk30 : TIOk Try.prog 30 ti30 := ⟨⟨_, Try.underlying30, rfl⟩, ⟨_, rfl, rfl, rfl, rfl⟩, rfl, rfl, by first | exact fun _ => ⟨_, rfl⟩ | exact fun h => absurd h (by decide)⟩
@[simp] theorem ti30_size : ti30.size = 21 := rfl
@[simp] theorem ti30_bytes : ti30.bytes = 56 := rfl
def ti31 : TI := ⟨.func, 1, 8, .nilFunc⟩
theorem tiOk31 : TIOk Try.prog 31 ti31 := ⟨⟨_, _, _, Try.underlying31⟩, ⟨_, rfl, rfl, rfl, rfl⟩, rfl, rfl, by first | exact fun _ => ⟨_, rfl⟩ | exact fun h => absurd h (by decide)⟩
@[simp] theorem ti31_size : ti31.size = 1 := rfl
@[simp] theorem ti31_bytes : ti31.bytes = 8 := rfl
def ti32 : TI := ⟨.slice 2, 1, 24, (.slice none 0 0)⟩
theorem tiOk32 : TIOk Try.prog 32 ti32 := ⟨Try.underlying32, ⟨_, rfl, rfl, rfl, rfl⟩, rfl, rfl, by first | exact fun _ => ⟨_, rfl⟩ | exact fun h => absurd h (by decide)⟩
@[simp] theorem ti32_size : ti32.size = 1 := rfl
@[simp] theorem ti32_bytes : ti32.bytes = 24 := rfl
def ti33 : TI := ⟨.func, 1, 8, .nilFunc⟩
theorem tiOk33 : TIOk Try.prog 33 ti33 := ⟨⟨_, _, _, Try.underlying33⟩, ⟨_, rfl, rfl, rfl, rfl⟩, rfl, rfl, by first | exact fun _ => ⟨_, rfl⟩ | exact fun h => absurd h (by decide)⟩
@[simp] theorem ti33_size : ti33.size = 1 := rfl
@[simp] theorem ti33_bytes : ti33.bytes = 8 := rfl
def ti35 : TI := ⟨.func, 1, 8, .nilFunc⟩
theorem tiOk35 : TIOk Try.prog 35 ti35 := ⟨⟨_, _, _, Try.underlying35⟩, ⟨_, rfl, rfl, rfl, rfl⟩, rfl, rfl, by first | exact fun _ => ⟨_, rfl⟩ | exact fun h => absurd h (by decide)⟩
@[simp] theorem ti35_size : ti35.size = 1 := rfl
@[simp] theorem ti35_bytes : ti35.bytes = 8 := rfl
def ti36 : TI := ⟨.func, 1, 8, .nilFunc⟩
theorem tiOk36 : TIOk Try.prog 36 ti36 := ⟨⟨_, _, _, Try.underlying36⟩, ⟨_, rfl, rfl, rfl, rfl⟩, rfl, rfl, by first | exact fun _ => ⟨_, rfl⟩ | exact fun h => absurd h (by decide)⟩
@[simp] theorem ti36_size : ti36.size = 1 := rfl
@[simp] theorem ti36_bytes : ti36.bytes = 8 := rfl
def ti38 : TI := ⟨.func, 1, 8, .nilFunc⟩
theorem tiOk38 : TIOk Try.prog 38 ti38 := ⟨⟨_, _, _, Try.underlying38⟩, ⟨_, rfl, rfl, rfl, rfl⟩, rfl, rfl, by first | exact fun _ => ⟨_, rfl⟩ | exact fun h => absurd h (by decide)⟩
@[simp] theorem ti38_size : ti38.size = 1 := rfl
@[simp] theorem ti38_bytes : ti38.bytes = 8 := rfl
def ti39 : TI := ⟨.func, 1, 8, .nilFunc⟩
theorem tiOk39 : TIOk Try.prog 39 ti39 := ⟨⟨_, _, _, Try.underlying39⟩, ⟨_, rfl, rfl, rfl, rfl⟩, rfl, rfl, by first | exact fun _ => ⟨_, rfl⟩ | exact fun h => absurd h (by decide)⟩
@[simp] theorem ti39_size : ti39.size = 1 := rfl
@[simp] theorem ti39_bytes : ti39.bytes = 8 := rfl
def ti40 : TI := ⟨.struct [(0, 24), (1, 25)], 2, 4, (.agg ⟨[(.int .i8 0)] ++ [(.int .i16 0)]⟩)⟩
theorem tiOk40 : TIOk Try.prog 40 ti40 := ⟨⟨_, Try.underlying40, rfl⟩, ⟨_, rfl, rfl, rfl, rfl⟩, rfl, rfl, by first | exact fun _ => ⟨_, rfl⟩ | exact fun h => absurd h (by decide)⟩
@[simp] theorem ti40_size : ti40.size = 2 := rfl
@[simp] theorem ti40_bytes : ti40.bytes = 4 := rfl
def ti41 : TI := ⟨.struct [(0, 24), (1, 25)], 2, 4, (.agg ⟨[(.int .i8 0)] ++ [(.int .i16 0)]⟩)⟩
theorem tiOk41 : TIOk Try.prog 41 ti41 := ⟨⟨_, Try.underlying41, rfl⟩, ⟨_, rfl, rfl, rfl, rfl⟩, rfl, rfl, by first | exact fun _ => ⟨_, rfl⟩ | exact fun h => absurd h (by decide)⟩
@[simp] theorem ti41_size : ti41.size = 2 := rfl
@[simp] theorem ti41_bytes : ti41.bytes = 4 := rfl
def ti42 : TI := ⟨.func, 1, 8, .nilFunc⟩
theorem tiOk42 : TIOk Try.prog 42 ti42 := ⟨⟨_, _, _, Try.underlying42⟩, ⟨_, rfl, rfl, rfl, rfl⟩, rfl, rfl, by first | exact fun _ => ⟨_, rfl⟩ | exact fun h => absurd h (by decide)⟩
@[simp] theorem ti42_size : ti42.size = 1 := rfl
@[simp] theorem ti42_bytes : ti42.bytes = 8 := rfl
def ti44 : TI := ⟨.func, 1, 8, .nilFunc⟩
theorem tiOk44 : TIOk Try.prog 44 ti44 := ⟨⟨_, _, _, Try.underlying44⟩, ⟨_, rfl, rfl, rfl, rfl⟩, rfl, rfl, by first | exact fun _ => ⟨_, rfl⟩ | exact fun h => absurd h (by decide)⟩
@[simp] theorem ti44_size : ti44.size = 1 := rfl
@[simp] theorem ti44_bytes : ti44.bytes = 8 := rfl
def ti45 : TI := ⟨.func, 1, 8, .nilFunc⟩
theorem tiOk45 : TIOk Try.prog 45 ti45 := ⟨⟨_, _, _, Try.underlying45⟩, ⟨_, rfl, rfl, rfl, rfl⟩, rfl, rfl, by first | exact fun _ => ⟨_, rfl⟩ | exact fun h => absurd h (by decide)⟩
@[simp] theorem ti45_size : ti45.size = 1 := rfl
@[simp] theorem ti45_bytes : ti45.bytes = 8 := rfl
def ti46 : TI := ⟨.func, 1, 8, .nilFunc⟩
theorem tiOk46 : TIOk Try.prog 46 ti46 := ⟨⟨_, _, _, Try.underlying46⟩, ⟨_, rfl, rfl, rfl, rfl⟩, rfl, rfl, by first | exact fun _ => ⟨_, rfl⟩ | exact fun h => absurd h (by decide)⟩
@[simp] theorem ti46_size : ti46.size = 1 := rfl
@[simp] theorem ti46_bytes : ti46.bytes = 8 := rfl
def ti47 : TI := ⟨.func, 1, 8, .nilFunc⟩
theorem tiOk47 : TIOk Try.prog 47 ti47 := ⟨⟨_, _, _, Try.underlying47⟩, ⟨_, rfl, rfl, rfl, rfl⟩, rfl, rfl, by first | exact fun _ => ⟨_, rfl⟩ | exact fun h => absurd h (by decide)⟩
@[simp] theorem ti47_size : ti47.size = 1 := rfl
@[simp] theorem ti47_bytes : ti47.bytes = 8 := rfl
def ti48 : TI := ⟨.func, 1, 8, .nilFunc⟩
theorem tiOk48 : TIOk Try.prog 48 ti48 := ⟨⟨_, _, _, Try.underlying48⟩, ⟨_, rfl, rfl, rfl, rfl⟩, rfl, rfl, by first | exact fun _ => ⟨_, rfl⟩ | exact fun h => absurd h (by decide)⟩
@[simp] theorem ti48_size : ti48.size = 1 := rfl
@[simp] theorem ti48_bytes : ti48.bytes = 8 := rfl
def ti50 : TI := ⟨.func, 1, 8, .nilFunc⟩
theorem tiOk50 : TIOk Try.prog 50 ti50 := ⟨⟨_, _, _, Try.underlying50⟩, ⟨_, rfl, rfl, rfl, rfl⟩, rfl, rfl, by first | exact fun _ => ⟨_, rfl⟩ | exact fun h => absurd h (by decide)⟩
@[simp] theorem ti50_size : ti50.size = 1 := rfl
@[simp] theorem ti50_bytes : ti50.bytes = 8 := rfl
def ti51 : TI := ⟨.func, 1, 8, .nilFunc⟩
theorem tiOk51 : TIOk Try.prog 51 ti51 := ⟨⟨_, _, _, Try.underlying51⟩, ⟨_, rfl, rfl, rfl, rfl⟩, rfl, rfl, by first | exact fun _ => ⟨_, rfl⟩ | exact fun h => absurd h (by decide)⟩
@[simp] theorem ti51_size : ti51.size = 1 := rfl
@[simp] theorem ti51_bytes : ti51.bytes = 8 := rfl
def ti52 : TI := ⟨.arr 17 21, 17, 68, (.agg ⟨List.replicate 17 (.int .i32 0)⟩)⟩
theorem tiOk52 : TIOk Try.prog 52 ti52 := ⟨Try.underlying52, ⟨_, rfl, rfl, rfl, rfl⟩, rfl, rfl, by first | exact fun _ => ⟨_, rfl⟩ | exact fun h => absurd h (by decide)⟩
@[simp] theorem ti52_size : ti52.size = 17 := rfl
@[simp] theorem ti52_bytes : ti52.bytes = 68 := rfl
def ti53 : TI := ⟨.arr 17 21, 17, 68, (.agg ⟨List.replicate 17 (.int .i32 0)⟩)⟩
theorem tiOk53 : TIOk Try.prog 53 ti53 := ⟨Try.underlying53, ⟨_, rfl, rfl, rfl, rfl⟩, rfl, rfl, by first | exact fun _ => ⟨_, rfl⟩ | exact fun h => absurd h (by decide)⟩
@[simp] theorem ti53_size : ti53.size = 17 := rfl
@[simp] theorem ti53_bytes : ti53.bytes = 68 := rfl
def ti55 : TI := ⟨.func, 1, 8, .nilFunc⟩
theorem tiOk55 : TIOk Try.prog 55 ti55 := ⟨⟨_, _, _, Try.underlying55⟩, ⟨_, rfl, rfl, rfl, rfl⟩, rfl, rfl, by first | exact fun _ => ⟨_, rfl⟩ | exact fun h => absurd h (by decide)⟩
@[simp] theorem ti55_size : ti55.size = 1 := rfl
@[simp] theorem ti55_bytes : ti55.bytes = 8 := rfl
def ti56 : TI := ⟨.func, 1, 8, .nilFunc⟩
theorem tiOk56 : TIOk Try.prog 56 ti56 := ⟨⟨_, _, _, Try.underlying56⟩, ⟨_, rfl, rfl, rfl, rfl⟩, rfl, rfl, by first | exact fun _ => ⟨_, rfl⟩ | exact fun h => absurd h (by decide)⟩
@[simp] theorem ti56_size : ti56.size = 1 := rfl
@[simp] theorem ti56_bytes : ti56.bytes = 8 := rfl
def ti57 : TI := ⟨.func, 1, 8, .nilFunc⟩
theorem tiOk57 : TIOk Try.prog 57 ti57 := ⟨⟨_, _, _, Try.underlying57⟩, ⟨_, rfl, rfl, rfl, rfl⟩, rfl, rfl, by first | exact fun _ => ⟨_, rfl⟩ | exact fun h => absurd h (by decide)⟩
@[simp] theorem ti57_size : ti57.size = 1 := rfl
@[simp] theorem ti57_bytes : ti57.bytes = 8 := rfl
def ti58 : TI := ⟨.ptr, 1, 8, (.pointer none)⟩
theorem tiOk58 : TIOk Try.prog 58 ti58 := ⟨⟨_, Try.underlying58⟩, ⟨_, rfl, rfl, rfl, rfl⟩, rfl, rfl, by first | exact fun _ => ⟨_, rfl⟩ | exact fun h => absurd h (by decide)⟩
@[simp] theorem ti58_size : ti58.size = 1 := rfl
@[simp] theorem ti58_bytes : ti58.bytes = 8 := rfl
def ti59 : TI := ⟨.func, 1, 8, .nilFunc⟩
theorem tiOk59 : TIOk Try.prog 59 ti59 := ⟨⟨_, _, _, Try.underlying59⟩, ⟨_, rfl, rfl, rfl, rfl⟩, rfl, rfl, by first | exact fun _ => ⟨_, rfl⟩ | exact fun h => absurd h (by decide)⟩
@[simp] theorem ti59_size : ti59.size = 1 := rfl
@[simp] theorem ti59_bytes : ti59.bytes = 8 := rfl
def ti60 : TI := ⟨.func, 1, 8, .nilFunc⟩
theorem tiOk60 : TIOk Try.prog 60 ti60 := ⟨⟨_, _, _, Try.underlying60⟩, ⟨_, rfl, rfl, rfl, rfl⟩, rfl, rfl, by first | exact fun _ => ⟨_, rfl⟩ | exact fun h => absurd h (by decide)⟩
@[simp] theorem ti60_size : ti60.size = 1 := rfl
@[simp] theorem ti60_bytes : ti60.bytes = 8 := rfl
def ti61 : TI := ⟨.func, 1, 8, .nilFunc⟩
theorem tiOk61 : TIOk Try.prog 61 ti61 := ⟨⟨_, _, _, Try.underlying61⟩, ⟨_, rfl, rfl, rfl, rfl⟩, rfl, rfl, by first | exact fun _ => ⟨_, rfl⟩ | exact fun h => absurd h (by decide)⟩
@[simp] theorem ti61_size : ti61.size = 1 := rfl
@[simp] theorem ti61_bytes : ti61.bytes = 8 := rfl
def ti62 : TI := ⟨.func, 1, 8, .nilFunc⟩
theorem tiOk62 : TIOk Try.prog 62 ti62 := ⟨⟨_, _, _, Try.underlying62⟩, ⟨_, rfl, rfl, rfl, rfl⟩, rfl, rfl, by first | exact fun _ => ⟨_, rfl⟩ | exact fun h => absurd h (by decide)⟩
@[simp] theorem ti62_size : ti62.size = 1 := rfl
@[simp] theorem ti62_bytes : ti62.bytes = 8 := rfl
def ti63 : TI := ⟨.slice 3, 1, 24, (.slice none 0 0)⟩
theorem tiOk63 : TIOk Try.prog 63 ti63 := ⟨Try.underlying63, ⟨_, rfl, rfl, rfl, rfl⟩, rfl, rfl, by first | exact fun _ => ⟨_, rfl⟩ | exact fun h => absurd h (by decide)⟩
@[simp] theorem ti63_size : ti63.size = 1 := rfl
@[simp] theorem ti63_bytes : ti63.bytes = 24 := rfl
def ti64 : TI := ⟨.func, 1, 8, .nilFunc⟩
theorem tiOk64 : TIOk Try.prog 64 ti64 := ⟨⟨_, _, _, Try.underlying64⟩, ⟨_, rfl, rfl, rfl, rfl⟩, rfl, rfl, by first | exact fun _ => ⟨_, rfl⟩ | exact fun h => absurd h (by decide)⟩
@[simp] theorem ti64_size : ti64.size = 1 := rfl
@[simp] theorem ti64_bytes : ti64.bytes = 8 := rfl
def ti65 : TI := ⟨.func, 1, 8, .nilFunc⟩
theorem tiOk65 : TIOk Try.prog 65 ti65 := ⟨⟨_, _, _, Try.underlying65⟩, ⟨_, rfl, rfl, rfl, rfl⟩, rfl, rfl, by first | exact fun _ => ⟨_, rfl⟩ | exact fun h => absurd h (by decide)⟩
@[simp] theorem ti65_size : ti65.size = 1 := rfl
@[simp] theorem ti65_bytes : ti65.bytes = 8 := rfl
def ti66 : TI := ⟨.func, 1, 8, .nilFunc⟩
theorem tiOk66 : TIOk Try.prog 66 ti66 := ⟨⟨_, _, _, Try.underlying66⟩, ⟨_, rfl, rfl, rfl, rfl⟩, rfl, rfl, by first | exact fun _ => ⟨_, rfl⟩ | exact fun h => absurd h (by decide)⟩
@[simp] theorem ti66_size : ti66.size = 1 := rfl
@[simp] theorem ti66_bytes : ti66.bytes = 8 := rfl
def ti67 : TI := ⟨.func, 1, 8, .nilFunc⟩
theorem tiOk67 : TIOk Try.prog 67 ti67 := ⟨⟨_, _, _, Try.underlying67⟩, ⟨_, rfl, rfl, rfl, rfl⟩, rfl, rfl, by first | exact fun _ => ⟨_, rfl⟩ | exact fun h => absurd h (by decide)⟩
@[simp] theorem ti67_size : ti67.size = 1 := rfl
@[simp] theorem ti67_bytes : ti67.bytes = 8 := rfl
def ti68 : TI := ⟨.ptr, 1, 8, (.pointer none)⟩
theorem tiOk68 : TIOk Try.prog 68 ti68 := ⟨⟨_, Try.underlying68⟩, ⟨_, rfl, rfl, rfl, rfl⟩, rfl, rfl, by first | exact fun _ => ⟨_, rfl⟩ | exact fun h => absurd h (by decide)⟩
@[simp] theorem ti68_size : ti68.size = 1 := rfl
@[simp] theorem ti68_bytes : ti68.bytes = 8 := rfl
def ti69 : TI := ⟨.func, 1, 8, .nilFunc⟩
theorem tiOk69 : TIOk Try.prog 69 ti69 := ⟨⟨_, _, _, Try.underlying69⟩, ⟨_, rfl, rfl, rfl, rfl⟩, rfl, rfl, by first | exact fun _ => ⟨_, rfl⟩ | exact fun h => absurd h (by decide)⟩
@[simp] theorem ti69_size : ti69.size = 1 := rfl
@[simp] theorem ti69_bytes : ti69.bytes = 8 := rfl
def ti70 : TI := ⟨.func, 1, 8, .nilFunc⟩
theorem tiOk70 : TIOk Try.prog 70 ti70 := ⟨⟨_, _, _, Try.underlying70⟩, ⟨_, rfl, rfl, rfl, rfl⟩, rfl, rfl, by first | exact fun _ => ⟨_, rfl⟩ | exact fun h => absurd h (by decide)⟩
@[simp] theorem ti70_size : ti70.size = 1 := rfl
@[simp] theorem ti70_bytes : ti70.bytes = 8 := rfl
def ti71 : TI := ⟨.func, 1, 8, .nilFunc⟩
theorem tiOk71 : TIOk Try.prog 71 ti71 := ⟨⟨_, _, _, Try.underlying71⟩, ⟨_, rfl, rfl, rfl, rfl⟩, rfl, rfl, by first | exact fun _ => ⟨_, rfl⟩ | exact fun h => absurd h (by decide)⟩
@[simp] theorem ti71_size : ti71.size = 1 := rfl
@[simp] theorem ti71_bytes : ti71.bytes = 8 := rfl
def ti72 : TI := ⟨.func, 1, 8, .nilFunc⟩
theorem tiOk72 : TIOk Try.prog 72 ti72 := ⟨⟨_, _, _, Try.underlying72⟩, ⟨_, rfl, rfl, rfl, rfl⟩, rfl, rfl, by first | exact fun _ => ⟨_, rfl⟩ | exact fun h => absurd h (by decide)⟩
@[simp] theorem ti72_size : ti72.size = 1 := rfl
@[simp] theorem ti72_bytes : ti72.bytes = 8 := rfl
def ti73 : TI := ⟨.func, 1, 8, .nilFunc⟩
theorem tiOk73 : TIOk Try.prog 73 ti73 := ⟨⟨_, _, _, Try.underlying73⟩, ⟨_, rfl, rfl, rfl, rfl⟩, rfl, rfl, by first | exact fun _ => ⟨_, rfl⟩ | exact fun h => absurd h (by decide)⟩
@[simp] theorem ti73_size : ti73.size = 1 := rfl
@[simp] theorem ti73_bytes : ti73.bytes = 8 := rfl
def ti74 : TI := ⟨.func, 1, 8, .nilFunc⟩
theorem tiOk74 : TIOk Try.prog 74 ti74 := ⟨⟨_, _, _, Try.underlying74⟩, ⟨_, rfl, rfl, rfl, rfl⟩, rfl, rfl, by first | exact fun _ => ⟨_, rfl⟩ | exact fun h => absurd h (by decide)⟩
@[simp] theorem ti74_size : ti74.size = 1 := rfl
@[simp] theorem ti74_bytes : ti74.bytes = 8 := rfl
def ti75 : TI := ⟨.func, 1, 8, .nilFunc⟩
theorem tiOk75 : TIOk Try.prog 75 ti75 := ⟨⟨_, _, _, Try.underlying75⟩, ⟨_, rfl, rfl, rfl, rfl⟩, rfl, rfl, by first | exact fun _ => ⟨_, rfl⟩ | exact fun h => absurd h (by decide)⟩
@[simp] theorem ti75_size : ti75.size = 1 := rfl
@[simp] theorem ti75_bytes : ti75.bytes = 8 := rfl
def ti76 : TI := ⟨.func, 1, 8, .nilFunc⟩
theorem tiOk76 : TIOk Try.prog 76 ti76 := ⟨⟨_, _, _, Try.underlying76⟩, ⟨_, rfl, rfl, rfl, rfl⟩, rfl, rfl, by first | exact fun _ => ⟨_, rfl⟩ | exact fun h => absurd h (by decide)⟩
@[simp] theorem ti76_size : ti76.size = 1 := rfl
@[simp] theorem ti76_bytes : ti76.bytes = 8 := rfl
def ti77 : TI := ⟨.func, 1, 8, .nilFunc⟩
theorem tiOk77 : TIOk Try.prog 77 ti77 := ⟨⟨_, _, _, Try.underlying77⟩, ⟨_, rfl, rfl, rfl, rfl⟩, rfl, rfl, by first | exact fun _ => ⟨_, rfl⟩ | exact fun h => absurd h (by decide)⟩
@[simp] theorem ti77_size : ti77.size = 1 := rfl
@[simp] theorem ti77_bytes : ti77.bytes = 8 := rfl
def ti78 : TI := ⟨.func, 1, 8, .nilFunc⟩
theorem tiOk78 : TIOk Try.prog 78 ti78 := ⟨⟨_, _, _, Try.underlying78⟩, ⟨_, rfl, rfl, rfl, rfl⟩, rfl, rfl, by first | exact fun _ => ⟨_, rfl⟩ | exact fun h => absurd h (by decide)⟩
@[simp] theorem ti78_size : ti78.size = 1 := rfl
@[simp] theorem ti78_bytes : ti78.bytes = 8 := rfl
def ti79 : TI := ⟨.slice 24, 1, 24, (.slice none 0 0)⟩
theorem tiOk79 : TIOk Try.prog 79 ti79 := ⟨Try.underlying79, ⟨_, rfl, rfl, rfl, rfl⟩, rfl, rfl, by first | exact fun _ => ⟨_, rfl⟩ | exact fun h => absurd h (by decide)⟩
@[simp] theorem ti79_size : ti79.size = 1 := rfl
@[simp] theorem ti79_bytes : ti79.bytes = 24 := rfl
def ti80 : TI := ⟨.func, 1, 8, .nilFunc⟩
theorem tiOk80 : TIOk Try.prog 80 ti80 := ⟨⟨_, _, _, Try.underlying80⟩, ⟨_, rfl, rfl, rfl, rfl⟩, rfl, rfl, by first | exact fun _ => ⟨_, rfl⟩ | exact fun h => absurd h (by decide)⟩
@[simp] theorem ti80_size : ti80.size = 1 := rfl
@[simp] theorem ti80_bytes : ti80.bytes = 8 := rfl
def ti81 : TI := ⟨.func, 1, 8, .nilFunc⟩
theorem tiOk81 : TIOk Try.prog 81 ti81 := ⟨⟨_, _, _, Try.underlying81⟩, ⟨_, rfl, rfl, rfl, rfl⟩, rfl, rfl, by first | exact fun _ => ⟨_, rfl⟩ | exact fun h => absurd h (by decide)⟩
@[simp] theorem ti81_size : ti81.size = 1 := rfl
@[simp] theorem ti81_bytes : ti81.bytes = 8 := rfl
def ti82 : TI := ⟨.func, 1, 8, .nilFunc⟩
theorem tiOk82 : TIOk Try.prog 82 ti82 := ⟨⟨_, _, _, Try.underlying82⟩, ⟨_, rfl, rfl, rfl, rfl⟩, rfl, rfl, by first | exact fun _ => ⟨_, rfl⟩ | exact fun h => absurd h (by decide)⟩
@[simp] theorem ti82_size : ti82.size = 1 := rfl
@[simp] theorem ti82_bytes : ti82.bytes = 8 := rfl
def ti83 : TI := ⟨.func, 1, 8, .nilFunc⟩
theorem tiOk83 : TIOk Try.prog 83 ti83 := ⟨⟨_, _, _, Try.underlying83⟩, ⟨_, rfl, rfl, rfl, rfl⟩, rfl, rfl, by first | exact fun _ => ⟨_, rfl⟩ | exact fun h => absurd h (by decide)⟩
@[simp] theorem ti83_size : ti83.size = 1 := rfl
@[simp] theorem ti83_bytes : ti83.bytes = 8 := rfl
def ti84 : TI := ⟨.func, 1, 8, .nilFunc⟩
theorem tiOk84 : TIOk Try.prog 84 ti84 := ⟨⟨_, _, _, Try.underlying84⟩, ⟨_, rfl, rfl, rfl, rfl⟩, rfl, rfl, by first | exact fun _ => ⟨_, rfl⟩ | exact fun h => absurd h (by decide)⟩
@[simp] theorem ti84_size : ti84.size = 1 := rfl
@[simp] theorem ti84_bytes : ti84.bytes = 8 := rfl
def ti85 : TI := ⟨.func, 1, 8, .nilFunc⟩
theorem tiOk85 : TIOk Try.prog 85 ti85 := ⟨⟨_, _, _, Try.underlying85⟩, ⟨_, rfl, rfl, rfl, rfl⟩, rfl, rfl, by first | exact fun _ => ⟨_, rfl⟩ | exact fun h => absurd h (by decide)⟩
@[simp] theorem ti85_size : ti85.size = 1 := rfl
@[simp] theorem ti85_bytes : ti85.bytes = 8 := rfl
def ti86 : TI := ⟨.func, 1, 8, .nilFunc⟩
theorem tiOk86 : TIOk Try.prog 86 ti86 := ⟨⟨_, _, _, Try.underlying86⟩, ⟨_, rfl, rfl, rfl, rfl⟩, rfl, rfl, by first | exact fun _ => ⟨_, rfl⟩ | exact fun h => absurd h (by decide)⟩
@[simp] theorem ti86_size : ti86.size = 1 := rfl
@[simp] theorem ti86_bytes : ti86.bytes = 8 := rfl
def ti87 : TI := ⟨.func, 1, 8, .nilFunc⟩
theorem tiOk87 : TIOk Try.prog 87 ti87 := ⟨⟨_, _, _, Try.underlying87⟩, ⟨_, rfl, rfl, rfl, rfl⟩, rfl, rfl, by first | exact fun _ => ⟨_, rfl⟩ | exact fun h => absurd h (by decide)⟩
@[simp] theorem ti87_size : ti87.size = 1 := rfl
@[simp] theorem ti87_bytes : ti87.bytes = 8 := rfl
def ti88 : TI := ⟨.func, 1, 8, .nilFunc⟩
theorem tiOk88 : TIOk Try.prog 88 ti88 := ⟨⟨_, _, _, Try.underlying88⟩, ⟨_, rfl, rfl, rfl, rfl⟩, rfl, rfl, by first | exact fun _ => ⟨_, rfl⟩ | exact fun h => absurd h (by decide)⟩
@[simp] theorem ti88_size : ti88.size = 1 := rfl
@[simp] theorem ti88_bytes : ti88.bytes = 8 := rfl
def ti89 : TI := ⟨.func, 1, 8, .nilFunc⟩
theorem tiOk89 : TIOk Try.prog 89 ti89 := ⟨⟨_, _, _, Try.underlying89⟩, ⟨_, rfl, rfl, rfl, rfl⟩, rfl, rfl, by first | exact fun _ => ⟨_, rfl⟩ | exact fun h => absurd h (by decide)⟩
@[simp] theorem ti89_size : ti89.size = 1 := rfl
@[simp] theorem ti89_bytes : ti89.bytes = 8 := rfl
def ti91 : TI := ⟨.func, 1, 8, .nilFunc⟩
theorem tiOk91 : TIOk Try.prog 91 ti91 := ⟨⟨_, _, _, Try.underlying91⟩, ⟨_, rfl, rfl, rfl, rfl⟩, rfl, rfl, by first | exact fun _ => ⟨_, rfl⟩ | exact fun h => absurd h (by decide)⟩
@[simp] theorem ti91_size : ti91.size = 1 := rfl
@[simp] theorem ti91_bytes : ti91.bytes = 8 := rfl
def ti92 : TI := ⟨.func, 1, 8, .nilFunc⟩
theorem tiOk92 : TIOk Try.prog 92 ti92 := ⟨⟨_, _, _, Try.underlying92⟩, ⟨_, rfl, rfl, rfl, rfl⟩, rfl, rfl, by first | exact fun _ => ⟨_, rfl⟩ | exact fun h => absurd h (by decide)⟩
@[simp] theorem ti92_size : ti92.size = 1 := rfl
@[simp] theorem ti92_bytes : ti92.bytes = 8 := rfl
def ti93 : TI := ⟨.func, 1, 8, .nilFunc⟩
theorem tiOk93 : TIOk Try.prog 93 ti93 := ⟨⟨_, _, _, Try.underlying93⟩, ⟨_, rfl, rfl, rfl, rfl⟩, rfl, rfl, by first | exact fun _ => ⟨_, rfl⟩ | exact fun h => absurd h (by decide)⟩
@[simp] theorem ti93_size : ti93.size = 1 := rfl
@[simp] theorem ti93_bytes : ti93.bytes = 8 := rfl
def ti94 : TI := ⟨.int .u64, 1, 8, (.int .u64 0)⟩
theorem tiOk94 : TIOk Try.prog 94 ti94 := ⟨Try.underlying94, ⟨_, rfl, rfl, rfl, rfl⟩, rfl, rfl, by first | exact fun _ => ⟨_, rfl⟩ | exact fun h => absurd h (by decide)⟩
@[simp] theorem ti94_size : ti94.size = 1 := rfl
@[simp] theorem ti94_bytes : ti94.bytes = 8 := rfl
def ti95 : TI := ⟨.func, 1, 8, .nilFunc⟩
theorem tiOk95 : TIOk Try.prog 95 ti95 := ⟨⟨_, _, _, Try.underlying95⟩, ⟨_, rfl, rfl, rfl, rfl⟩, rfl, rfl, by first | exact fun _ => ⟨_, rfl⟩ | exact fun h => absurd h (by decide)⟩
@[simp] theorem ti95_size : ti95.size = 1 := rfl
@[simp] theorem ti95_bytes : ti95.bytes = 8 := rfl
def ti96 : TI := ⟨.func, 1, 8, .nilFunc⟩
theorem tiOk96 : TIOk Try.prog 96 ti96 := ⟨⟨_, _, _, Try.underlying96⟩, ⟨_, rfl, rfl, rfl, rfl⟩, rfl, rfl, by first | exact fun _ => ⟨_, rfl⟩ | exact fun h => absurd h (by decide)⟩
@[simp] theorem ti96_size : ti96.size = 1 := rfl
@[simp] theorem ti96_bytes : ti96.bytes = 8 := rfl
def ti97 : TI := ⟨.int .u64, 1, 8, (.int .u64 0)⟩
theorem tiOk97 : TIOk Try.prog 97 ti97 := ⟨Try.underlying97, ⟨_, rfl, rfl, rfl, rfl⟩, rfl, rfl, by first | exact fun _ => ⟨_, rfl⟩ | exact fun h => absurd h (by decide)⟩
@[simp] theorem ti97_size : ti97.size = 1 := rfl
@[simp] theorem ti97_bytes : ti97.bytes = 8 := rfl
def ti98 : TI := ⟨.struct [(0, 22), (1, 3), (2, 97)], 3, 40, (.agg ⟨[(.slice none 0 0)] ++ [(.int .i64 0)] ++ [(.int .u64 0)]⟩)⟩
theorem tiOk98 : TIOk Try.prog 98 ti98 := ⟨⟨_, Try.underlying98, rfl⟩, ⟨_, rfl, rfl, rfl, rfl⟩, rfl, rfl, by first | exact fun _ => ⟨_, rfl⟩ | exact fun h => absurd h (by decide)⟩
@[simp] theorem ti98_size : ti98.size = 3 := rfl
@[simp] theorem ti98_bytes : ti98.bytes = 40 := rfl
def ti99 : TI := ⟨.struct [(0, 22), (1, 3), (2, 97)], 3, 40, (.agg ⟨[(.slice none 0 0)] ++ [(.int .i64 0)] ++ [(.int .u64 0)]⟩)⟩
theorem tiOk99 : TIOk Try.prog 99 ti99 := ⟨⟨_, Try.underlying99, rfl⟩, ⟨_, rfl, rfl, rfl, rfl⟩, rfl, rfl, by first | exact fun _ => ⟨_, rfl⟩ | exact fun h => absurd h (by decide)⟩
@[simp] theorem ti99_size : ti99.size = 3 := rfl
@[simp] theorem ti99_bytes : ti99.bytes = 40 := rfl
def ti100 : TI := ⟨.func, 1, 8, .nilFunc⟩
theorem tiOk100 : TIOk Try.prog 100 ti100 := ⟨⟨_, _, _, Try.underlying100⟩, ⟨_, rfl, rfl, rfl, rfl⟩, rfl, rfl, by first | exact fun _ => ⟨_, rfl⟩ | exact fun h => absurd h (by decide)⟩
@[simp] theorem ti100_size : ti100.size = 1 := rfl
@[simp] theorem ti100_bytes : ti100.bytes = 8 := rfl
def ti101 : TI := ⟨.func, 1, 8, .nilFunc⟩
theorem tiOk101 : TIOk Try.prog 101 ti101 := ⟨⟨_, _, _, Try.underlying101⟩, ⟨_, rfl, rfl, rfl, rfl⟩, rfl, rfl, by first | exact fun _ => ⟨_, rfl⟩ | exact fun h => absurd h (by decide)⟩
@[simp] theorem ti101_size : ti101.size = 1 := rfl
@[simp] theorem ti101_bytes : ti101.bytes = 8 := rfl
def ti102 : TI := ⟨.func, 1, 8, .nilFunc⟩
theorem tiOk102 : TIOk Try.prog 102 ti102 := ⟨⟨_, _, _, Try.underlying102⟩, ⟨_, rfl, rfl, rfl, rfl⟩, rfl, rfl, by first | exact fun _ => ⟨_, rfl⟩ | exact fun h => absurd h (by decide)⟩
@[simp] theorem ti102_size : ti102.size = 1 := rfl
@[simp] theorem ti102_bytes : ti102.bytes = 8 := rfl
def ti103 : TI := ⟨.func, 1, 8, .nilFunc⟩
theorem tiOk103 : TIOk Try.prog 103 ti103 := ⟨⟨_, _, _, Try.underlying103⟩, ⟨_, rfl, rfl, rfl, rfl⟩, rfl, rfl, by first | exact fun _ => ⟨_, rfl⟩ | exact fun h => absurd h (by decide)⟩
@[simp] theorem ti103_size : ti103.size = 1 := rfl
@[simp] theorem ti103_bytes : ti103.bytes = 8 := rfl
def ti104 : TI := ⟨.func, 1, 8, .nilFunc⟩
theorem tiOk104 : TIOk Try.prog 104 ti104 := ⟨⟨_, _, _, Try.underlying104⟩, ⟨_, rfl, rfl, rfl, rfl⟩, rfl, rfl, by first | exact fun _ => ⟨_, rfl⟩ | exact fun h => absurd h (by decide)⟩
@[simp] theorem ti104_size : ti104.size = 1 := rfl
@[simp] theorem ti104_bytes : ti104.bytes = 8 := rfl
def ti105 : TI := ⟨.func, 1, 8, .nilFunc⟩
theorem tiOk105 : TIOk Try.prog 105 ti105 := ⟨⟨_, _, _, Try.underlying105⟩, ⟨_, rfl, rfl, rfl, rfl⟩, rfl, rfl, by first | exact fun _ => ⟨_, rfl⟩ | exact fun h => absurd h (by decide)⟩
@[simp] theorem ti105_size : ti105.size = 1 := rfl
@[simp] theorem ti105_bytes : ti105.bytes = 8 := rfl
def ti106 : TI := ⟨.func, 1, 8, .nilFunc⟩
theorem tiOk106 : TIOk Try.prog 106 ti106 := ⟨⟨_, _, _, Try.underlying106⟩, ⟨_, rfl, rfl, rfl, rfl⟩, rfl, rfl, by first | exact fun _ => ⟨_, rfl⟩ | exact fun h => absurd h (by decide)⟩
@[simp] theorem ti106_size : ti106.size = 1 := rfl
@[simp] theorem ti106_bytes : ti106.bytes = 8 := rfl
def ti107 : TI := ⟨.func, 1, 8, .nilFunc⟩
theorem tiOk107 : TIOk Try.prog 107 ti107 := ⟨⟨_, _, _, Try.underlying107⟩, ⟨_, rfl, rfl, rfl, rfl⟩, rfl, rfl, by first | exact fun _ => ⟨_, rfl⟩ | exact fun h => absurd h (by decide)⟩
@[simp] theorem ti107_size : ti107.size = 1 := rfl
@[simp] theorem ti107_bytes : ti107.bytes = 8 := rfl
def ti108 : TI := ⟨.func, 1, 8, .nilFunc⟩
theorem tiOk108 : TIOk Try.prog 108 ti108 := ⟨⟨_, _, _, Try.underlying108⟩, ⟨_, rfl, rfl, rfl, rfl⟩, rfl, rfl, by first | exact fun _ => ⟨_, rfl⟩ | exact fun h => absurd h (by decide)⟩
@[simp] theorem ti108_size : ti108.size = 1 := rfl
@[simp] theorem ti108_bytes : ti108.bytes = 8 := rfl
def ti109 : TI := ⟨.func, 1, 8, .nilFunc⟩
theorem tiOk109 : TIOk Try.prog 109 ti109 := ⟨⟨_, _, _, Try.underlying109⟩, ⟨_, rfl, rfl, rfl, rfl⟩, rfl, rfl, by first | exact fun _ => ⟨_, rfl⟩ | exact fun h => absurd h (by decide)⟩
@[simp] theorem ti109_size : ti109.size = 1 := rfl
@[simp] theorem ti109_bytes : ti109.bytes = 8 := rfl
def ti110 : TI := ⟨.ptr, 1, 8, (.pointer none)⟩
theorem tiOk110 : TIOk Try.prog 110 ti110 := ⟨⟨_, Try.underlying110⟩, ⟨_, rfl, rfl, rfl, rfl⟩, rfl, rfl, by first | exact fun _ => ⟨_, rfl⟩ | exact fun h => absurd h (by decide)⟩
@[simp] theorem ti110_size : ti110.size = 1 := rfl
@[simp] theorem ti110_bytes : ti110.bytes = 8 := rfl
def ti111 : TI := ⟨.func, 1, 8, .nilFunc⟩
theorem tiOk111 : TIOk Try.prog 111 ti111 := ⟨⟨_, _, _, Try.underlying111⟩, ⟨_, rfl, rfl, rfl, rfl⟩, rfl, rfl, by first | exact fun _ => ⟨_, rfl⟩ | exact fun h => absurd h (by decide)⟩
@[simp] theorem ti111_size : ti111.size = 1 := rfl
@[simp] theorem ti111_bytes : ti111.bytes = 8 := rfl
def ti112 : TI := ⟨.func, 1, 8, .nilFunc⟩
theorem tiOk112 : TIOk Try.prog 112 ti112 := ⟨⟨_, _, _, Try.underlying112⟩, ⟨_, rfl, rfl, rfl, rfl⟩, rfl, rfl, by first | exact fun _ => ⟨_, rfl⟩ | exact fun h => absurd h (by decide)⟩
@[simp] theorem ti112_size : ti112.size = 1 := rfl
@[simp] theorem ti112_bytes : ti112.bytes = 8 := rfl
def ti113 : TI := ⟨.func, 1, 8, .nilFunc⟩
theorem tiOk113 : TIOk Try.prog 113 ti113 := ⟨⟨_, _, _, Try.underlying113⟩, ⟨_, rfl, rfl, rfl, rfl⟩, rfl, rfl, by first | exact fun _ => ⟨_, rfl⟩ | exact fun h => absurd h (by decide)⟩
@[simp] theorem ti113_size : ti113.size = 1 := rfl
@[simp] theorem ti113_bytes : ti113.bytes = 8 := rfl
def ti114 : TI := ⟨.func, 1, 8, .nilFunc⟩
theorem tiOk114 : TIOk Try.prog 114 ti114 := ⟨⟨_, _, _, Try.underlying114⟩, ⟨_, rfl, rfl, rfl, rfl⟩, rfl, rfl, by first | exact fun _ => ⟨_, rfl⟩ | exact fun h => absurd h (by decide)⟩
@[simp] theorem ti114_size : ti114.size = 1 := rfl
@[simp] theorem ti114_bytes : ti114.bytes = 8 := rfl
def ti115 : TI := ⟨.func, 1, 8, .nilFunc⟩
theorem tiOk115 : TIOk Try.prog 115 ti115 := ⟨⟨_, _, _, Try.underlying115⟩, ⟨_, rfl, rfl, rfl, rfl⟩, rfl, rfl, by first | exact fun _ => ⟨_, rfl⟩ | exact fun h => absurd h (by decide)⟩
@[simp] theorem ti115_size : ti115.size = 1 := rfl
@[simp] theorem ti115_bytes : ti115.bytes = 8 := rfl
def ti116 : TI := ⟨.struct [(0, 17), (1, 17), (2, 17), (3, 9)], 4, 40, (.agg ⟨[(.pointer none), (.pointer none), (.pointer none)] ++ [(.string ⟨#[]⟩)]⟩)⟩
theorem tiOk116 : TIOk Try.prog 116 ti116 := ⟨⟨_, Try.underlying116, rfl⟩, ⟨_, rfl, rfl, rfl, rfl⟩, rfl, rfl, by first | exact fun _ => ⟨_, rfl⟩ | exact fun h => absurd h (by decide)⟩
@[simp] theorem ti116_size : ti116.size = 4 := rfl
@[simp] theorem ti116_bytes : ti116.bytes = 40 := rfl
def ti117 : TI := ⟨.struct [(0, 17), (1, 17), (2, 17), (3, 9)], 4, 40, (.agg ⟨[(.pointer none), (.pointer none), (.pointer none)] ++ [(.string ⟨#[]⟩)]⟩)⟩
theorem tiOk117 : TIOk Try.prog 117 ti117 := ⟨⟨_, Try.underlying117, rfl⟩, ⟨_, rfl, rfl, rfl, rfl⟩, rfl, rfl, by first | exact fun _ => ⟨_, rfl⟩ | exact fun h => absurd h (by decide)⟩
@[simp] theorem ti117_size : ti117.size = 4 := rfl
@[simp] theorem ti117_bytes : ti117.bytes = 40 := rfl
def ti118 : TI := ⟨.arr 0 16, 0, 0, (.agg ⟨[]⟩)⟩
theorem tiOk118 : TIOk Try.prog 118 ti118 := ⟨Try.underlying118, ⟨_, rfl, rfl, rfl, rfl⟩, rfl, rfl, by first | exact fun _ => ⟨_, rfl⟩ | exact fun h => absurd h (by decide)⟩
@[simp] theorem ti118_size : ti118.size = 0 := rfl
@[simp] theorem ti118_bytes : ti118.bytes = 0 := rfl
def ti119 : TI := ⟨.struct [(0, 118)], 0, 0, (.agg ⟨[]⟩)⟩
theorem tiOk119 : TIOk Try.prog 119 ti119 := ⟨⟨_, Try.underlying119, rfl⟩, ⟨_, rfl, rfl, rfl, rfl⟩, rfl, rfl, by first | exact fun _ => ⟨_, rfl⟩ | exact fun h => absurd h (by decide)⟩
@[simp] theorem ti119_size : ti119.size = 0 := rfl
@[simp] theorem ti119_bytes : ti119.bytes = 0 := rfl
def ti120 : TI := ⟨.struct [(0, 118)], 0, 0, (.agg ⟨[]⟩)⟩
theorem tiOk120 : TIOk Try.prog 120 ti120 := ⟨⟨_, Try.underlying120, rfl⟩, ⟨_, rfl, rfl, rfl, rfl⟩, rfl, rfl, by first | exact fun _ => ⟨_, rfl⟩ | exact fun h => absurd h (by decide)⟩
@[simp] theorem ti120_size : ti120.size = 0 := rfl
@[simp] theorem ti120_bytes : ti120.bytes = 0 := rfl
def ti121 : TI := ⟨.func, 1, 8, .nilFunc⟩
theorem tiOk121 : TIOk Try.prog 121 ti121 := ⟨⟨_, _, _, Try.underlying121⟩, ⟨_, rfl, rfl, rfl, rfl⟩, rfl, rfl, by first | exact fun _ => ⟨_, rfl⟩ | exact fun h => absurd h (by decide)⟩
@[simp] theorem ti121_size : ti121.size = 1 := rfl
@[simp] theorem ti121_bytes : ti121.bytes = 8 := rfl
def ti122 : TI := ⟨.int .u8, 1, 1, (.int .u8 0)⟩
theorem tiOk122 : TIOk Try.prog 122 ti122 := ⟨Try.underlying122, ⟨_, rfl, rfl, rfl, rfl⟩, rfl, rfl, by first | exact fun _ => ⟨_, rfl⟩ | exact fun h => absurd h (by decide)⟩
@[simp] theorem ti122_size : ti122.size = 1 := rfl
@[simp] theorem ti122_bytes : ti122.bytes = 1 := rfl
def ti123 : TI := ⟨.int .u8, 1, 1, (.int .u8 0)⟩
theorem tiOk123 : TIOk Try.prog 123 ti123 := ⟨Try.underlying123, ⟨_, rfl, rfl, rfl, rfl⟩, rfl, rfl, by first | exact fun _ => ⟨_, rfl⟩ | exact fun h => absurd h (by decide)⟩
@[simp] theorem ti123_size : ti123.size = 1 := rfl
@[simp] theorem ti123_bytes : ti123.bytes = 1 := rfl
def ti124 : TI := ⟨.func, 1, 8, .nilFunc⟩
theorem tiOk124 : TIOk Try.prog 124 ti124 := ⟨⟨_, _, _, Try.underlying124⟩, ⟨_, rfl, rfl, rfl, rfl⟩, rfl, rfl, by first | exact fun _ => ⟨_, rfl⟩ | exact fun h => absurd h (by decide)⟩
@[simp] theorem ti124_size : ti124.size = 1 := rfl
@[simp] theorem ti124_bytes : ti124.bytes = 8 := rfl
def ti125 : TI := ⟨.ptr, 1, 8, (.pointer none)⟩
theorem tiOk125 : TIOk Try.prog 125 ti125 := ⟨⟨_, Try.underlying125⟩, ⟨_, rfl, rfl, rfl, rfl⟩, rfl, rfl, by first | exact fun _ => ⟨_, rfl⟩ | exact fun h => absurd h (by decide)⟩
@[simp] theorem ti125_size : ti125.size = 1 := rfl
@[simp] theorem ti125_bytes : ti125.bytes = 8 := rfl
def ti126 : TI := ⟨.int .i32, 1, 4, (.int .i32 0)⟩
theorem tiOk126 : TIOk Try.prog 126 ti126 := ⟨Try.underlying126, ⟨_, rfl, rfl, rfl, rfl⟩, rfl, rfl, by first | exact fun _ => ⟨_, rfl⟩ | exact fun h => absurd h (by decide)⟩
@[simp] theorem ti126_size : ti126.size = 1 := rfl
@[simp] theorem ti126_bytes : ti126.bytes = 4 := rfl
def ti127 : TI := ⟨.int .i32, 1, 4, (.int .i32 0)⟩
theorem tiOk127 : TIOk Try.prog 127 ti127 := ⟨Try.underlying127, ⟨_, rfl, rfl, rfl, rfl⟩, rfl, rfl, by first | exact fun _ => ⟨_, rfl⟩ | exact fun h => absurd h (by decide)⟩
@[simp] theorem ti127_size : ti127.size = 1 := rfl
@[simp] theorem ti127_bytes : ti127.bytes = 4 := rfl
def ti128 : TI := ⟨.struct [(0, 12), (1, 12), (2, 27), (3, 122), (4, 5), (5, 5), (6, 123), (7, 124), (8, 125), (9, 126), (10, 127)], 11, 48, (.agg ⟨[(.int .u64 0), (.int .u64 0)] ++ [(.int .u32 0)] ++ [(.int .u8 0), (.int .u8 0), (.int .u8 0), (.int .u8 0)] ++ [.nilFunc] ++ [(.pointer none)] ++ [(.int .i32 0), (.int .i32 0)]⟩)⟩
theorem tiOk128 : TIOk Try.prog 128 ti128 := ⟨⟨_, Try.underlying128, rfl⟩, ⟨_, rfl, rfl, rfl, rfl⟩, rfl, rfl, by first | exact fun _ => ⟨_, rfl⟩ | exact fun h => absurd h (by decide)⟩
@[simp] theorem ti128_size : ti128.size = 11 := rfl
@[simp] theorem ti128_bytes : ti128.bytes = 48 := rfl
def ti129 : TI := ⟨.struct [(0, 12), (1, 12), (2, 27), (3, 122), (4, 5), (5, 5), (6, 123), (7, 124), (8, 125), (9, 126), (10, 127)], 11, 48, (.agg ⟨[(.int .u64 0), (.int .u64 0)] ++ [(.int .u32 0)] ++ [(.int .u8 0), (.int .u8 0), (.int .u8 0), (.int .u8 0)] ++ [.nilFunc] ++ [(.pointer none)] ++ [(.int .i32 0), (.int .i32 0)]⟩)⟩
theorem tiOk129 : TIOk Try.prog 129 ti129 := ⟨⟨_, Try.underlying129, rfl⟩, ⟨_, rfl, rfl, rfl, rfl⟩, rfl, rfl, by first | exact fun _ => ⟨_, rfl⟩ | exact fun h => absurd h (by decide)⟩
@[simp] theorem ti129_size : ti129.size = 11 := rfl
@[simp] theorem ti129_bytes : ti129.bytes = 48 := rfl
def tlist : List (Nat × TI) := [(1, ti1), (2, ti2), (3, ti3), (4, ti4), (5, ti5), (6, ti6), (7, ti7), (8, ti8), (9, ti9), (10, ti10), (11, ti11), (12, ti12), (13, ti13), (14, ti14), (15, ti15), (16, ti16), (17, ti17), (18, ti18), (19, ti19), (21, ti21), (22, ti22), (23, ti23), (24, ti24), (25, ti25), (26, ti26), (27, ti27), (28, ti28), (29, ti29), (30, ti30), (31, ti31), (32, ti32), (33, ti33), (35, ti35), (36, ti36), (38, ti38), (39, ti39), (40, ti40), (41, ti41), (42, ti42), (44, ti44), (45, ti45), (46, ti46), (47, ti47), (48, ti48), (50, ti50), (51, ti51), (52, ti52), (53, ti53), (55, ti55), (56, ti56), (57, ti57), (58, ti58), (59, ti59), (60, ti60), (61, ti61), (62, ti62), (63, ti63), (64, ti64), (65, ti65), (66, ti66), (67, ti67), (68, ti68), (69, ti69), (70, ti70), (71, ti71), (72, ti72), (73, ti73), (74, ti74), (75, ti75), (76, ti76), (77, ti77), (78, ti78), (79, ti79), (80, ti80), (81, ti81), (82, ti82), (83, ti83), (84, ti84), (85, ti85), (86, ti86), (87, ti87), (88, ti88), (89, ti89), (91, ti91), (92, ti92), (93, ti93), (94, ti94), (95, ti95), (96, ti96), (97, ti97), (98, ti98), (99, ti99), (100, ti100), (101, ti101), (102, ti102), (103, ti103), (104, ti104), (105, ti105), (106, ti106), (107, ti107), (108, ti108), (109, ti109), (110, ti110), (111, ti111), (112, ti112), (113, ti113), (114, ti114), (115, ti115), (116, ti116), (117, ti117), (118, ti118), (119, ti119), (120, ti120), (121, ti121), (122, ti122), (123, ti123), (124, ti124), (125, ti125), (126, ti126), (127, ti127), (128, ti128), (129, ti129)]
def tt : Types := lk tlist
theorem tOk : TOk Try.prog tt := TOk.of_list (by
  simp only [tlist, ListOk]
  exact ⟨tiOk1, tiOk2, tiOk3, tiOk4, tiOk5, tiOk6, tiOk7, tiOk8, tiOk9, tiOk10, tiOk11, tiOk12, tiOk13, tiOk14, tiOk15, tiOk16, tiOk17, tiOk18, tiOk19, tiOk21, tiOk22, tiOk23, tiOk24, tiOk25, tiOk26, tiOk27, tiOk28, tiOk29, tiOk30, tiOk31, tiOk32, tiOk33, tiOk35, tiOk36, tiOk38, tiOk39, tiOk40, tiOk41, tiOk42, tiOk44, tiOk45, tiOk46, tiOk47, tiOk48, tiOk50, tiOk51, tiOk52, tiOk53, tiOk55, tiOk56, tiOk57, tiOk58, tiOk59, tiOk60, tiOk61, tiOk62, tiOk63, tiOk64, tiOk65, tiOk66, tiOk67, tiOk68, tiOk69, tiOk70, tiOk71, tiOk72, tiOk73, tiOk74, tiOk75, tiOk76, tiOk77, tiOk78, tiOk79, tiOk80, tiOk81, tiOk82, tiOk83, tiOk84, tiOk85, tiOk86, tiOk87, tiOk88, tiOk89, tiOk91, tiOk92, tiOk93, tiOk94, tiOk95, tiOk96, tiOk97, tiOk98, tiOk99, tiOk100, tiOk101, tiOk102, tiOk103, tiOk104, tiOk105, tiOk106, tiOk107, tiOk108, tiOk109, tiOk110, tiOk111, tiOk112, tiOk113, tiOk114, tiOk115, tiOk116, tiOk117, tiOk118, tiOk119, tiOk120, tiOk121, tiOk122, tiOk123, tiOk124, tiOk125, tiOk126, tiOk127, tiOk128, tiOk129, trivial⟩)
theorem hMix : Try.prog.follows .mixedOrders = true := by kernel_rfl
end Go.Proofs.Ytcnenmcagkbppaa
