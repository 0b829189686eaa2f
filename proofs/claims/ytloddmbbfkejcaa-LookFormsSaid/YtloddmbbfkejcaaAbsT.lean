/- Facts on the program's types, as a program prints them off its dump. -/
import Derived.Test.YtloddmbbfkejcaaProg
import Derived.Test.YtloddmbbfkejcaaAbsQ
namespace Go.Proofs.Ytloddmbbfkejcaa.Abs
theorem ones_of {z : Array Value} (h : z.toList.all (fun u => u.oneCell') = true) : ∀ (i : Nat) (u : Value), z[i]? = some u → u.oneCell' = true := fun i u hu =>
  List.all_eq_true.1 h u (by rw [← Array.getElem?_toList] at hu; exact List.mem_of_getElem? hu)
theorem z2 : (Try.prog.info? 2).map (·.size) = some 1 := by kernel_rfl
theorem i2 : (Try.prog.info? 2).map (fun i => (i.zero, i.size, i.bytes)) = some (some (.int .i64 0), 1, 8) := by kernel_rfl
theorem a2 : (Try.prog.info? 2).map (·.zero) = some (some (.int .i64 0)) := by kernel_rfl
theorem o2 : (Value.cells (.int .i64 0)).size = 1 ∧ ∀ (i : Nat) (u : Value), (Value.cells (.int .i64 0))[i]? = some u → u.oneCell' = true := ⟨rfl, ones_of rfl⟩
theorem z3 : (Try.prog.info? 3).map (·.size) = some 1 := by kernel_rfl
theorem i3 : (Try.prog.info? 3).map (fun i => (i.zero, i.size, i.bytes)) = some (some (.int .i64 0), 1, 8) := by kernel_rfl
theorem a3 : (Try.prog.info? 3).map (·.zero) = some (some (.int .i64 0)) := by kernel_rfl
theorem o3 : (Value.cells (.int .i64 0)).size = 1 ∧ ∀ (i : Nat) (u : Value), (Value.cells (.int .i64 0))[i]? = some u → u.oneCell' = true := ⟨rfl, ones_of rfl⟩
theorem z4 : (Try.prog.info? 4).map (·.size) = some 1 := by kernel_rfl
theorem i4 : (Try.prog.info? 4).map (fun i => (i.zero, i.size, i.bytes)) = some (some (.bool false), 1, 1) := by kernel_rfl
theorem a4 : (Try.prog.info? 4).map (·.zero) = some (some (.bool false)) := by kernel_rfl
theorem o4 : (Value.cells (.bool false)).size = 1 ∧ ∀ (i : Nat) (u : Value), (Value.cells (.bool false))[i]? = some u → u.oneCell' = true := ⟨rfl, ones_of rfl⟩
theorem z5 : (Try.prog.info? 5).map (·.size) = some 1 := by kernel_rfl
theorem i5 : (Try.prog.info? 5).map (fun i => (i.zero, i.size, i.bytes)) = some (some (.int .u8 0), 1, 1) := by kernel_rfl
theorem a5 : (Try.prog.info? 5).map (·.zero) = some (some (.int .u8 0)) := by kernel_rfl
theorem o5 : (Value.cells (.int .u8 0)).size = 1 ∧ ∀ (i : Nat) (u : Value), (Value.cells (.int .u8 0))[i]? = some u → u.oneCell' = true := ⟨rfl, ones_of rfl⟩
theorem z6 : (Try.prog.info? 6).map (·.size) = some 1 := by kernel_rfl
theorem i6 : (Try.prog.info? 6).map (fun i => (i.zero, i.size, i.bytes)) = some (some (.int .u8 0), 1, 1) := by kernel_rfl
theorem a6 : (Try.prog.info? 6).map (·.zero) = some (some (.int .u8 0)) := by kernel_rfl
theorem o6 : (Value.cells (.int .u8 0)).size = 1 ∧ ∀ (i : Nat) (u : Value), (Value.cells (.int .u8 0))[i]? = some u → u.oneCell' = true := ⟨rfl, ones_of rfl⟩
theorem z7 : (Try.prog.info? 7).map (·.size) = some 4 := by kernel_rfl
theorem i7 : (Try.prog.info? 7).map (fun i => (i.zero, i.size, i.bytes)) = some (some (.agg #[.int .i64 0, .int .i64 0, .bool false, .int .u8 0]), 4, 24) := by kernel_rfl
theorem a7 : (Try.prog.info? 7).map (·.zero) = some (some (.agg #[.int .i64 0, .int .i64 0, .bool false, .int .u8 0])) := by kernel_rfl
theorem o7 : (Value.cells (.agg #[.int .i64 0, .int .i64 0, .bool false, .int .u8 0])).size = 4 ∧ ∀ (i : Nat) (u : Value), (Value.cells (.agg #[.int .i64 0, .int .i64 0, .bool false, .int .u8 0]))[i]? = some u → u.oneCell' = true := ⟨rfl, ones_of rfl⟩
theorem z8 : (Try.prog.info? 8).map (·.size) = some 4 := by kernel_rfl
theorem i8 : (Try.prog.info? 8).map (fun i => (i.zero, i.size, i.bytes)) = some (some (.agg #[.int .i64 0, .int .i64 0, .bool false, .int .u8 0]), 4, 24) := by kernel_rfl
theorem a8 : (Try.prog.info? 8).map (·.zero) = some (some (.agg #[.int .i64 0, .int .i64 0, .bool false, .int .u8 0])) := by kernel_rfl
theorem o8 : (Value.cells (.agg #[.int .i64 0, .int .i64 0, .bool false, .int .u8 0])).size = 4 ∧ ∀ (i : Nat) (u : Value), (Value.cells (.agg #[.int .i64 0, .int .i64 0, .bool false, .int .u8 0]))[i]? = some u → u.oneCell' = true := ⟨rfl, ones_of rfl⟩
theorem z9 : (Try.prog.info? 9).map (·.size) = some 1 := by kernel_rfl
theorem i9 : (Try.prog.info? 9).map (fun i => (i.zero, i.size, i.bytes)) = some (some (.string ByteArray.empty), 1, 16) := by kernel_rfl
theorem a9 : (Try.prog.info? 9).map (·.zero) = some (some (.string ByteArray.empty)) := by kernel_rfl
theorem o9 : (Value.cells (.string ByteArray.empty)).size = 1 ∧ ∀ (i : Nat) (u : Value), (Value.cells (.string ByteArray.empty))[i]? = some u → u.oneCell' = true := ⟨rfl, ones_of rfl⟩
theorem z10 : (Try.prog.info? 10).map (·.size) = some 1 := by kernel_rfl
theorem i10 : (Try.prog.info? 10).map (fun i => (i.zero, i.size, i.bytes)) = some (some (.string ByteArray.empty), 1, 16) := by kernel_rfl
theorem a10 : (Try.prog.info? 10).map (·.zero) = some (some (.string ByteArray.empty)) := by kernel_rfl
theorem o10 : (Value.cells (.string ByteArray.empty)).size = 1 ∧ ∀ (i : Nat) (u : Value), (Value.cells (.string ByteArray.empty))[i]? = some u → u.oneCell' = true := ⟨rfl, ones_of rfl⟩
theorem z11 : (Try.prog.info? 11).map (·.size) = some 1 := by kernel_rfl
theorem i11 : (Try.prog.info? 11).map (fun i => (i.zero, i.size, i.bytes)) = some (some (.string ByteArray.empty), 1, 16) := by kernel_rfl
theorem a11 : (Try.prog.info? 11).map (·.zero) = some (some (.string ByteArray.empty)) := by kernel_rfl
theorem o11 : (Value.cells (.string ByteArray.empty)).size = 1 ∧ ∀ (i : Nat) (u : Value), (Value.cells (.string ByteArray.empty))[i]? = some u → u.oneCell' = true := ⟨rfl, ones_of rfl⟩
theorem z12 : (Try.prog.info? 12).map (·.size) = some 1 := by kernel_rfl
theorem i12 : (Try.prog.info? 12).map (fun i => (i.zero, i.size, i.bytes)) = some (some (.int .u64 0), 1, 8) := by kernel_rfl
theorem a12 : (Try.prog.info? 12).map (·.zero) = some (some (.int .u64 0)) := by kernel_rfl
theorem o12 : (Value.cells (.int .u64 0)).size = 1 ∧ ∀ (i : Nat) (u : Value), (Value.cells (.int .u64 0))[i]? = some u → u.oneCell' = true := ⟨rfl, ones_of rfl⟩
theorem z13 : (Try.prog.info? 13).map (·.size) = some 2 := by kernel_rfl
theorem i13 : (Try.prog.info? 13).map (fun i => (i.zero, i.size, i.bytes)) = some (some (.agg #[.string ByteArray.empty, .int .u64 0]), 2, 24) := by kernel_rfl
theorem a13 : (Try.prog.info? 13).map (·.zero) = some (some (.agg #[.string ByteArray.empty, .int .u64 0])) := by kernel_rfl
theorem o13 : (Value.cells (.agg #[.string ByteArray.empty, .int .u64 0])).size = 2 ∧ ∀ (i : Nat) (u : Value), (Value.cells (.agg #[.string ByteArray.empty, .int .u64 0]))[i]? = some u → u.oneCell' = true := ⟨rfl, ones_of rfl⟩
theorem z14 : (Try.prog.info? 14).map (·.size) = some 2 := by kernel_rfl
theorem i14 : (Try.prog.info? 14).map (fun i => (i.zero, i.size, i.bytes)) = some (some (.agg #[.string ByteArray.empty, .int .u64 0]), 2, 24) := by kernel_rfl
theorem a14 : (Try.prog.info? 14).map (·.zero) = some (some (.agg #[.string ByteArray.empty, .int .u64 0])) := by kernel_rfl
theorem o14 : (Value.cells (.agg #[.string ByteArray.empty, .int .u64 0])).size = 2 ∧ ∀ (i : Nat) (u : Value), (Value.cells (.agg #[.string ByteArray.empty, .int .u64 0]))[i]? = some u → u.oneCell' = true := ⟨rfl, ones_of rfl⟩
theorem z15 : (Try.prog.info? 15).map (·.size) = some 1 := by kernel_rfl
theorem i15 : (Try.prog.info? 15).map (fun i => (i.zero, i.size, i.bytes)) = some (some (.pointer none), 1, 8) := by kernel_rfl
theorem a15 : (Try.prog.info? 15).map (·.zero) = some (some (.pointer none)) := by kernel_rfl
theorem o15 : (Value.cells (.pointer none)).size = 1 ∧ ∀ (i : Nat) (u : Value), (Value.cells (.pointer none))[i]? = some u → u.oneCell' = true := ⟨rfl, ones_of rfl⟩
theorem z16 : (Try.prog.info? 16).map (·.size) = some 1 := by kernel_rfl
theorem i16 : (Try.prog.info? 16).map (fun i => (i.zero, i.size, i.bytes)) = some (some (.pointer none), 1, 8) := by kernel_rfl
theorem a16 : (Try.prog.info? 16).map (·.zero) = some (some (.pointer none)) := by kernel_rfl
theorem o16 : (Value.cells (.pointer none)).size = 1 ∧ ∀ (i : Nat) (u : Value), (Value.cells (.pointer none))[i]? = some u → u.oneCell' = true := ⟨rfl, ones_of rfl⟩
theorem z17 : (Try.prog.info? 17).map (·.size) = some 1 := by kernel_rfl
theorem i17 : (Try.prog.info? 17).map (fun i => (i.zero, i.size, i.bytes)) = some (some (.pointer none), 1, 8) := by kernel_rfl
theorem a17 : (Try.prog.info? 17).map (·.zero) = some (some (.pointer none)) := by kernel_rfl
theorem o17 : (Value.cells (.pointer none)).size = 1 ∧ ∀ (i : Nat) (u : Value), (Value.cells (.pointer none))[i]? = some u → u.oneCell' = true := ⟨rfl, ones_of rfl⟩
theorem z18 : (Try.prog.info? 18).map (·.size) = some 1 := by kernel_rfl
theorem i18 : (Try.prog.info? 18).map (fun i => (i.zero, i.size, i.bytes)) = some (some (.agg #[.pointer none]), 1, 8) := by kernel_rfl
theorem a18 : (Try.prog.info? 18).map (·.zero) = some (some (.agg #[.pointer none])) := by kernel_rfl
theorem o18 : (Value.cells (.agg #[.pointer none])).size = 1 ∧ ∀ (i : Nat) (u : Value), (Value.cells (.agg #[.pointer none]))[i]? = some u → u.oneCell' = true := ⟨rfl, ones_of rfl⟩
theorem z19 : (Try.prog.info? 19).map (·.size) = some 1 := by kernel_rfl
theorem i19 : (Try.prog.info? 19).map (fun i => (i.zero, i.size, i.bytes)) = some (some (.agg #[.pointer none]), 1, 8) := by kernel_rfl
theorem a19 : (Try.prog.info? 19).map (·.zero) = some (some (.agg #[.pointer none])) := by kernel_rfl
theorem o19 : (Value.cells (.agg #[.pointer none])).size = 1 ∧ ∀ (i : Nat) (u : Value), (Value.cells (.agg #[.pointer none]))[i]? = some u → u.oneCell' = true := ⟨rfl, ones_of rfl⟩
theorem z20 : (Try.prog.info? 20).map (·.size) = some 1 := by kernel_rfl
theorem i20 : (Try.prog.info? 20).map (fun i => (i.zero, i.size, i.bytes)) = some (some (.nilIface), 1, 16) := by kernel_rfl
theorem a20 : (Try.prog.info? 20).map (·.zero) = some (some (.nilIface)) := by kernel_rfl
theorem o20 : (Value.cells (.nilIface)).size = 1 ∧ ∀ (i : Nat) (u : Value), (Value.cells (.nilIface))[i]? = some u → u.oneCell' = true := ⟨rfl, ones_of rfl⟩
theorem z21 : (Try.prog.info? 21).map (·.size) = some 1 := by kernel_rfl
theorem i21 : (Try.prog.info? 21).map (fun i => (i.zero, i.size, i.bytes)) = some (some (.int .i32 0), 1, 4) := by kernel_rfl
theorem a21 : (Try.prog.info? 21).map (·.zero) = some (some (.int .i32 0)) := by kernel_rfl
theorem o21 : (Value.cells (.int .i32 0)).size = 1 ∧ ∀ (i : Nat) (u : Value), (Value.cells (.int .i32 0))[i]? = some u → u.oneCell' = true := ⟨rfl, ones_of rfl⟩
theorem z22 : (Try.prog.info? 22).map (·.size) = some 1 := by kernel_rfl
theorem i22 : (Try.prog.info? 22).map (fun i => (i.zero, i.size, i.bytes)) = some (some (.slice none 0 0), 1, 24) := by kernel_rfl
theorem a22 : (Try.prog.info? 22).map (·.zero) = some (some (.slice none 0 0)) := by kernel_rfl
theorem o22 : (Value.cells (.slice none 0 0)).size = 1 ∧ ∀ (i : Nat) (u : Value), (Value.cells (.slice none 0 0))[i]? = some u → u.oneCell' = true := ⟨rfl, ones_of rfl⟩
theorem z23 : (Try.prog.info? 23).map (·.size) = some 1 := by kernel_rfl
theorem i23 : (Try.prog.info? 23).map (fun i => (i.zero, i.size, i.bytes)) = some (some (.slice none 0 0), 1, 24) := by kernel_rfl
theorem a23 : (Try.prog.info? 23).map (·.zero) = some (some (.slice none 0 0)) := by kernel_rfl
theorem o23 : (Value.cells (.slice none 0 0)).size = 1 ∧ ∀ (i : Nat) (u : Value), (Value.cells (.slice none 0 0))[i]? = some u → u.oneCell' = true := ⟨rfl, ones_of rfl⟩
theorem z24 : (Try.prog.info? 24).map (·.size) = some 1 := by kernel_rfl
theorem i24 : (Try.prog.info? 24).map (fun i => (i.zero, i.size, i.bytes)) = some (some (.slice none 0 0), 1, 24) := by kernel_rfl
theorem a24 : (Try.prog.info? 24).map (·.zero) = some (some (.slice none 0 0)) := by kernel_rfl
theorem o24 : (Value.cells (.slice none 0 0)).size = 1 ∧ ∀ (i : Nat) (u : Value), (Value.cells (.slice none 0 0))[i]? = some u → u.oneCell' = true := ⟨rfl, ones_of rfl⟩
theorem z25 : (Try.prog.info? 25).map (·.size) = some 4 := by kernel_rfl
theorem i25 : (Try.prog.info? 25).map (fun i => (i.zero, i.size, i.bytes)) = some (some (.agg #[.int .i64 0, .int .i64 0, .slice none 0 0, .slice none 0 0]), 4, 64) := by kernel_rfl
theorem a25 : (Try.prog.info? 25).map (·.zero) = some (some (.agg #[.int .i64 0, .int .i64 0, .slice none 0 0, .slice none 0 0])) := by kernel_rfl
theorem o25 : (Value.cells (.agg #[.int .i64 0, .int .i64 0, .slice none 0 0, .slice none 0 0])).size = 4 ∧ ∀ (i : Nat) (u : Value), (Value.cells (.agg #[.int .i64 0, .int .i64 0, .slice none 0 0, .slice none 0 0]))[i]? = some u → u.oneCell' = true := ⟨rfl, ones_of rfl⟩
theorem z26 : (Try.prog.info? 26).map (·.size) = some 4 := by kernel_rfl
theorem i26 : (Try.prog.info? 26).map (fun i => (i.zero, i.size, i.bytes)) = some (some (.agg #[.int .i64 0, .int .i64 0, .slice none 0 0, .slice none 0 0]), 4, 64) := by kernel_rfl
theorem a26 : (Try.prog.info? 26).map (·.zero) = some (some (.agg #[.int .i64 0, .int .i64 0, .slice none 0 0, .slice none 0 0])) := by kernel_rfl
theorem o26 : (Value.cells (.agg #[.int .i64 0, .int .i64 0, .slice none 0 0, .slice none 0 0])).size = 4 ∧ ∀ (i : Nat) (u : Value), (Value.cells (.agg #[.int .i64 0, .int .i64 0, .slice none 0 0, .slice none 0 0]))[i]? = some u → u.oneCell' = true := ⟨rfl, ones_of rfl⟩
theorem z29 : (Try.prog.info? 29).map (·.size) = some 1 := by kernel_rfl
theorem i29 : (Try.prog.info? 29).map (fun i => (i.zero, i.size, i.bytes)) = some (some (.pointer none), 1, 8) := by kernel_rfl
theorem a29 : (Try.prog.info? 29).map (·.zero) = some (some (.pointer none)) := by kernel_rfl
theorem o29 : (Value.cells (.pointer none)).size = 1 ∧ ∀ (i : Nat) (u : Value), (Value.cells (.pointer none))[i]? = some u → u.oneCell' = true := ⟨rfl, ones_of rfl⟩
theorem z32 : (Try.prog.info? 32).map (·.size) = some 1 := by kernel_rfl
theorem i32 : (Try.prog.info? 32).map (fun i => (i.zero, i.size, i.bytes)) = some (some (.slice none 0 0), 1, 24) := by kernel_rfl
theorem a32 : (Try.prog.info? 32).map (·.zero) = some (some (.slice none 0 0)) := by kernel_rfl
theorem o32 : (Value.cells (.slice none 0 0)).size = 1 ∧ ∀ (i : Nat) (u : Value), (Value.cells (.slice none 0 0))[i]? = some u → u.oneCell' = true := ⟨rfl, ones_of rfl⟩
theorem z35 : (Try.prog.info? 35).map (·.size) = some 1 := by kernel_rfl
theorem i35 : (Try.prog.info? 35).map (fun i => (i.zero, i.size, i.bytes)) = some (some (.slice none 0 0), 1, 24) := by kernel_rfl
theorem a35 : (Try.prog.info? 35).map (·.zero) = some (some (.slice none 0 0)) := by kernel_rfl
theorem o35 : (Value.cells (.slice none 0 0)).size = 1 ∧ ∀ (i : Nat) (u : Value), (Value.cells (.slice none 0 0))[i]? = some u → u.oneCell' = true := ⟨rfl, ones_of rfl⟩
theorem z43 : (Try.prog.info? 43).map (·.size) = some 1 := by kernel_rfl
theorem i43 : (Try.prog.info? 43).map (fun i => (i.zero, i.size, i.bytes)) = some (some (.int .u16 0), 1, 2) := by kernel_rfl
theorem a43 : (Try.prog.info? 43).map (·.zero) = some (some (.int .u16 0)) := by kernel_rfl
theorem o43 : (Value.cells (.int .u16 0)).size = 1 ∧ ∀ (i : Nat) (u : Value), (Value.cells (.int .u16 0))[i]? = some u → u.oneCell' = true := ⟨rfl, ones_of rfl⟩
theorem z45 : (Try.prog.info? 45).map (·.size) = some 4 := by kernel_rfl
theorem i45 : (Try.prog.info? 45).map (fun i => (i.zero, i.size, i.bytes)) = some (some (.agg #[.string ByteArray.empty, .int .i64 0, .string ByteArray.empty, .bool false]), 4, 48) := by kernel_rfl
theorem a45 : (Try.prog.info? 45).map (·.zero) = some (some (.agg #[.string ByteArray.empty, .int .i64 0, .string ByteArray.empty, .bool false])) := by kernel_rfl
theorem o45 : (Value.cells (.agg #[.string ByteArray.empty, .int .i64 0, .string ByteArray.empty, .bool false])).size = 4 ∧ ∀ (i : Nat) (u : Value), (Value.cells (.agg #[.string ByteArray.empty, .int .i64 0, .string ByteArray.empty, .bool false]))[i]? = some u → u.oneCell' = true := ⟨rfl, ones_of rfl⟩
theorem z46 : (Try.prog.info? 46).map (·.size) = some 4 := by kernel_rfl
theorem i46 : (Try.prog.info? 46).map (fun i => (i.zero, i.size, i.bytes)) = some (some (.agg #[.string ByteArray.empty, .int .i64 0, .string ByteArray.empty, .bool false]), 4, 48) := by kernel_rfl
theorem a46 : (Try.prog.info? 46).map (·.zero) = some (some (.agg #[.string ByteArray.empty, .int .i64 0, .string ByteArray.empty, .bool false])) := by kernel_rfl
theorem o46 : (Value.cells (.agg #[.string ByteArray.empty, .int .i64 0, .string ByteArray.empty, .bool false])).size = 4 ∧ ∀ (i : Nat) (u : Value), (Value.cells (.agg #[.string ByteArray.empty, .int .i64 0, .string ByteArray.empty, .bool false]))[i]? = some u → u.oneCell' = true := ⟨rfl, ones_of rfl⟩
theorem z47 : (Try.prog.info? 47).map (·.size) = some 3 := by kernel_rfl
theorem i47 : (Try.prog.info? 47).map (fun i => (i.zero, i.size, i.bytes)) = some (some (.agg #[.string ByteArray.empty, .string ByteArray.empty, .bool false]), 3, 40) := by kernel_rfl
theorem a47 : (Try.prog.info? 47).map (·.zero) = some (some (.agg #[.string ByteArray.empty, .string ByteArray.empty, .bool false])) := by kernel_rfl
theorem o47 : (Value.cells (.agg #[.string ByteArray.empty, .string ByteArray.empty, .bool false])).size = 3 ∧ ∀ (i : Nat) (u : Value), (Value.cells (.agg #[.string ByteArray.empty, .string ByteArray.empty, .bool false]))[i]? = some u → u.oneCell' = true := ⟨rfl, ones_of rfl⟩
theorem z48 : (Try.prog.info? 48).map (·.size) = some 3 := by kernel_rfl
theorem i48 : (Try.prog.info? 48).map (fun i => (i.zero, i.size, i.bytes)) = some (some (.agg #[.string ByteArray.empty, .string ByteArray.empty, .bool false]), 3, 40) := by kernel_rfl
theorem a48 : (Try.prog.info? 48).map (·.zero) = some (some (.agg #[.string ByteArray.empty, .string ByteArray.empty, .bool false])) := by kernel_rfl
theorem o48 : (Value.cells (.agg #[.string ByteArray.empty, .string ByteArray.empty, .bool false])).size = 3 ∧ ∀ (i : Nat) (u : Value), (Value.cells (.agg #[.string ByteArray.empty, .string ByteArray.empty, .bool false]))[i]? = some u → u.oneCell' = true := ⟨rfl, ones_of rfl⟩
theorem z49 : (Try.prog.info? 49).map (·.size) = some 3 := by kernel_rfl
theorem i49 : (Try.prog.info? 49).map (fun i => (i.zero, i.size, i.bytes)) = some (some (.agg #[.bool false, .bool false, .bool false]), 3, 3) := by kernel_rfl
theorem a49 : (Try.prog.info? 49).map (·.zero) = some (some (.agg #[.bool false, .bool false, .bool false])) := by kernel_rfl
theorem o49 : (Value.cells (.agg #[.bool false, .bool false, .bool false])).size = 3 ∧ ∀ (i : Nat) (u : Value), (Value.cells (.agg #[.bool false, .bool false, .bool false]))[i]? = some u → u.oneCell' = true := ⟨rfl, ones_of rfl⟩
theorem z52 : (Try.prog.info? 52).map (·.size) = some 1 := by kernel_rfl
theorem i52 : (Try.prog.info? 52).map (fun i => (i.zero, i.size, i.bytes)) = some (some (.slice none 0 0), 1, 24) := by kernel_rfl
theorem a52 : (Try.prog.info? 52).map (·.zero) = some (some (.slice none 0 0)) := by kernel_rfl
theorem o52 : (Value.cells (.slice none 0 0)).size = 1 ∧ ∀ (i : Nat) (u : Value), (Value.cells (.slice none 0 0))[i]? = some u → u.oneCell' = true := ⟨rfl, ones_of rfl⟩
theorem z53 : (Try.prog.info? 53).map (·.size) = some 1 := by kernel_rfl
theorem i53 : (Try.prog.info? 53).map (fun i => (i.zero, i.size, i.bytes)) = some (some (.slice none 0 0), 1, 24) := by kernel_rfl
theorem a53 : (Try.prog.info? 53).map (·.zero) = some (some (.slice none 0 0)) := by kernel_rfl
theorem o53 : (Value.cells (.slice none 0 0)).size = 1 ∧ ∀ (i : Nat) (u : Value), (Value.cells (.slice none 0 0))[i]? = some u → u.oneCell' = true := ⟨rfl, ones_of rfl⟩
theorem z54 : (Try.prog.info? 54).map (·.size) = some 1 := by kernel_rfl
theorem i54 : (Try.prog.info? 54).map (fun i => (i.zero, i.size, i.bytes)) = some (some (.slice none 0 0), 1, 24) := by kernel_rfl
theorem a54 : (Try.prog.info? 54).map (·.zero) = some (some (.slice none 0 0)) := by kernel_rfl
theorem o54 : (Value.cells (.slice none 0 0)).size = 1 ∧ ∀ (i : Nat) (u : Value), (Value.cells (.slice none 0 0))[i]? = some u → u.oneCell' = true := ⟨rfl, ones_of rfl⟩
theorem z57 : (Try.prog.info? 57).map (·.size) = some 3 := by kernel_rfl
theorem i57 : (Try.prog.info? 57).map (fun i => (i.zero, i.size, i.bytes)) = some (some (.agg #[.int .i64 0, .int .i64 0, .int .i64 0]), 3, 24) := by kernel_rfl
theorem a57 : (Try.prog.info? 57).map (·.zero) = some (some (.agg #[.int .i64 0, .int .i64 0, .int .i64 0])) := by kernel_rfl
theorem o57 : (Value.cells (.agg #[.int .i64 0, .int .i64 0, .int .i64 0])).size = 3 ∧ ∀ (i : Nat) (u : Value), (Value.cells (.agg #[.int .i64 0, .int .i64 0, .int .i64 0]))[i]? = some u → u.oneCell' = true := ⟨rfl, ones_of rfl⟩
theorem z58 : (Try.prog.info? 58).map (·.size) = some 3 := by kernel_rfl
theorem i58 : (Try.prog.info? 58).map (fun i => (i.zero, i.size, i.bytes)) = some (some (.agg #[.int .i64 0, .int .i64 0, .int .i64 0]), 3, 24) := by kernel_rfl
theorem a58 : (Try.prog.info? 58).map (·.zero) = some (some (.agg #[.int .i64 0, .int .i64 0, .int .i64 0])) := by kernel_rfl
theorem o58 : (Value.cells (.agg #[.int .i64 0, .int .i64 0, .int .i64 0])).size = 3 ∧ ∀ (i : Nat) (u : Value), (Value.cells (.agg #[.int .i64 0, .int .i64 0, .int .i64 0]))[i]? = some u → u.oneCell' = true := ⟨rfl, ones_of rfl⟩
theorem z59 : (Try.prog.info? 59).map (·.size) = some 3 := by kernel_rfl
theorem i59 : (Try.prog.info? 59).map (fun i => (i.zero, i.size, i.bytes)) = some (some (.agg #[.int .i64 0, .int .i64 0, .int .i64 0]), 3, 24) := by kernel_rfl
theorem a59 : (Try.prog.info? 59).map (·.zero) = some (some (.agg #[.int .i64 0, .int .i64 0, .int .i64 0])) := by kernel_rfl
theorem o59 : (Value.cells (.agg #[.int .i64 0, .int .i64 0, .int .i64 0])).size = 3 ∧ ∀ (i : Nat) (u : Value), (Value.cells (.agg #[.int .i64 0, .int .i64 0, .int .i64 0]))[i]? = some u → u.oneCell' = true := ⟨rfl, ones_of rfl⟩
theorem z68 : (Try.prog.info? 68).map (·.size) = some 3 := by kernel_rfl
theorem i68 : (Try.prog.info? 68).map (fun i => (i.zero, i.size, i.bytes)) = some (some (.agg #[.int .i64 0, .int .i64 0, .int .i64 0]), 3, 24) := by kernel_rfl
theorem a68 : (Try.prog.info? 68).map (·.zero) = some (some (.agg #[.int .i64 0, .int .i64 0, .int .i64 0])) := by kernel_rfl
theorem o68 : (Value.cells (.agg #[.int .i64 0, .int .i64 0, .int .i64 0])).size = 3 ∧ ∀ (i : Nat) (u : Value), (Value.cells (.agg #[.int .i64 0, .int .i64 0, .int .i64 0]))[i]? = some u → u.oneCell' = true := ⟨rfl, ones_of rfl⟩
theorem z69 : (Try.prog.info? 69).map (·.size) = some 27 := by kernel_rfl
theorem i69 : (Try.prog.info? 69).map (fun i => (i.zero, i.size, i.bytes)) = some (some (.agg #[.int .i64 0, .int .i64 0, .int .i64 0, .int .i64 0, .int .i64 0, .int .i64 0, .int .i64 0, .int .i64 0, .int .i64 0, .int .i64 0, .int .i64 0, .int .i64 0, .int .i64 0, .int .i64 0, .int .i64 0, .int .i64 0, .int .i64 0, .int .i64 0, .int .i64 0, .int .i64 0, .int .i64 0, .int .i64 0, .int .i64 0, .int .i64 0, .int .i64 0, .int .i64 0, .int .i64 0]), 27, 216) := by kernel_rfl
theorem a69 : (Try.prog.info? 69).map (·.zero) = some (some (.agg #[.int .i64 0, .int .i64 0, .int .i64 0, .int .i64 0, .int .i64 0, .int .i64 0, .int .i64 0, .int .i64 0, .int .i64 0, .int .i64 0, .int .i64 0, .int .i64 0, .int .i64 0, .int .i64 0, .int .i64 0, .int .i64 0, .int .i64 0, .int .i64 0, .int .i64 0, .int .i64 0, .int .i64 0, .int .i64 0, .int .i64 0, .int .i64 0, .int .i64 0, .int .i64 0, .int .i64 0])) := by kernel_rfl
theorem o69 : (Value.cells (.agg #[.int .i64 0, .int .i64 0, .int .i64 0, .int .i64 0, .int .i64 0, .int .i64 0, .int .i64 0, .int .i64 0, .int .i64 0, .int .i64 0, .int .i64 0, .int .i64 0, .int .i64 0, .int .i64 0, .int .i64 0, .int .i64 0, .int .i64 0, .int .i64 0, .int .i64 0, .int .i64 0, .int .i64 0, .int .i64 0, .int .i64 0, .int .i64 0, .int .i64 0, .int .i64 0, .int .i64 0])).size = 27 ∧ ∀ (i : Nat) (u : Value), (Value.cells (.agg #[.int .i64 0, .int .i64 0, .int .i64 0, .int .i64 0, .int .i64 0, .int .i64 0, .int .i64 0, .int .i64 0, .int .i64 0, .int .i64 0, .int .i64 0, .int .i64 0, .int .i64 0, .int .i64 0, .int .i64 0, .int .i64 0, .int .i64 0, .int .i64 0, .int .i64 0, .int .i64 0, .int .i64 0, .int .i64 0, .int .i64 0, .int .i64 0, .int .i64 0, .int .i64 0, .int .i64 0]))[i]? = some u → u.oneCell' = true := ⟨rfl, ones_of rfl⟩
theorem z70 : (Try.prog.info? 70).map (·.size) = some 3 := by kernel_rfl
theorem i70 : (Try.prog.info? 70).map (fun i => (i.zero, i.size, i.bytes)) = some (some (.agg #[.int .u8 0, .int .u8 0, .int .u8 0]), 3, 3) := by kernel_rfl
theorem a70 : (Try.prog.info? 70).map (·.zero) = some (some (.agg #[.int .u8 0, .int .u8 0, .int .u8 0])) := by kernel_rfl
theorem o70 : (Value.cells (.agg #[.int .u8 0, .int .u8 0, .int .u8 0])).size = 3 ∧ ∀ (i : Nat) (u : Value), (Value.cells (.agg #[.int .u8 0, .int .u8 0, .int .u8 0]))[i]? = some u → u.oneCell' = true := ⟨rfl, ones_of rfl⟩
theorem z73 : (Try.prog.info? 73).map (·.size) = some 1 := by kernel_rfl
theorem i73 : (Try.prog.info? 73).map (fun i => (i.zero, i.size, i.bytes)) = some (some (.slice none 0 0), 1, 24) := by kernel_rfl
theorem a73 : (Try.prog.info? 73).map (·.zero) = some (some (.slice none 0 0)) := by kernel_rfl
theorem o73 : (Value.cells (.slice none 0 0)).size = 1 ∧ ∀ (i : Nat) (u : Value), (Value.cells (.slice none 0 0))[i]? = some u → u.oneCell' = true := ⟨rfl, ones_of rfl⟩
theorem z74 : (Try.prog.info? 74).map (·.size) = some 1 := by kernel_rfl
theorem i74 : (Try.prog.info? 74).map (fun i => (i.zero, i.size, i.bytes)) = some (some (.slice none 0 0), 1, 24) := by kernel_rfl
theorem a74 : (Try.prog.info? 74).map (·.zero) = some (some (.slice none 0 0)) := by kernel_rfl
theorem o74 : (Value.cells (.slice none 0 0)).size = 1 ∧ ∀ (i : Nat) (u : Value), (Value.cells (.slice none 0 0))[i]? = some u → u.oneCell' = true := ⟨rfl, ones_of rfl⟩
theorem z75 : (Try.prog.info? 75).map (·.size) = some 1 := by kernel_rfl
theorem i75 : (Try.prog.info? 75).map (fun i => (i.zero, i.size, i.bytes)) = some (some (.slice none 0 0), 1, 24) := by kernel_rfl
theorem a75 : (Try.prog.info? 75).map (·.zero) = some (some (.slice none 0 0)) := by kernel_rfl
theorem o75 : (Value.cells (.slice none 0 0)).size = 1 ∧ ∀ (i : Nat) (u : Value), (Value.cells (.slice none 0 0))[i]? = some u → u.oneCell' = true := ⟨rfl, ones_of rfl⟩
theorem z76 : (Try.prog.info? 76).map (·.size) = some 9 := by kernel_rfl
theorem i76 : (Try.prog.info? 76).map (fun i => (i.zero, i.size, i.bytes)) = some (some (.agg #[.int .i64 0, .int .i64 0, .slice none 0 0, .slice none 0 0, .bool false, .bool false, .string ByteArray.empty, .string ByteArray.empty, .int .i64 0]), 9, 112) := by kernel_rfl
theorem a76 : (Try.prog.info? 76).map (·.zero) = some (some (.agg #[.int .i64 0, .int .i64 0, .slice none 0 0, .slice none 0 0, .bool false, .bool false, .string ByteArray.empty, .string ByteArray.empty, .int .i64 0])) := by kernel_rfl
theorem o76 : (Value.cells (.agg #[.int .i64 0, .int .i64 0, .slice none 0 0, .slice none 0 0, .bool false, .bool false, .string ByteArray.empty, .string ByteArray.empty, .int .i64 0])).size = 9 ∧ ∀ (i : Nat) (u : Value), (Value.cells (.agg #[.int .i64 0, .int .i64 0, .slice none 0 0, .slice none 0 0, .bool false, .bool false, .string ByteArray.empty, .string ByteArray.empty, .int .i64 0]))[i]? = some u → u.oneCell' = true := ⟨rfl, ones_of rfl⟩
theorem z77 : (Try.prog.info? 77).map (·.size) = some 9 := by kernel_rfl
theorem i77 : (Try.prog.info? 77).map (fun i => (i.zero, i.size, i.bytes)) = some (some (.agg #[.int .i64 0, .int .i64 0, .slice none 0 0, .slice none 0 0, .bool false, .bool false, .string ByteArray.empty, .string ByteArray.empty, .int .i64 0]), 9, 112) := by kernel_rfl
theorem a77 : (Try.prog.info? 77).map (·.zero) = some (some (.agg #[.int .i64 0, .int .i64 0, .slice none 0 0, .slice none 0 0, .bool false, .bool false, .string ByteArray.empty, .string ByteArray.empty, .int .i64 0])) := by kernel_rfl
theorem o77 : (Value.cells (.agg #[.int .i64 0, .int .i64 0, .slice none 0 0, .slice none 0 0, .bool false, .bool false, .string ByteArray.empty, .string ByteArray.empty, .int .i64 0])).size = 9 ∧ ∀ (i : Nat) (u : Value), (Value.cells (.agg #[.int .i64 0, .int .i64 0, .slice none 0 0, .slice none 0 0, .bool false, .bool false, .string ByteArray.empty, .string ByteArray.empty, .int .i64 0]))[i]? = some u → u.oneCell' = true := ⟨rfl, ones_of rfl⟩
theorem z79 : (Try.prog.info? 79).map (·.size) = some 1 := by kernel_rfl
theorem i79 : (Try.prog.info? 79).map (fun i => (i.zero, i.size, i.bytes)) = some (some (.slice none 0 0), 1, 24) := by kernel_rfl
theorem a79 : (Try.prog.info? 79).map (·.zero) = some (some (.slice none 0 0)) := by kernel_rfl
theorem o79 : (Value.cells (.slice none 0 0)).size = 1 ∧ ∀ (i : Nat) (u : Value), (Value.cells (.slice none 0 0))[i]? = some u → u.oneCell' = true := ⟨rfl, ones_of rfl⟩
theorem z80 : (Try.prog.info? 80).map (·.size) = some 2 := by kernel_rfl
theorem i80 : (Try.prog.info? 80).map (fun i => (i.zero, i.size, i.bytes)) = some (some (.agg #[.slice none 0 0, .int .i64 0]), 2, 32) := by kernel_rfl
theorem a80 : (Try.prog.info? 80).map (·.zero) = some (some (.agg #[.slice none 0 0, .int .i64 0])) := by kernel_rfl
theorem o80 : (Value.cells (.agg #[.slice none 0 0, .int .i64 0])).size = 2 ∧ ∀ (i : Nat) (u : Value), (Value.cells (.agg #[.slice none 0 0, .int .i64 0]))[i]? = some u → u.oneCell' = true := ⟨rfl, ones_of rfl⟩
theorem z81 : (Try.prog.info? 81).map (·.size) = some 2 := by kernel_rfl
theorem i81 : (Try.prog.info? 81).map (fun i => (i.zero, i.size, i.bytes)) = some (some (.agg #[.slice none 0 0, .int .i64 0]), 2, 32) := by kernel_rfl
theorem a81 : (Try.prog.info? 81).map (·.zero) = some (some (.agg #[.slice none 0 0, .int .i64 0])) := by kernel_rfl
theorem o81 : (Value.cells (.agg #[.slice none 0 0, .int .i64 0])).size = 2 ∧ ∀ (i : Nat) (u : Value), (Value.cells (.agg #[.slice none 0 0, .int .i64 0]))[i]? = some u → u.oneCell' = true := ⟨rfl, ones_of rfl⟩
theorem z82 : (Try.prog.info? 82).map (·.size) = some 1 := by kernel_rfl
theorem i82 : (Try.prog.info? 82).map (fun i => (i.zero, i.size, i.bytes)) = some (some (.slice none 0 0), 1, 24) := by kernel_rfl
theorem a82 : (Try.prog.info? 82).map (·.zero) = some (some (.slice none 0 0)) := by kernel_rfl
theorem o82 : (Value.cells (.slice none 0 0)).size = 1 ∧ ∀ (i : Nat) (u : Value), (Value.cells (.slice none 0 0))[i]? = some u → u.oneCell' = true := ⟨rfl, ones_of rfl⟩
theorem z88 : (Try.prog.info? 88).map (·.size) = some 1 := by kernel_rfl
theorem i88 : (Try.prog.info? 88).map (fun i => (i.zero, i.size, i.bytes)) = some (some (.int .i64 0), 1, 8) := by kernel_rfl
theorem a88 : (Try.prog.info? 88).map (·.zero) = some (some (.int .i64 0)) := by kernel_rfl
theorem o88 : (Value.cells (.int .i64 0)).size = 1 ∧ ∀ (i : Nat) (u : Value), (Value.cells (.int .i64 0))[i]? = some u → u.oneCell' = true := ⟨rfl, ones_of rfl⟩
theorem z94 : (Try.prog.info? 94).map (·.size) = some 1 := by kernel_rfl
theorem i94 : (Try.prog.info? 94).map (fun i => (i.zero, i.size, i.bytes)) = some (some (.slice none 0 0), 1, 24) := by kernel_rfl
theorem a94 : (Try.prog.info? 94).map (·.zero) = some (some (.slice none 0 0)) := by kernel_rfl
theorem o94 : (Value.cells (.slice none 0 0)).size = 1 ∧ ∀ (i : Nat) (u : Value), (Value.cells (.slice none 0 0))[i]? = some u → u.oneCell' = true := ⟨rfl, ones_of rfl⟩
theorem z95 : (Try.prog.info? 95).map (·.size) = some 1 := by kernel_rfl
theorem i95 : (Try.prog.info? 95).map (fun i => (i.zero, i.size, i.bytes)) = some (some (.slice none 0 0), 1, 24) := by kernel_rfl
theorem a95 : (Try.prog.info? 95).map (·.zero) = some (some (.slice none 0 0)) := by kernel_rfl
theorem o95 : (Value.cells (.slice none 0 0)).size = 1 ∧ ∀ (i : Nat) (u : Value), (Value.cells (.slice none 0 0))[i]? = some u → u.oneCell' = true := ⟨rfl, ones_of rfl⟩
theorem z96 : (Try.prog.info? 96).map (·.size) = some 2 := by kernel_rfl
theorem i96 : (Try.prog.info? 96).map (fun i => (i.zero, i.size, i.bytes)) = some (some (.agg #[.string ByteArray.empty, .slice none 0 0]), 2, 40) := by kernel_rfl
theorem a96 : (Try.prog.info? 96).map (·.zero) = some (some (.agg #[.string ByteArray.empty, .slice none 0 0])) := by kernel_rfl
theorem o96 : (Value.cells (.agg #[.string ByteArray.empty, .slice none 0 0])).size = 2 ∧ ∀ (i : Nat) (u : Value), (Value.cells (.agg #[.string ByteArray.empty, .slice none 0 0]))[i]? = some u → u.oneCell' = true := ⟨rfl, ones_of rfl⟩
theorem z97 : (Try.prog.info? 97).map (·.size) = some 2 := by kernel_rfl
theorem i97 : (Try.prog.info? 97).map (fun i => (i.zero, i.size, i.bytes)) = some (some (.agg #[.string ByteArray.empty, .slice none 0 0]), 2, 40) := by kernel_rfl
theorem a97 : (Try.prog.info? 97).map (·.zero) = some (some (.agg #[.string ByteArray.empty, .slice none 0 0])) := by kernel_rfl
theorem o97 : (Value.cells (.agg #[.string ByteArray.empty, .slice none 0 0])).size = 2 ∧ ∀ (i : Nat) (u : Value), (Value.cells (.agg #[.string ByteArray.empty, .slice none 0 0]))[i]? = some u → u.oneCell' = true := ⟨rfl, ones_of rfl⟩
theorem z105 : (Try.prog.info? 105).map (·.size) = some 1 := by kernel_rfl
theorem i105 : (Try.prog.info? 105).map (fun i => (i.zero, i.size, i.bytes)) = some (some (.slice none 0 0), 1, 24) := by kernel_rfl
theorem a105 : (Try.prog.info? 105).map (·.zero) = some (some (.slice none 0 0)) := by kernel_rfl
theorem o105 : (Value.cells (.slice none 0 0)).size = 1 ∧ ∀ (i : Nat) (u : Value), (Value.cells (.slice none 0 0))[i]? = some u → u.oneCell' = true := ⟨rfl, ones_of rfl⟩
theorem z106 : (Try.prog.info? 106).map (·.size) = some 18 := by kernel_rfl
theorem i106 : (Try.prog.info? 106).map (fun i => (i.zero, i.size, i.bytes)) = some (some (.agg #[.int .i64 0, .int .i64 0, .slice none 0 0, .slice none 0 0, .bool false, .bool false, .string ByteArray.empty, .string ByteArray.empty, .int .i64 0, .int .i64 0, .bool false, .slice none 0 0, .slice none 0 0, .int .i64 0, .int .i64 0, .slice none 0 0, .slice none 0 0, .int .i64 0]), 18, 248) := by kernel_rfl
theorem a106 : (Try.prog.info? 106).map (·.zero) = some (some (.agg #[.int .i64 0, .int .i64 0, .slice none 0 0, .slice none 0 0, .bool false, .bool false, .string ByteArray.empty, .string ByteArray.empty, .int .i64 0, .int .i64 0, .bool false, .slice none 0 0, .slice none 0 0, .int .i64 0, .int .i64 0, .slice none 0 0, .slice none 0 0, .int .i64 0])) := by kernel_rfl
theorem o106 : (Value.cells (.agg #[.int .i64 0, .int .i64 0, .slice none 0 0, .slice none 0 0, .bool false, .bool false, .string ByteArray.empty, .string ByteArray.empty, .int .i64 0, .int .i64 0, .bool false, .slice none 0 0, .slice none 0 0, .int .i64 0, .int .i64 0, .slice none 0 0, .slice none 0 0, .int .i64 0])).size = 18 ∧ ∀ (i : Nat) (u : Value), (Value.cells (.agg #[.int .i64 0, .int .i64 0, .slice none 0 0, .slice none 0 0, .bool false, .bool false, .string ByteArray.empty, .string ByteArray.empty, .int .i64 0, .int .i64 0, .bool false, .slice none 0 0, .slice none 0 0, .int .i64 0, .int .i64 0, .slice none 0 0, .slice none 0 0, .int .i64 0]))[i]? = some u → u.oneCell' = true := ⟨rfl, ones_of rfl⟩
theorem z107 : (Try.prog.info? 107).map (·.size) = some 18 := by kernel_rfl
theorem i107 : (Try.prog.info? 107).map (fun i => (i.zero, i.size, i.bytes)) = some (some (.agg #[.int .i64 0, .int .i64 0, .slice none 0 0, .slice none 0 0, .bool false, .bool false, .string ByteArray.empty, .string ByteArray.empty, .int .i64 0, .int .i64 0, .bool false, .slice none 0 0, .slice none 0 0, .int .i64 0, .int .i64 0, .slice none 0 0, .slice none 0 0, .int .i64 0]), 18, 248) := by kernel_rfl
theorem a107 : (Try.prog.info? 107).map (·.zero) = some (some (.agg #[.int .i64 0, .int .i64 0, .slice none 0 0, .slice none 0 0, .bool false, .bool false, .string ByteArray.empty, .string ByteArray.empty, .int .i64 0, .int .i64 0, .bool false, .slice none 0 0, .slice none 0 0, .int .i64 0, .int .i64 0, .slice none 0 0, .slice none 0 0, .int .i64 0])) := by kernel_rfl
theorem o107 : (Value.cells (.agg #[.int .i64 0, .int .i64 0, .slice none 0 0, .slice none 0 0, .bool false, .bool false, .string ByteArray.empty, .string ByteArray.empty, .int .i64 0, .int .i64 0, .bool false, .slice none 0 0, .slice none 0 0, .int .i64 0, .int .i64 0, .slice none 0 0, .slice none 0 0, .int .i64 0])).size = 18 ∧ ∀ (i : Nat) (u : Value), (Value.cells (.agg #[.int .i64 0, .int .i64 0, .slice none 0 0, .slice none 0 0, .bool false, .bool false, .string ByteArray.empty, .string ByteArray.empty, .int .i64 0, .int .i64 0, .bool false, .slice none 0 0, .slice none 0 0, .int .i64 0, .int .i64 0, .slice none 0 0, .slice none 0 0, .int .i64 0]))[i]? = some u → u.oneCell' = true := ⟨rfl, ones_of rfl⟩
theorem z113 : (Try.prog.info? 113).map (·.size) = some 3 := by kernel_rfl
theorem i113 : (Try.prog.info? 113).map (fun i => (i.zero, i.size, i.bytes)) = some (some (.agg #[.int .i64 0, .string ByteArray.empty, .string ByteArray.empty]), 3, 40) := by kernel_rfl
theorem a113 : (Try.prog.info? 113).map (·.zero) = some (some (.agg #[.int .i64 0, .string ByteArray.empty, .string ByteArray.empty])) := by kernel_rfl
theorem o113 : (Value.cells (.agg #[.int .i64 0, .string ByteArray.empty, .string ByteArray.empty])).size = 3 ∧ ∀ (i : Nat) (u : Value), (Value.cells (.agg #[.int .i64 0, .string ByteArray.empty, .string ByteArray.empty]))[i]? = some u → u.oneCell' = true := ⟨rfl, ones_of rfl⟩
theorem z114 : (Try.prog.info? 114).map (·.size) = some 3 := by kernel_rfl
theorem i114 : (Try.prog.info? 114).map (fun i => (i.zero, i.size, i.bytes)) = some (some (.agg #[.int .i64 0, .string ByteArray.empty, .string ByteArray.empty]), 3, 40) := by kernel_rfl
theorem a114 : (Try.prog.info? 114).map (·.zero) = some (some (.agg #[.int .i64 0, .string ByteArray.empty, .string ByteArray.empty])) := by kernel_rfl
theorem o114 : (Value.cells (.agg #[.int .i64 0, .string ByteArray.empty, .string ByteArray.empty])).size = 3 ∧ ∀ (i : Nat) (u : Value), (Value.cells (.agg #[.int .i64 0, .string ByteArray.empty, .string ByteArray.empty]))[i]? = some u → u.oneCell' = true := ⟨rfl, ones_of rfl⟩
theorem z115 : (Try.prog.info? 115).map (·.size) = some 1 := by kernel_rfl
theorem i115 : (Try.prog.info? 115).map (fun i => (i.zero, i.size, i.bytes)) = some (some (.slice none 0 0), 1, 24) := by kernel_rfl
theorem a115 : (Try.prog.info? 115).map (·.zero) = some (some (.slice none 0 0)) := by kernel_rfl
theorem o115 : (Value.cells (.slice none 0 0)).size = 1 ∧ ∀ (i : Nat) (u : Value), (Value.cells (.slice none 0 0))[i]? = some u → u.oneCell' = true := ⟨rfl, ones_of rfl⟩
theorem z119 : (Try.prog.info? 119).map (·.size) = some 2 := by kernel_rfl
theorem i119 : (Try.prog.info? 119).map (fun i => (i.zero, i.size, i.bytes)) = some (some (.agg #[.slice none 0 0, .int .i64 0]), 2, 32) := by kernel_rfl
theorem a119 : (Try.prog.info? 119).map (·.zero) = some (some (.agg #[.slice none 0 0, .int .i64 0])) := by kernel_rfl
theorem o119 : (Value.cells (.agg #[.slice none 0 0, .int .i64 0])).size = 2 ∧ ∀ (i : Nat) (u : Value), (Value.cells (.agg #[.slice none 0 0, .int .i64 0]))[i]? = some u → u.oneCell' = true := ⟨rfl, ones_of rfl⟩
theorem z120 : (Try.prog.info? 120).map (·.size) = some 2 := by kernel_rfl
theorem i120 : (Try.prog.info? 120).map (fun i => (i.zero, i.size, i.bytes)) = some (some (.agg #[.slice none 0 0, .int .i64 0]), 2, 32) := by kernel_rfl
theorem a120 : (Try.prog.info? 120).map (·.zero) = some (some (.agg #[.slice none 0 0, .int .i64 0])) := by kernel_rfl
theorem o120 : (Value.cells (.agg #[.slice none 0 0, .int .i64 0])).size = 2 ∧ ∀ (i : Nat) (u : Value), (Value.cells (.agg #[.slice none 0 0, .int .i64 0]))[i]? = some u → u.oneCell' = true := ⟨rfl, ones_of rfl⟩
theorem z141 : (Try.prog.info? 141).map (·.size) = some 1 := by kernel_rfl
theorem i141 : (Try.prog.info? 141).map (fun i => (i.zero, i.size, i.bytes)) = some (some (.pointer none), 1, 8) := by kernel_rfl
theorem a141 : (Try.prog.info? 141).map (·.zero) = some (some (.pointer none)) := by kernel_rfl
theorem o141 : (Value.cells (.pointer none)).size = 1 ∧ ∀ (i : Nat) (u : Value), (Value.cells (.pointer none))[i]? = some u → u.oneCell' = true := ⟨rfl, ones_of rfl⟩
theorem z142 : (Try.prog.info? 142).map (·.size) = some 3 := by kernel_rfl
theorem i142 : (Try.prog.info? 142).map (fun i => (i.zero, i.size, i.bytes)) = some (some (.agg #[.slice none 0 0, .int .i64 0, .bool false]), 3, 40) := by kernel_rfl
theorem a142 : (Try.prog.info? 142).map (·.zero) = some (some (.agg #[.slice none 0 0, .int .i64 0, .bool false])) := by kernel_rfl
theorem o142 : (Value.cells (.agg #[.slice none 0 0, .int .i64 0, .bool false])).size = 3 ∧ ∀ (i : Nat) (u : Value), (Value.cells (.agg #[.slice none 0 0, .int .i64 0, .bool false]))[i]? = some u → u.oneCell' = true := ⟨rfl, ones_of rfl⟩
theorem z143 : (Try.prog.info? 143).map (·.size) = some 3 := by kernel_rfl
theorem i143 : (Try.prog.info? 143).map (fun i => (i.zero, i.size, i.bytes)) = some (some (.agg #[.slice none 0 0, .int .i64 0, .bool false]), 3, 40) := by kernel_rfl
theorem a143 : (Try.prog.info? 143).map (·.zero) = some (some (.agg #[.slice none 0 0, .int .i64 0, .bool false])) := by kernel_rfl
theorem o143 : (Value.cells (.agg #[.slice none 0 0, .int .i64 0, .bool false])).size = 3 ∧ ∀ (i : Nat) (u : Value), (Value.cells (.agg #[.slice none 0 0, .int .i64 0, .bool false]))[i]? = some u → u.oneCell' = true := ⟨rfl, ones_of rfl⟩
theorem z145 : (Try.prog.info? 145).map (·.size) = some 1 := by kernel_rfl
theorem i145 : (Try.prog.info? 145).map (fun i => (i.zero, i.size, i.bytes)) = some (some (.pointer none), 1, 8) := by kernel_rfl
theorem a145 : (Try.prog.info? 145).map (·.zero) = some (some (.pointer none)) := by kernel_rfl
theorem o145 : (Value.cells (.pointer none)).size = 1 ∧ ∀ (i : Nat) (u : Value), (Value.cells (.pointer none))[i]? = some u → u.oneCell' = true := ⟨rfl, ones_of rfl⟩
theorem z146 : (Try.prog.info? 146).map (·.size) = some 3 := by kernel_rfl
theorem i146 : (Try.prog.info? 146).map (fun i => (i.zero, i.size, i.bytes)) = some (some (.agg #[.slice none 0 0, .int .i64 0, .bool false]), 3, 40) := by kernel_rfl
theorem a146 : (Try.prog.info? 146).map (·.zero) = some (some (.agg #[.slice none 0 0, .int .i64 0, .bool false])) := by kernel_rfl
theorem o146 : (Value.cells (.agg #[.slice none 0 0, .int .i64 0, .bool false])).size = 3 ∧ ∀ (i : Nat) (u : Value), (Value.cells (.agg #[.slice none 0 0, .int .i64 0, .bool false]))[i]? = some u → u.oneCell' = true := ⟨rfl, ones_of rfl⟩
theorem z147 : (Try.prog.info? 147).map (·.size) = some 3 := by kernel_rfl
theorem i147 : (Try.prog.info? 147).map (fun i => (i.zero, i.size, i.bytes)) = some (some (.agg #[.slice none 0 0, .int .i64 0, .bool false]), 3, 40) := by kernel_rfl
theorem a147 : (Try.prog.info? 147).map (·.zero) = some (some (.agg #[.slice none 0 0, .int .i64 0, .bool false])) := by kernel_rfl
theorem o147 : (Value.cells (.agg #[.slice none 0 0, .int .i64 0, .bool false])).size = 3 ∧ ∀ (i : Nat) (u : Value), (Value.cells (.agg #[.slice none 0 0, .int .i64 0, .bool false]))[i]? = some u → u.oneCell' = true := ⟨rfl, ones_of rfl⟩
theorem z150 : (Try.prog.info? 150).map (·.size) = some 1 := by kernel_rfl
theorem i150 : (Try.prog.info? 150).map (fun i => (i.zero, i.size, i.bytes)) = some (some (.slice none 0 0), 1, 24) := by kernel_rfl
theorem a150 : (Try.prog.info? 150).map (·.zero) = some (some (.slice none 0 0)) := by kernel_rfl
theorem o150 : (Value.cells (.slice none 0 0)).size = 1 ∧ ∀ (i : Nat) (u : Value), (Value.cells (.slice none 0 0))[i]? = some u → u.oneCell' = true := ⟨rfl, ones_of rfl⟩
theorem z160 : (Try.prog.info? 160).map (·.size) = some 1 := by kernel_rfl
theorem i160 : (Try.prog.info? 160).map (fun i => (i.zero, i.size, i.bytes)) = some (some (.map none), 1, 8) := by kernel_rfl
theorem a160 : (Try.prog.info? 160).map (·.zero) = some (some (.map none)) := by kernel_rfl
theorem o160 : (Value.cells (.map none)).size = 1 ∧ ∀ (i : Nat) (u : Value), (Value.cells (.map none))[i]? = some u → u.oneCell' = true := ⟨rfl, ones_of rfl⟩
theorem z165 : (Try.prog.info? 165).map (·.size) = some 1 := by kernel_rfl
theorem i165 : (Try.prog.info? 165).map (fun i => (i.zero, i.size, i.bytes)) = some (some (.pointer none), 1, 8) := by kernel_rfl
theorem a165 : (Try.prog.info? 165).map (·.zero) = some (some (.pointer none)) := by kernel_rfl
theorem o165 : (Value.cells (.pointer none)).size = 1 ∧ ∀ (i : Nat) (u : Value), (Value.cells (.pointer none))[i]? = some u → u.oneCell' = true := ⟨rfl, ones_of rfl⟩
theorem z166 : (Try.prog.info? 166).map (·.size) = some 1 := by kernel_rfl
theorem i166 : (Try.prog.info? 166).map (fun i => (i.zero, i.size, i.bytes)) = some (some (.slice none 0 0), 1, 24) := by kernel_rfl
theorem a166 : (Try.prog.info? 166).map (·.zero) = some (some (.slice none 0 0)) := by kernel_rfl
theorem o166 : (Value.cells (.slice none 0 0)).size = 1 ∧ ∀ (i : Nat) (u : Value), (Value.cells (.slice none 0 0))[i]? = some u → u.oneCell' = true := ⟨rfl, ones_of rfl⟩
theorem z167 : (Try.prog.info? 167).map (·.size) = some 1 := by kernel_rfl
theorem i167 : (Try.prog.info? 167).map (fun i => (i.zero, i.size, i.bytes)) = some (some (.slice none 0 0), 1, 24) := by kernel_rfl
theorem a167 : (Try.prog.info? 167).map (·.zero) = some (some (.slice none 0 0)) := by kernel_rfl
theorem o167 : (Value.cells (.slice none 0 0)).size = 1 ∧ ∀ (i : Nat) (u : Value), (Value.cells (.slice none 0 0))[i]? = some u → u.oneCell' = true := ⟨rfl, ones_of rfl⟩
theorem z170 : (Try.prog.info? 170).map (·.size) = some 5 := by kernel_rfl
theorem i170 : (Try.prog.info? 170).map (fun i => (i.zero, i.size, i.bytes)) = some (some (.agg #[.string ByteArray.empty, .int .i64 0, .string ByteArray.empty, .bool false, .int .i64 0]), 5, 56) := by kernel_rfl
theorem a170 : (Try.prog.info? 170).map (·.zero) = some (some (.agg #[.string ByteArray.empty, .int .i64 0, .string ByteArray.empty, .bool false, .int .i64 0])) := by kernel_rfl
theorem o170 : (Value.cells (.agg #[.string ByteArray.empty, .int .i64 0, .string ByteArray.empty, .bool false, .int .i64 0])).size = 5 ∧ ∀ (i : Nat) (u : Value), (Value.cells (.agg #[.string ByteArray.empty, .int .i64 0, .string ByteArray.empty, .bool false, .int .i64 0]))[i]? = some u → u.oneCell' = true := ⟨rfl, ones_of rfl⟩
theorem z171 : (Try.prog.info? 171).map (·.size) = some 5 := by kernel_rfl
theorem i171 : (Try.prog.info? 171).map (fun i => (i.zero, i.size, i.bytes)) = some (some (.agg #[.string ByteArray.empty, .int .i64 0, .string ByteArray.empty, .bool false, .int .i64 0]), 5, 56) := by kernel_rfl
theorem a171 : (Try.prog.info? 171).map (·.zero) = some (some (.agg #[.string ByteArray.empty, .int .i64 0, .string ByteArray.empty, .bool false, .int .i64 0])) := by kernel_rfl
theorem o171 : (Value.cells (.agg #[.string ByteArray.empty, .int .i64 0, .string ByteArray.empty, .bool false, .int .i64 0])).size = 5 ∧ ∀ (i : Nat) (u : Value), (Value.cells (.agg #[.string ByteArray.empty, .int .i64 0, .string ByteArray.empty, .bool false, .int .i64 0]))[i]? = some u → u.oneCell' = true := ⟨rfl, ones_of rfl⟩
theorem z175 : (Try.prog.info? 175).map (·.size) = some 3 := by kernel_rfl
theorem i175 : (Try.prog.info? 175).map (fun i => (i.zero, i.size, i.bytes)) = some (some (.agg #[.int .i64 0, .string ByteArray.empty, .bool false]), 3, 32) := by kernel_rfl
theorem a175 : (Try.prog.info? 175).map (·.zero) = some (some (.agg #[.int .i64 0, .string ByteArray.empty, .bool false])) := by kernel_rfl
theorem o175 : (Value.cells (.agg #[.int .i64 0, .string ByteArray.empty, .bool false])).size = 3 ∧ ∀ (i : Nat) (u : Value), (Value.cells (.agg #[.int .i64 0, .string ByteArray.empty, .bool false]))[i]? = some u → u.oneCell' = true := ⟨rfl, ones_of rfl⟩
theorem z176 : (Try.prog.info? 176).map (·.size) = some 3 := by kernel_rfl
theorem i176 : (Try.prog.info? 176).map (fun i => (i.zero, i.size, i.bytes)) = some (some (.agg #[.int .i64 0, .string ByteArray.empty, .bool false]), 3, 32) := by kernel_rfl
theorem a176 : (Try.prog.info? 176).map (·.zero) = some (some (.agg #[.int .i64 0, .string ByteArray.empty, .bool false])) := by kernel_rfl
theorem o176 : (Value.cells (.agg #[.int .i64 0, .string ByteArray.empty, .bool false])).size = 3 ∧ ∀ (i : Nat) (u : Value), (Value.cells (.agg #[.int .i64 0, .string ByteArray.empty, .bool false]))[i]? = some u → u.oneCell' = true := ⟨rfl, ones_of rfl⟩
theorem z177 : (Try.prog.info? 177).map (·.size) = some 5 := by kernel_rfl
theorem i177 : (Try.prog.info? 177).map (fun i => (i.zero, i.size, i.bytes)) = some (some (.agg #[.int .i64 0, .int .i64 0, .int .i64 0, .int .i64 0, .slice none 0 0]), 5, 56) := by kernel_rfl
theorem a177 : (Try.prog.info? 177).map (·.zero) = some (some (.agg #[.int .i64 0, .int .i64 0, .int .i64 0, .int .i64 0, .slice none 0 0])) := by kernel_rfl
theorem o177 : (Value.cells (.agg #[.int .i64 0, .int .i64 0, .int .i64 0, .int .i64 0, .slice none 0 0])).size = 5 ∧ ∀ (i : Nat) (u : Value), (Value.cells (.agg #[.int .i64 0, .int .i64 0, .int .i64 0, .int .i64 0, .slice none 0 0]))[i]? = some u → u.oneCell' = true := ⟨rfl, ones_of rfl⟩
theorem z178 : (Try.prog.info? 178).map (·.size) = some 5 := by kernel_rfl
theorem i178 : (Try.prog.info? 178).map (fun i => (i.zero, i.size, i.bytes)) = some (some (.agg #[.int .i64 0, .int .i64 0, .int .i64 0, .int .i64 0, .slice none 0 0]), 5, 56) := by kernel_rfl
theorem a178 : (Try.prog.info? 178).map (·.zero) = some (some (.agg #[.int .i64 0, .int .i64 0, .int .i64 0, .int .i64 0, .slice none 0 0])) := by kernel_rfl
theorem o178 : (Value.cells (.agg #[.int .i64 0, .int .i64 0, .int .i64 0, .int .i64 0, .slice none 0 0])).size = 5 ∧ ∀ (i : Nat) (u : Value), (Value.cells (.agg #[.int .i64 0, .int .i64 0, .int .i64 0, .int .i64 0, .slice none 0 0]))[i]? = some u → u.oneCell' = true := ⟨rfl, ones_of rfl⟩
theorem z184 : (Try.prog.info? 184).map (·.size) = some 9 := by kernel_rfl
theorem i184 : (Try.prog.info? 184).map (fun i => (i.zero, i.size, i.bytes)) = some (some (.agg #[.int .i64 0, .int .i64 0, .slice none 0 0, .slice none 0 0, .bool false, .bool false, .string ByteArray.empty, .string ByteArray.empty, .int .i64 0]), 9, 112) := by kernel_rfl
theorem a184 : (Try.prog.info? 184).map (·.zero) = some (some (.agg #[.int .i64 0, .int .i64 0, .slice none 0 0, .slice none 0 0, .bool false, .bool false, .string ByteArray.empty, .string ByteArray.empty, .int .i64 0])) := by kernel_rfl
theorem o184 : (Value.cells (.agg #[.int .i64 0, .int .i64 0, .slice none 0 0, .slice none 0 0, .bool false, .bool false, .string ByteArray.empty, .string ByteArray.empty, .int .i64 0])).size = 9 ∧ ∀ (i : Nat) (u : Value), (Value.cells (.agg #[.int .i64 0, .int .i64 0, .slice none 0 0, .slice none 0 0, .bool false, .bool false, .string ByteArray.empty, .string ByteArray.empty, .int .i64 0]))[i]? = some u → u.oneCell' = true := ⟨rfl, ones_of rfl⟩
theorem z187 : (Try.prog.info? 187).map (·.size) = some 1 := by kernel_rfl
theorem i187 : (Try.prog.info? 187).map (fun i => (i.zero, i.size, i.bytes)) = some (some (.string ByteArray.empty), 1, 16) := by kernel_rfl
theorem a187 : (Try.prog.info? 187).map (·.zero) = some (some (.string ByteArray.empty)) := by kernel_rfl
theorem o187 : (Value.cells (.string ByteArray.empty)).size = 1 ∧ ∀ (i : Nat) (u : Value), (Value.cells (.string ByteArray.empty))[i]? = some u → u.oneCell' = true := ⟨rfl, ones_of rfl⟩
theorem z190 : (Try.prog.info? 190).map (·.size) = some 1 := by kernel_rfl
theorem i190 : (Try.prog.info? 190).map (fun i => (i.zero, i.size, i.bytes)) = some (some (.slice none 0 0), 1, 24) := by kernel_rfl
theorem a190 : (Try.prog.info? 190).map (·.zero) = some (some (.slice none 0 0)) := by kernel_rfl
theorem o190 : (Value.cells (.slice none 0 0)).size = 1 ∧ ∀ (i : Nat) (u : Value), (Value.cells (.slice none 0 0))[i]? = some u → u.oneCell' = true := ⟨rfl, ones_of rfl⟩
theorem z192 : (Try.prog.info? 192).map (·.size) = some 1 := by kernel_rfl
theorem i192 : (Try.prog.info? 192).map (fun i => (i.zero, i.size, i.bytes)) = some (some (.int .u64 0), 1, 8) := by kernel_rfl
theorem a192 : (Try.prog.info? 192).map (·.zero) = some (some (.int .u64 0)) := by kernel_rfl
theorem o192 : (Value.cells (.int .u64 0)).size = 1 ∧ ∀ (i : Nat) (u : Value), (Value.cells (.int .u64 0))[i]? = some u → u.oneCell' = true := ⟨rfl, ones_of rfl⟩
theorem z196 : (Try.prog.info? 196).map (·.size) = some 1 := by kernel_rfl
theorem i196 : (Try.prog.info? 196).map (fun i => (i.zero, i.size, i.bytes)) = some (some (.slice none 0 0), 1, 24) := by kernel_rfl
theorem a196 : (Try.prog.info? 196).map (·.zero) = some (some (.slice none 0 0)) := by kernel_rfl
theorem o196 : (Value.cells (.slice none 0 0)).size = 1 ∧ ∀ (i : Nat) (u : Value), (Value.cells (.slice none 0 0))[i]? = some u → u.oneCell' = true := ⟨rfl, ones_of rfl⟩
theorem z210 : (Try.prog.info? 210).map (·.size) = some 3 := by kernel_rfl
theorem i210 : (Try.prog.info? 210).map (fun i => (i.zero, i.size, i.bytes)) = some (some (.agg #[.int .i64 0, .int .i64 0, .int .i64 0]), 3, 24) := by kernel_rfl
theorem a210 : (Try.prog.info? 210).map (·.zero) = some (some (.agg #[.int .i64 0, .int .i64 0, .int .i64 0])) := by kernel_rfl
theorem o210 : (Value.cells (.agg #[.int .i64 0, .int .i64 0, .int .i64 0])).size = 3 ∧ ∀ (i : Nat) (u : Value), (Value.cells (.agg #[.int .i64 0, .int .i64 0, .int .i64 0]))[i]? = some u → u.oneCell' = true := ⟨rfl, ones_of rfl⟩
theorem z211 : (Try.prog.info? 211).map (·.size) = some 3 := by kernel_rfl
theorem i211 : (Try.prog.info? 211).map (fun i => (i.zero, i.size, i.bytes)) = some (some (.agg #[.int .i64 0, .int .i64 0, .int .i64 0]), 3, 24) := by kernel_rfl
theorem a211 : (Try.prog.info? 211).map (·.zero) = some (some (.agg #[.int .i64 0, .int .i64 0, .int .i64 0])) := by kernel_rfl
theorem o211 : (Value.cells (.agg #[.int .i64 0, .int .i64 0, .int .i64 0])).size = 3 ∧ ∀ (i : Nat) (u : Value), (Value.cells (.agg #[.int .i64 0, .int .i64 0, .int .i64 0]))[i]? = some u → u.oneCell' = true := ⟨rfl, ones_of rfl⟩
theorem z217 : (Try.prog.info? 217).map (·.size) = some 2 := by kernel_rfl
theorem i217 : (Try.prog.info? 217).map (fun i => (i.zero, i.size, i.bytes)) = some (some (.agg #[.slice none 0 0, .int .i64 0]), 2, 32) := by kernel_rfl
theorem a217 : (Try.prog.info? 217).map (·.zero) = some (some (.agg #[.slice none 0 0, .int .i64 0])) := by kernel_rfl
theorem o217 : (Value.cells (.agg #[.slice none 0 0, .int .i64 0])).size = 2 ∧ ∀ (i : Nat) (u : Value), (Value.cells (.agg #[.slice none 0 0, .int .i64 0]))[i]? = some u → u.oneCell' = true := ⟨rfl, ones_of rfl⟩
theorem z221 : (Try.prog.info? 221).map (·.size) = some 1 := by kernel_rfl
theorem i221 : (Try.prog.info? 221).map (fun i => (i.zero, i.size, i.bytes)) = some (some (.nilIface), 1, 16) := by kernel_rfl
theorem a221 : (Try.prog.info? 221).map (·.zero) = some (some (.nilIface)) := by kernel_rfl
theorem o221 : (Value.cells (.nilIface)).size = 1 ∧ ∀ (i : Nat) (u : Value), (Value.cells (.nilIface))[i]? = some u → u.oneCell' = true := ⟨rfl, ones_of rfl⟩
theorem z222 : (Try.prog.info? 222).map (·.size) = some 1 := by kernel_rfl
theorem i222 : (Try.prog.info? 222).map (fun i => (i.zero, i.size, i.bytes)) = some (some (.nilIface), 1, 16) := by kernel_rfl
theorem a222 : (Try.prog.info? 222).map (·.zero) = some (some (.nilIface)) := by kernel_rfl
theorem o222 : (Value.cells (.nilIface)).size = 1 ∧ ∀ (i : Nat) (u : Value), (Value.cells (.nilIface))[i]? = some u → u.oneCell' = true := ⟨rfl, ones_of rfl⟩
theorem z235 : (Try.prog.info? 235).map (·.size) = some 1 := by kernel_rfl
theorem i235 : (Try.prog.info? 235).map (fun i => (i.zero, i.size, i.bytes)) = some (some (.int .i64 0), 1, 8) := by kernel_rfl
theorem a235 : (Try.prog.info? 235).map (·.zero) = some (some (.int .i64 0)) := by kernel_rfl
theorem o235 : (Value.cells (.int .i64 0)).size = 1 ∧ ∀ (i : Nat) (u : Value), (Value.cells (.int .i64 0))[i]? = some u → u.oneCell' = true := ⟨rfl, ones_of rfl⟩
theorem z243 : (Try.prog.info? 243).map (·.size) = some 1 := by kernel_rfl
theorem i243 : (Try.prog.info? 243).map (fun i => (i.zero, i.size, i.bytes)) = some (some (.int .u32 0), 1, 4) := by kernel_rfl
theorem a243 : (Try.prog.info? 243).map (·.zero) = some (some (.int .u32 0)) := by kernel_rfl
theorem o243 : (Value.cells (.int .u32 0)).size = 1 ∧ ∀ (i : Nat) (u : Value), (Value.cells (.int .u32 0))[i]? = some u → u.oneCell' = true := ⟨rfl, ones_of rfl⟩
theorem z245 : (Try.prog.info? 245).map (·.size) = some 1 := by kernel_rfl
theorem i245 : (Try.prog.info? 245).map (fun i => (i.zero, i.size, i.bytes)) = some (some (.int .u64 0), 1, 8) := by kernel_rfl
theorem a245 : (Try.prog.info? 245).map (·.zero) = some (some (.int .u64 0)) := by kernel_rfl
theorem o245 : (Value.cells (.int .u64 0)).size = 1 ∧ ∀ (i : Nat) (u : Value), (Value.cells (.int .u64 0))[i]? = some u → u.oneCell' = true := ⟨rfl, ones_of rfl⟩
theorem z249 : (Try.prog.info? 249).map (·.size) = some 1 := by kernel_rfl
theorem i249 : (Try.prog.info? 249).map (fun i => (i.zero, i.size, i.bytes)) = some (some (.int .u64 0), 1, 8) := by kernel_rfl
theorem a249 : (Try.prog.info? 249).map (·.zero) = some (some (.int .u64 0)) := by kernel_rfl
theorem o249 : (Value.cells (.int .u64 0)).size = 1 ∧ ∀ (i : Nat) (u : Value), (Value.cells (.int .u64 0))[i]? = some u → u.oneCell' = true := ⟨rfl, ones_of rfl⟩
theorem z253 : (Try.prog.info? 253).map (·.size) = some 1 := by kernel_rfl
theorem i253 : (Try.prog.info? 253).map (fun i => (i.zero, i.size, i.bytes)) = some (some (.pointer none), 1, 8) := by kernel_rfl
theorem a253 : (Try.prog.info? 253).map (·.zero) = some (some (.pointer none)) := by kernel_rfl
theorem o253 : (Value.cells (.pointer none)).size = 1 ∧ ∀ (i : Nat) (u : Value), (Value.cells (.pointer none))[i]? = some u → u.oneCell' = true := ⟨rfl, ones_of rfl⟩
theorem z256 : (Try.prog.info? 256).map (·.size) = some 1 := by kernel_rfl
theorem i256 : (Try.prog.info? 256).map (fun i => (i.zero, i.size, i.bytes)) = some (some (.slice none 0 0), 1, 24) := by kernel_rfl
theorem a256 : (Try.prog.info? 256).map (·.zero) = some (some (.slice none 0 0)) := by kernel_rfl
theorem o256 : (Value.cells (.slice none 0 0)).size = 1 ∧ ∀ (i : Nat) (u : Value), (Value.cells (.slice none 0 0))[i]? = some u → u.oneCell' = true := ⟨rfl, ones_of rfl⟩
theorem z260 : (Try.prog.info? 260).map (·.size) = some 1 := by kernel_rfl
theorem i260 : (Try.prog.info? 260).map (fun i => (i.zero, i.size, i.bytes)) = some (some (.pointer none), 1, 8) := by kernel_rfl
theorem a260 : (Try.prog.info? 260).map (·.zero) = some (some (.pointer none)) := by kernel_rfl
theorem o260 : (Value.cells (.pointer none)).size = 1 ∧ ∀ (i : Nat) (u : Value), (Value.cells (.pointer none))[i]? = some u → u.oneCell' = true := ⟨rfl, ones_of rfl⟩
theorem z263 : (Try.prog.info? 263).map (·.size) = some 4 := by kernel_rfl
theorem i263 : (Try.prog.info? 263).map (fun i => (i.zero, i.size, i.bytes)) = some (some (.agg #[.pointer none, .pointer none, .pointer none, .string ByteArray.empty]), 4, 40) := by kernel_rfl
theorem a263 : (Try.prog.info? 263).map (·.zero) = some (some (.agg #[.pointer none, .pointer none, .pointer none, .string ByteArray.empty])) := by kernel_rfl
theorem o263 : (Value.cells (.agg #[.pointer none, .pointer none, .pointer none, .string ByteArray.empty])).size = 4 ∧ ∀ (i : Nat) (u : Value), (Value.cells (.agg #[.pointer none, .pointer none, .pointer none, .string ByteArray.empty]))[i]? = some u → u.oneCell' = true := ⟨rfl, ones_of rfl⟩
theorem z264 : (Try.prog.info? 264).map (·.size) = some 4 := by kernel_rfl
theorem i264 : (Try.prog.info? 264).map (fun i => (i.zero, i.size, i.bytes)) = some (some (.agg #[.pointer none, .pointer none, .pointer none, .string ByteArray.empty]), 4, 40) := by kernel_rfl
theorem a264 : (Try.prog.info? 264).map (·.zero) = some (some (.agg #[.pointer none, .pointer none, .pointer none, .string ByteArray.empty])) := by kernel_rfl
theorem o264 : (Value.cells (.agg #[.pointer none, .pointer none, .pointer none, .string ByteArray.empty])).size = 4 ∧ ∀ (i : Nat) (u : Value), (Value.cells (.agg #[.pointer none, .pointer none, .pointer none, .string ByteArray.empty]))[i]? = some u → u.oneCell' = true := ⟨rfl, ones_of rfl⟩
theorem z265 : (Try.prog.info? 265).map (·.size) = some 0 := by kernel_rfl
theorem i265 : (Try.prog.info? 265).map (fun i => (i.zero, i.size, i.bytes)) = some (some (.agg #[]), 0, 0) := by kernel_rfl
theorem a265 : (Try.prog.info? 265).map (·.zero) = some (some (.agg #[])) := by kernel_rfl
theorem o265 : (Value.cells (.agg #[])).size = 0 ∧ ∀ (i : Nat) (u : Value), (Value.cells (.agg #[]))[i]? = some u → u.oneCell' = true := ⟨rfl, ones_of rfl⟩
theorem z266 : (Try.prog.info? 266).map (·.size) = some 0 := by kernel_rfl
theorem i266 : (Try.prog.info? 266).map (fun i => (i.zero, i.size, i.bytes)) = some (some (.agg #[]), 0, 0) := by kernel_rfl
theorem a266 : (Try.prog.info? 266).map (·.zero) = some (some (.agg #[])) := by kernel_rfl
theorem o266 : (Value.cells (.agg #[])).size = 0 ∧ ∀ (i : Nat) (u : Value), (Value.cells (.agg #[]))[i]? = some u → u.oneCell' = true := ⟨rfl, ones_of rfl⟩
theorem z267 : (Try.prog.info? 267).map (·.size) = some 0 := by kernel_rfl
theorem i267 : (Try.prog.info? 267).map (fun i => (i.zero, i.size, i.bytes)) = some (some (.agg #[]), 0, 0) := by kernel_rfl
theorem a267 : (Try.prog.info? 267).map (·.zero) = some (some (.agg #[])) := by kernel_rfl
theorem o267 : (Value.cells (.agg #[])).size = 0 ∧ ∀ (i : Nat) (u : Value), (Value.cells (.agg #[]))[i]? = some u → u.oneCell' = true := ⟨rfl, ones_of rfl⟩
theorem z268 : (Try.prog.info? 268).map (·.size) = some 1 := by kernel_rfl
theorem i268 : (Try.prog.info? 268).map (fun i => (i.zero, i.size, i.bytes)) = some (some (.int .u8 0), 1, 1) := by kernel_rfl
theorem a268 : (Try.prog.info? 268).map (·.zero) = some (some (.int .u8 0)) := by kernel_rfl
theorem o268 : (Value.cells (.int .u8 0)).size = 1 ∧ ∀ (i : Nat) (u : Value), (Value.cells (.int .u8 0))[i]? = some u → u.oneCell' = true := ⟨rfl, ones_of rfl⟩
theorem z269 : (Try.prog.info? 269).map (·.size) = some 1 := by kernel_rfl
theorem i269 : (Try.prog.info? 269).map (fun i => (i.zero, i.size, i.bytes)) = some (some (.int .u8 0), 1, 1) := by kernel_rfl
theorem a269 : (Try.prog.info? 269).map (·.zero) = some (some (.int .u8 0)) := by kernel_rfl
theorem o269 : (Value.cells (.int .u8 0)).size = 1 ∧ ∀ (i : Nat) (u : Value), (Value.cells (.int .u8 0))[i]? = some u → u.oneCell' = true := ⟨rfl, ones_of rfl⟩
theorem z271 : (Try.prog.info? 271).map (·.size) = some 1 := by kernel_rfl
theorem i271 : (Try.prog.info? 271).map (fun i => (i.zero, i.size, i.bytes)) = some (some (.pointer none), 1, 8) := by kernel_rfl
theorem a271 : (Try.prog.info? 271).map (·.zero) = some (some (.pointer none)) := by kernel_rfl
theorem o271 : (Value.cells (.pointer none)).size = 1 ∧ ∀ (i : Nat) (u : Value), (Value.cells (.pointer none))[i]? = some u → u.oneCell' = true := ⟨rfl, ones_of rfl⟩
theorem z272 : (Try.prog.info? 272).map (·.size) = some 1 := by kernel_rfl
theorem i272 : (Try.prog.info? 272).map (fun i => (i.zero, i.size, i.bytes)) = some (some (.int .i32 0), 1, 4) := by kernel_rfl
theorem a272 : (Try.prog.info? 272).map (·.zero) = some (some (.int .i32 0)) := by kernel_rfl
theorem o272 : (Value.cells (.int .i32 0)).size = 1 ∧ ∀ (i : Nat) (u : Value), (Value.cells (.int .i32 0))[i]? = some u → u.oneCell' = true := ⟨rfl, ones_of rfl⟩
theorem z273 : (Try.prog.info? 273).map (·.size) = some 1 := by kernel_rfl
theorem i273 : (Try.prog.info? 273).map (fun i => (i.zero, i.size, i.bytes)) = some (some (.int .i32 0), 1, 4) := by kernel_rfl
theorem a273 : (Try.prog.info? 273).map (·.zero) = some (some (.int .i32 0)) := by kernel_rfl
theorem o273 : (Value.cells (.int .i32 0)).size = 1 ∧ ∀ (i : Nat) (u : Value), (Value.cells (.int .i32 0))[i]? = some u → u.oneCell' = true := ⟨rfl, ones_of rfl⟩
theorem z274 : (Try.prog.info? 274).map (·.size) = some 11 := by kernel_rfl
theorem i274 : (Try.prog.info? 274).map (fun i => (i.zero, i.size, i.bytes)) = some (some (.agg #[.int .u64 0, .int .u64 0, .int .u32 0, .int .u8 0, .int .u8 0, .int .u8 0, .int .u8 0, .nilFunc, .pointer none, .int .i32 0, .int .i32 0]), 11, 48) := by kernel_rfl
theorem a274 : (Try.prog.info? 274).map (·.zero) = some (some (.agg #[.int .u64 0, .int .u64 0, .int .u32 0, .int .u8 0, .int .u8 0, .int .u8 0, .int .u8 0, .nilFunc, .pointer none, .int .i32 0, .int .i32 0])) := by kernel_rfl
theorem o274 : (Value.cells (.agg #[.int .u64 0, .int .u64 0, .int .u32 0, .int .u8 0, .int .u8 0, .int .u8 0, .int .u8 0, .nilFunc, .pointer none, .int .i32 0, .int .i32 0])).size = 11 ∧ ∀ (i : Nat) (u : Value), (Value.cells (.agg #[.int .u64 0, .int .u64 0, .int .u32 0, .int .u8 0, .int .u8 0, .int .u8 0, .int .u8 0, .nilFunc, .pointer none, .int .i32 0, .int .i32 0]))[i]? = some u → u.oneCell' = true := ⟨rfl, ones_of rfl⟩
theorem z275 : (Try.prog.info? 275).map (·.size) = some 11 := by kernel_rfl
theorem i275 : (Try.prog.info? 275).map (fun i => (i.zero, i.size, i.bytes)) = some (some (.agg #[.int .u64 0, .int .u64 0, .int .u32 0, .int .u8 0, .int .u8 0, .int .u8 0, .int .u8 0, .nilFunc, .pointer none, .int .i32 0, .int .i32 0]), 11, 48) := by kernel_rfl
theorem a275 : (Try.prog.info? 275).map (·.zero) = some (some (.agg #[.int .u64 0, .int .u64 0, .int .u32 0, .int .u8 0, .int .u8 0, .int .u8 0, .int .u8 0, .nilFunc, .pointer none, .int .i32 0, .int .i32 0])) := by kernel_rfl
theorem o275 : (Value.cells (.agg #[.int .u64 0, .int .u64 0, .int .u32 0, .int .u8 0, .int .u8 0, .int .u8 0, .int .u8 0, .nilFunc, .pointer none, .int .i32 0, .int .i32 0])).size = 11 ∧ ∀ (i : Nat) (u : Value), (Value.cells (.agg #[.int .u64 0, .int .u64 0, .int .u32 0, .int .u8 0, .int .u8 0, .int .u8 0, .int .u8 0, .nilFunc, .pointer none, .int .i32 0, .int .i32 0]))[i]? = some u → u.oneCell' = true := ⟨rfl, ones_of rfl⟩
theorem z277 : (Try.prog.info? 277).map (·.size) = some 1 := by kernel_rfl
theorem i277 : (Try.prog.info? 277).map (fun i => (i.zero, i.size, i.bytes)) = some (some (.pointer none), 1, 8) := by kernel_rfl
theorem a277 : (Try.prog.info? 277).map (·.zero) = some (some (.pointer none)) := by kernel_rfl
theorem o277 : (Value.cells (.pointer none)).size = 1 ∧ ∀ (i : Nat) (u : Value), (Value.cells (.pointer none))[i]? = some u → u.oneCell' = true := ⟨rfl, ones_of rfl⟩
end Go.Proofs.Ytloddmbbfkejcaa.Abs
