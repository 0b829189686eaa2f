/-
  What frame.Put and frame.Take, as they are printed, come to: a frame is its length, its sum and its text.
-/
import Derived.Test.YtkipbilnhpeacaaFrameCrc
import Derived.Test.YtkipbilnhpeacaaPFramex1
import Derived.Lib.Bytes
namespace Go.Proofs.Ytkipbilnhpeacaa.FrameP
open Go.RowKit Go.Proofs.Ytkipbilnhpeacaa.PFrame Go.Proofs.YtkipbilnhpeacaaW.PrintWords Go.Proofs.Ytkipbilnhpeacaa.CrcP Go.Proofs.Ytkipbilnhpeacaa.CrcMath
def S (l : List Int) : Int := ((sum (nats (frame_Put.long l ++ l))).toNat : Int)
def frm (l : List Int) : List Int := frame_Put.long l ++ frame_Put.four (S l) ++ l
theorem long_length (l : List Int) : (frame_Put.long l).length = 2 := rfl
theorem four_length (s : Int) : (frame_Put.four s).length = 4 := rfl
theorem frm_length (l : List Int) : (frm l).length = 6 + l.length := by
  unfold frm
  rw [List.length_append, List.length_append, long_length, four_length]
theorem long_bytes (l : List Int) (hl : l.length ≤ 60000) : Bytes (frame_Put.long l) := by
  intro x hx
  simp only [frame_Put.long, List.mem_cons, List.not_mem_nil, or_false] at hx
  rcases hx with rfl | rfl <;> omega
theorem four_bytes (s : Int) : Bytes (frame_Put.four s) := by
  intro x hx
  simp only [frame_Put.four, List.mem_cons, List.not_mem_nil, or_false] at hx
  rcases hx with rfl | rfl | rfl | rfl <;> omega
theorem append_bytes {a b : List Int} (ha : Bytes a) (hb : Bytes b) : Bytes (a ++ b) := fun x hx => (List.mem_append.1 hx).elim (ha x) (hb x)
theorem frm_bytes (l : List Int) (hb : Bytes l) (hl : l.length ≤ 60000) : Bytes (frm l) := append_bytes (append_bytes (long_bytes l hl) (four_bytes _)) hb
theorem put_f (l : List Int) (hb : Bytes l) (hl : l.length ≤ 60000) (k : Nat) (hk : l.length + 20 < k) : frame_Put.f k l = some (frm l, true) := by
  unfold frame_Put.f
  rw [if_neg (by omega), sum_f _ (append_bytes (long_bytes l hl) hb) (by rw [List.length_append, long_length]; omega) k (by rw [List.length_append, long_length]; omega)]
  rfl
theorem str_inj {a b : List Int} (ha : Bytes a) (hb : Bytes b) (h : (strOfNums a).toList = (strOfNums b).toList) : a = b := by
  rw [Lib.strOfNums_toList, Lib.strOfNums_toList] at h
  induction a generalizing b with
  | nil => cases b with
    | nil => rfl
    | cons y b => cases h
  | cons x a ih =>
    cases b with
    | nil => cases h
    | cons y b =>
      have hx := ha x (by simp)
      have hy := hb y (by simp)
      injection h with h1 h2
      have h3 := congrArg UInt8.toNat h1
      rw [UInt8.toNat_ofNat', UInt8.toNat_ofNat'] at h3
      have : x = y := by omega
      rw [this, ih (fun z hz => ha z (by simp [hz])) (fun z hz => hb z (by simp [hz])) h2]
theorem take_f (b : List Int) (hb : Bytes b) (k n : Nat) (h6 : 6 ≤ b.length) (hn : (n : Int) = 6 + 256 * rd b 0 + rd b 1) (hle : n ≤ b.length) (hs : n ≤ 60006) (hk : n + 20 < k) :
    frame_Take.f k b = some (if frm ((b.take n).drop 6) = b.take n then ((b.take n).drop 6, (n : Int), true) else ([], 0, false)) := by
  obtain ⟨x, hx, ex, mx⟩ := rd_at b 0 (by omega) (by omega)
  obtain ⟨y, hy, ey, my⟩ := rd_at b 1 (by omega) (by omega)
  have bx := hb x mx
  have bY := hb y my
  have hE : wrap64 ((wrap64 (6 + (wrap64 ((wrap64 (rd b 0)) * 256)))) + (wrap64 (rd b 1))) = (n : Int) := by
    rw [ex, ey] at hn
    rw [ex, ey]
    have e1 : wrap64 x = x := by unfold wrap64; omega
    have e2 : wrap64 (x * 256) = x * 256 := by unfold wrap64; omega
    have e3 : wrap64 (6 + x * 256) = 6 + x * 256 := by unfold wrap64; omega
    have e4 : wrap64 y = y := by unfold wrap64; omega
    rw [e1, e2, e3, e4]
    unfold wrap64; omega
  have hn6 : 6 ≤ n := by rw [ex, ey] at hn; omega
  have hl : ((b.take n).drop 6).length = n - 6 := by rw [List.length_drop, List.length_take]; omega
  have hbt : Bytes (b.take n) := fun z hz => hb z (List.mem_of_mem_take hz)
  have hbd : Bytes ((b.take n).drop 6) := fun z hz => hbt z (List.mem_of_mem_drop hz)
  have hp := put_f ((b.take n).drop 6) hbd (by omega) k (by omega)
  unfold frame_Take.f
  rw [if_neg (by omega), if_pos (by omega), if_pos (by omega)]
  simp only [hE]
  rw [if_neg (by omega), if_pos (by omega), if_pos (by omega)]
  simp only [Int.toNat_natCast]
  rw [hp]
  simp only [Option.bind_some]
  rw [if_pos trivial, if_pos (by omega)]
  unfold bytes_Equal.f
  simp only [Option.bind_some]
  have hfl : (frm ((b.take n).drop 6)).length = n := by rw [frm_length, hl]; omega
  have hdr : (frm ((b.take n).drop 6)).drop 6 = (b.take n).drop 6 := by
    conv => lhs; unfold frm
    rw [List.drop_append_of_le_length (by rw [List.length_append, long_length, four_length]; omega)]
    rfl
  by_cases e : frm ((b.take n).drop 6) = b.take n
  · rw [if_pos e, if_pos (by rw [e]; exact beq_self_eq_true _), if_pos (by rw [hfl]; omega)]
    rw [show (6 : Int).toNat = 6 from rfl, hdr]
  · rw [if_neg e, if_neg (fun h => e (str_inj (frm_bytes _ hbd (by omega)) hbt (by simpa using h)))]
theorem four_inj {a b : Int} (ha : 0 ≤ a ∧ a < 4294967296) (hb : 0 ≤ b ∧ b < 4294967296) (h : frame_Put.four a = frame_Put.four b) : a = b := by
  simp only [frame_Put.four, List.cons.injEq, and_true] at h
  omega
theorem S_range (l : List Int) : 0 ≤ S l ∧ S l < 4294967296 := by
  unfold S
  have := (sum (nats (frame_Put.long l ++ l))).isLt
  omega
/-- Of a text in which a byte is turned the sum is another one. -/
theorem S_set_ne (l : List Int) (hb : Bytes l) (hl : l.length ≤ 60000) (i : Nat) (c v : Int) (hi : l[i]? = some c) (hv : 0 ≤ v ∧ v < 256) (hne : v ≠ c) : S (l.set i v) ≠ S l := by
  have hc := hb c (List.mem_of_getElem? hi)
  intro h
  unfold S at h
  have h1 : sum (nats (frame_Put.long (l.set i v) ++ l.set i v)) = sum (nats (frame_Put.long l ++ l)) := BitVec.eq_of_toNat_eq (by exact_mod_cast h)
  have e : nats (frame_Put.long (l.set i v) ++ l.set i v) = (nats (frame_Put.long l ++ l)).set (2 + i) v.toNat := by
    have el : frame_Put.long (l.set i v) = frame_Put.long l := by unfold frame_Put.long; rw [List.length_set]
    rw [el]
    unfold nats
    rw [← List.map_set, List.set_append_right _ _ (by rw [long_length]; omega), long_length, show 2 + i - 2 = i from by omega]
  rw [e] at h1
  refine sum_set_ne (nats (frame_Put.long l ++ l)) (2 + i) c.toNat v.toNat ?_ (by omega) (by omega) (by omega) h1
  unfold nats
  rw [List.getElem?_map, List.getElem?_append_right (by rw [long_length]; omega), long_length, show 2 + i - 2 = i from by omega, hi]
  rfl
end Go.Proofs.Ytkipbilnhpeacaa.FrameP
