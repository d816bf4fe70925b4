/- Bits of a byte counted by the table of the library (used by the claims of this seat). -/
import Derived.Test.YtfmamihoaklogaaTy
import Derived.Test.YtfmamihoaklogaaCh
import Derived.Test.YtfmamihoaklogaaAa
import Derived.Test.YtfmamihoaklogaaPc
namespace Go.Proofs.Ytfmamihoaklogaa.T
open Go.RowKit
set_option linter.unusedVariables false
set_option maxRecDepth 100000
set_option maxHeartbeats 4000000

def tab8 : ByteArray := ⟨#[0, 1, 1, 2, 1, 2, 2, 3, 1, 2, 2, 3, 2, 3, 3, 4, 1, 2, 2, 3, 2, 3, 3, 4, 2, 3, 3, 4, 3, 4, 4, 5, 1, 2, 2, 3, 2, 3, 3, 4, 2, 3, 3, 4, 3, 4, 4, 5, 2, 3, 3, 4, 3, 4, 4, 5, 3, 4, 4, 5, 4, 5, 5, 6, 1, 2, 2, 3, 2, 3, 3, 4, 2, 3, 3, 4, 3, 4, 4, 5, 2, 3, 3, 4, 3, 4, 4, 5, 3, 4, 4, 5, 4, 5, 5, 6, 2, 3, 3, 4, 3, 4, 4, 5, 3, 4, 4, 5, 4, 5, 5, 6, 3, 4, 4, 5, 4, 5, 5, 6, 4, 5, 5, 6, 5, 6, 6, 7, 1, 2, 2, 3, 2, 3, 3, 4, 2, 3, 3, 4, 3, 4, 4, 5, 2, 3, 3, 4, 3, 4, 4, 5, 3, 4, 4, 5, 4, 5, 5, 6, 2, 3, 3, 4, 3, 4, 4, 5, 3, 4, 4, 5, 4, 5, 5, 6, 3, 4, 4, 5, 4, 5, 5, 6, 4, 5, 5, 6, 5, 6, 6, 7, 2, 3, 3, 4, 3, 4, 4, 5, 3, 4, 4, 5, 4, 5, 5, 6, 3, 4, 4, 5, 4, 5, 5, 6, 4, 5, 5, 6, 5, 6, 6, 7, 3, 4, 4, 5, 4, 5, 5, 6, 4, 5, 5, 6, 5, 6, 6, 7, 4, 5, 5, 6, 5, 6, 6, 7, 5, 6, 6, 7, 6, 7, 7, 8]⟩
theorem tab8_all : (List.range 256).all (fun i => Nat.beq (ch tab8 i) (pc 8 i)) = true := by decide +kernel
theorem tab8_get {i : Nat} (hi : i < 256) : ch tab8 i = pc 8 i := Nat.eq_of_beq_eq_true (List.all_eq_true.1 tab8_all i (List.mem_range.2 hi))
theorem tab8_size : tab8.size = 256 := by decide +kernel
theorem pc_small {x : Nat} (h : x < 256) : pc 64 x = pc 8 x := by
  rw [pc8 x 56, Nat.div_eq_of_lt h, Nat.mod_eq_of_lt h, pc_zero]
  rfl
theorem pc_pos : ∀ n k, k ≠ 0 → k < 2 ^ n → 0 < pc n k
  | 0, k, h, hk => by
    simp at hk
    omega
  | n + 1, k, h, hk => by
    simp only [pc]
    by_cases h2 : k / 2 = 0
    · have : k % 2 = 1 := by omega
      omega
    · have := pc_pos n (k / 2) h2 (by rw [Nat.pow_succ] at hk; omega)
      omega
theorem onesCount8_fn {x : Nat} (hx : x < 256) : Fn Try.prog 87 #[.int .u8 (x : Int)] tt (.int .i64 ((pc 64 x : Nat) : Int)) := by
  have hb := tab8_get hx
  have h8 := pc_le 8 x
  have hsz := tab8_size
  have e1 : IntKind.i64.wrap ((pc 8 x : Nat) : Int) = ((pc 8 x : Nat) : Int) := wrap_i64 (by omega) (by omega)
  refine fn_of_W (rs := [.tmp 2]) Try.func87 Try.ntmps87 (by kernel_rfl) rfl rfl rfl ?_
  have hu3 := Try.underlying3
  have hz3 := T.pos3
  have hs3 := T.sz3
  have hu5 := Try.underlying5
  have hz5 := T.pos5
  have hs5 := T.sz5
  have hu9 := Try.underlying9
  have hz9 := T.pos9
  have hs9 := T.sz9
  intro w hw
  repeat (first | refine W.seq ?_ | refine W.region ?_ | refine W.block ?_ | refine W.skip ?_ | refine W.exit ?_ | refine Wl.nil ?_ | refine Wl.yg rfl rfl rfl (by first | exact Y.move (by conv => lhs; whnf) | exact Y.assign (by conv => lhs; whnf) | exact Y.load_i rfl (by assumption) rfl (by repeat first | exact List.Mem.head _ | apply List.Mem.tail) rfl | exact Y.fld rfl (by assumption) rfl (by assumption) | exact Y.bin_e rfl rfl rfl (by assumption) | exact Y.and_e rfl rfl (by assumption) | exact Y.or_e rfl rfl (by assumption) | exact Y.shr_e rfl rfl (by first | decide | exact Int.natCast_nonneg _ | assumption) (by assumption) | exact Y.shl_e rfl rfl (by first | decide | exact Int.natCast_nonneg _ | assumption) (by assumption) | exact Y.bin rfl rfl rfl | exact Y.conv_e rfl (by assumption) (by assumption) (by assumption) | exact Y.conv rfl (by assumption) (by assumption) | exact Y.not rfl | exact Y.nil rfl | exact Y.load_b rfl (by assumption) rfl (by repeat first | exact List.Mem.head _ | apply List.Mem.tail) rfl | exact Y.load rfl (by assumption) rfl (by repeat first | exact List.Mem.head _ | apply List.Mem.tail) rfl | exact Y.loadG rfl (by assumption) rfl (by repeat first | exact List.Mem.head _ | apply List.Mem.tail) (by first | assumption | (simp only [*]; done)) | exact Y.load0 rfl (by assumption) rfl (by assumption) rfl | exact Y.loadG0 rfl (by assumption) rfl (by assumption) (by first | assumption | (simp only [*]; done)) | exact Y.extractL rfl (by conv => lhs; whnf) | exact Y.len_l rfl rfl (by assumption) | exact Y.len_s rfl rfl (by assumption) | exact Y.max_i rfl rfl | exact Y.min_i rfl rfl | exact Y.pick_t rfl (by conv => lhs; whnf) | exact Y.pick_f rfl (by conv => lhs; whnf) | exact Y.eql_b rfl rfl (by assumption) | exact Y.neq_b rfl rfl (by assumption) | exact Y.eql_s rfl rfl | exact Y.neq_s rfl rfl | exact Y.func rfl rfl) ?_ | refine Wl.off rfl rfl rfl ?_)
  refine Wl.y rfl rfl rfl ((Y.indexCh (s := tab8) (i := x) rfl rfl (by assumption) (by omega)).cast (congrArg (fun z : Nat => Value.int .u8 (z : Int)) hb)) ?_
  repeat (first | refine W.seq ?_ | refine W.region ?_ | refine W.block ?_ | refine W.skip ?_ | refine W.exit ?_ | refine Wl.nil ?_ | refine Wl.yg rfl rfl rfl (by first | exact Y.move (by conv => lhs; whnf) | exact Y.assign (by conv => lhs; whnf) | exact Y.load_i rfl (by assumption) rfl (by repeat first | exact List.Mem.head _ | apply List.Mem.tail) rfl | exact Y.fld rfl (by assumption) rfl (by assumption) | exact Y.bin_e rfl rfl rfl (by assumption) | exact Y.and_e rfl rfl (by assumption) | exact Y.or_e rfl rfl (by assumption) | exact Y.shr_e rfl rfl (by first | decide | exact Int.natCast_nonneg _ | assumption) (by assumption) | exact Y.shl_e rfl rfl (by first | decide | exact Int.natCast_nonneg _ | assumption) (by assumption) | exact Y.bin rfl rfl rfl | exact Y.conv_e rfl (by assumption) (by assumption) (by assumption) | exact Y.conv rfl (by assumption) (by assumption) | exact Y.not rfl | exact Y.nil rfl | exact Y.load_b rfl (by assumption) rfl (by repeat first | exact List.Mem.head _ | apply List.Mem.tail) rfl | exact Y.load rfl (by assumption) rfl (by repeat first | exact List.Mem.head _ | apply List.Mem.tail) rfl | exact Y.loadG rfl (by assumption) rfl (by repeat first | exact List.Mem.head _ | apply List.Mem.tail) (by first | assumption | (simp only [*]; done)) | exact Y.load0 rfl (by assumption) rfl (by assumption) rfl | exact Y.loadG0 rfl (by assumption) rfl (by assumption) (by first | assumption | (simp only [*]; done)) | exact Y.extractL rfl (by conv => lhs; whnf) | exact Y.len_l rfl rfl (by assumption) | exact Y.len_s rfl rfl (by assumption) | exact Y.max_i rfl rfl | exact Y.min_i rfl rfl | exact Y.pick_t rfl (by conv => lhs; whnf) | exact Y.pick_f rfl (by conv => lhs; whnf) | exact Y.eql_b rfl rfl (by assumption) | exact Y.neq_b rfl rfl (by assumption) | exact Y.eql_s rfl rfl | exact Y.neq_s rfl rfl | exact Y.func rfl rfl) ?_ | refine Wl.off rfl rfl rfl ?_)
  (refine W.ret ?_; first | refine Rt.b1 rfl ?_ | refine Rt.i1 rfl ?_)
  rw [pc_small hx]
end Go.Proofs.Ytfmamihoaklogaa.T
