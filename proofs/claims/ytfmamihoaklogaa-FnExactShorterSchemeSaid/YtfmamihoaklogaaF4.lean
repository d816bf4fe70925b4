/- Codes of faults; what is asked of families and shares, both sides (used by the claims of this seat). -/
import Derived.Test.YtfmamihoaklogaaL0
import Derived.Test.YtfmamihoaklogaaW1
import Derived.Test.YtfmamihoaklogaaTs
namespace Go.Proofs.Ytfmamihoaklogaa.T
open Go.RowKit
set_option linter.unusedVariables false
set_option maxRecDepth 100000
set_option maxHeartbeats 4000000

theorem okFam_true {s : Int} {x : Nat} (h : okFam s x = true) : ∃ n : Nat, s = (n : Int) ∧ 1 ≤ n ∧ n ≤ 6 ∧ famOk n x = true := by
  by_cases hs : 1 ≤ s ∧ s ≤ 6
  · obtain ⟨n, rfl⟩ := Int.eq_ofNat_of_zero_le (show 0 ≤ s by omega)
    refine ⟨n, rfl, by omega, by omega, ?_⟩
    rw [← okFam_in (n := n) (by omega) (by omega)]
    exact h
  · rw [okFam_out hs] at h
    cases h
theorem shr8 (x n : Nat) : ((x : Int) / 2 ^ min ((n : Nat) : Int).toNat IntKind.u8.bits == 0) = decide (x < 2 ^ min n 8) := by
  have e : min ((n : Nat) : Int).toNat IntKind.u8.bits = min n 8 := rfl
  rw [e]
  generalize min n 8 = k
  have hpos : 1 ≤ 2 ^ k := Nat.one_le_two_pow
  have : ((x : Int) / 2 ^ k) = ((x / 2 ^ k : Nat) : Int) := by simp
  rw [this, Bool.eq_iff_iff, beq_iff_eq, decide_eq_true_eq]
  constructor
  · intro h0
    have h1 : x / 2 ^ k = 0 := by exact_mod_cast h0
    exact (Nat.div_eq_zero_iff.1 h1).resolve_left (by omega)
  · intro h0
    rw [Nat.div_eq_of_lt h0]
    rfl
theorem isSetOf_fn (x n : Nat) : Fn Try.prog 54 #[.int .u8 (x : Int), .int .i64 (n : Int)] tt (.bool (decide (x < 2 ^ min n 8))) := by
  refine fn_of_W (rs := [.tmp 4]) Try.func54 Try.ntmps54 (by kernel_rfl) rfl rfl rfl ?_
  have hu5 := Try.underlying5
  have hz5 := T.pos5
  have hs5 := T.sz5
  intro w hw
  repeat (first | refine W.seq ?_ | refine W.region ?_ | refine W.block ?_ | refine W.skip ?_ | refine W.exit ?_ | refine Wl.nil ?_ | refine Wl.yg rfl rfl rfl (by first | exact Y.move (by conv => lhs; whnf) | exact Y.assign (by conv => lhs; whnf) | exact Y.load_i rfl (by assumption) rfl (by repeat first | exact List.Mem.head _ | apply List.Mem.tail) rfl | exact Y.fld rfl (by assumption) rfl (by assumption) | exact Y.bin_e rfl rfl rfl (by assumption) | exact Y.and_e rfl rfl (by assumption) | exact Y.or_e rfl rfl (by assumption) | exact Y.shr_e rfl rfl (by first | decide | exact Int.natCast_nonneg _ | assumption) (by assumption) | exact Y.shl_e rfl rfl (by first | decide | exact Int.natCast_nonneg _ | assumption) (by assumption) | exact Y.bin rfl rfl rfl | exact Y.conv_e rfl (by assumption) (by assumption) (by assumption) | exact Y.conv rfl (by assumption) (by assumption) | exact Y.not rfl | exact Y.nil rfl | exact Y.load_b rfl (by assumption) rfl (by repeat first | exact List.Mem.head _ | apply List.Mem.tail) rfl | exact Y.load rfl (by assumption) rfl (by repeat first | exact List.Mem.head _ | apply List.Mem.tail) rfl | exact Y.loadG rfl (by assumption) rfl (by repeat first | exact List.Mem.head _ | apply List.Mem.tail) (by first | assumption | (simp only [*]; done)) | exact Y.load0 rfl (by assumption) rfl (by assumption) rfl | exact Y.loadG0 rfl (by assumption) rfl (by assumption) (by first | assumption | (simp only [*]; done)) | exact Y.extractL rfl (by conv => lhs; whnf) | exact Y.len_l rfl rfl (by assumption) | exact Y.len_s rfl rfl (by assumption) | exact Y.max_i rfl rfl | exact Y.min_i rfl rfl | exact Y.pick_t rfl (by conv => lhs; whnf) | exact Y.pick_f rfl (by conv => lhs; whnf) | exact Y.eql_b rfl rfl (by assumption) | exact Y.neq_b rfl rfl (by assumption) | exact Y.eql_s rfl rfl | exact Y.neq_s rfl rfl | exact Y.func rfl rfl) ?_ | refine Wl.off rfl rfl rfl ?_)
  refine Wl.y rfl rfl rfl (Y.shr rfl rfl (Int.natCast_nonneg _)) ?_
  repeat (first | refine W.seq ?_ | refine W.region ?_ | refine W.block ?_ | refine W.skip ?_ | refine W.exit ?_ | refine Wl.nil ?_ | refine Wl.yg rfl rfl rfl (by first | exact Y.move (by conv => lhs; whnf) | exact Y.assign (by conv => lhs; whnf) | exact Y.load_i rfl (by assumption) rfl (by repeat first | exact List.Mem.head _ | apply List.Mem.tail) rfl | exact Y.fld rfl (by assumption) rfl (by assumption) | exact Y.bin_e rfl rfl rfl (by assumption) | exact Y.and_e rfl rfl (by assumption) | exact Y.or_e rfl rfl (by assumption) | exact Y.shr_e rfl rfl (by first | decide | exact Int.natCast_nonneg _ | assumption) (by assumption) | exact Y.shl_e rfl rfl (by first | decide | exact Int.natCast_nonneg _ | assumption) (by assumption) | exact Y.bin rfl rfl rfl | exact Y.conv_e rfl (by assumption) (by assumption) (by assumption) | exact Y.conv rfl (by assumption) (by assumption) | exact Y.not rfl | exact Y.nil rfl | exact Y.load_b rfl (by assumption) rfl (by repeat first | exact List.Mem.head _ | apply List.Mem.tail) rfl | exact Y.load rfl (by assumption) rfl (by repeat first | exact List.Mem.head _ | apply List.Mem.tail) rfl | exact Y.loadG rfl (by assumption) rfl (by repeat first | exact List.Mem.head _ | apply List.Mem.tail) (by first | assumption | (simp only [*]; done)) | exact Y.load0 rfl (by assumption) rfl (by assumption) rfl | exact Y.loadG0 rfl (by assumption) rfl (by assumption) (by first | assumption | (simp only [*]; done)) | exact Y.extractL rfl (by conv => lhs; whnf) | exact Y.len_l rfl rfl (by assumption) | exact Y.len_s rfl rfl (by assumption) | exact Y.max_i rfl rfl | exact Y.min_i rfl rfl | exact Y.pick_t rfl (by conv => lhs; whnf) | exact Y.pick_f rfl (by conv => lhs; whnf) | exact Y.eql_b rfl rfl (by assumption) | exact Y.neq_b rfl rfl (by assumption) | exact Y.eql_s rfl rfl | exact Y.neq_s rfl rfl | exact Y.func rfl rfl) ?_ | refine Wl.off rfl rfl rfl ?_)
  (refine W.ret ?_; first | refine Rt.b1 rfl ?_ | refine Rt.i1 rfl ?_)
  exact shr8 x n
end Go.Proofs.Ytfmamihoaklogaa.T
