/- Numbers drawn from a seed, both sides (used by the claims of this seat). -/
import Derived.Test.YtfmamihoaklogaaEx
import Derived.Test.YtfmamihoaklogaaV2
import Derived.Test.YtfmamihoaklogaaTb
namespace Go.Proofs.Ytfmamihoaklogaa.T
open Go.RowKit
set_option linter.unusedVariables false
set_option maxRecDepth 100000
set_option maxHeartbeats 4000000

theorem wrap_u32m (x : Nat) : IntKind.u32.wrap (x : Int) = ((x % 4294967296 : Nat) : Int) := by
  have h : IntKind.u32.wrap (x : Int) = (x : Int) % 4294967296 := by simp [IntKind.wrap, IntKind.signed, IntKind.bits]
  rw [h]
  omega
/-- The seed behind a seed, and the number that is drawn below k. -/
def nxt (s : Nat) : Nat := (1664525 * s % 4294967296 + 1013904223) % 4294967296
def dr (s k : Nat) : Nat := nxt s / 65536 % k
theorem nxt_lt (s : Nat) : nxt s < 4294967296 := Nat.mod_lt _ (by decide)
theorem nxt_mul (s : Nat) : IntKind.u32.wrap (1664525 * (s : Int)) = ((1664525 * s % 4294967296 : Nat) : Int) := by rw [← wrap_u32m]; rfl
theorem nxt_add (s : Nat) : IntKind.u32.wrap (((1664525 * s % 4294967296 : Nat) : Int) + 1013904223) = ((nxt s : Nat) : Int) := by
  unfold nxt
  rw [← wrap_u32m]
  rfl
theorem nxt_shr (y : Nat) : ((y : Nat) : Int) / 2 ^ min ((16 : Int)).toNat IntKind.u32.bits = ((y / 65536 : Nat) : Int) := by
  have e : (2 : Int) ^ min ((16 : Int)).toNat IntKind.u32.bits = 65536 := by decide
  rw [e]
  omega
attribute [local irreducible] IntKind.wrap bits nxt
theorem l03Number_fn {s k : Nat} (hs : s < 4294967296) (hk : 1 ≤ k) (hk2 : k < 1000000) : Fn Try.prog 110 #[.int .u32 (s : Int), .int .i64 (k : Int)] tt (.tuple #[.int .i64 ((dr s k : Nat) : Int), .int .u32 ((nxt s : Nat) : Int)]) := by
  have e1 := nxt_mul s
  have e2 := nxt_add s
  have e3 := nxt_shr (nxt s)
  have hl := nxt_lt s
  have e4 : IntKind.i64.wrap ((nxt s / 65536 : Nat) : Int) = ((nxt s / 65536 : Nat) : Int) := wrap_i64 (by omega) (by omega)
  refine fn_of_W (rs := [.tmp 4, .tmp 5]) Try.func110 Try.ntmps110 (by kernel_rfl) rfl rfl rfl ?_
  have hu2 := Try.underlying2
  have hz2 := T.pos2
  have hs2 := T.sz2
  have hu56 := Try.underlying56
  have hz56 := T.pos56
  have hs56 := T.sz56
  intro w hw
  repeat (first | refine W.seq ?_ | refine W.region ?_ | refine W.block ?_ | refine W.skip ?_ | refine W.exit ?_ | refine Wl.nil ?_ | (refine Wl.ygx rfl rfl rfl ?_; refine ⟨_, (by first | exact Y.move (by conv => lhs; whnf) | exact Y.assign (by conv => lhs; whnf) | exact Y.load_i rfl (by assumption) rfl (by repeat first | exact List.Mem.head _ | apply List.Mem.tail) rfl | exact Y.fld rfl (by assumption) rfl (by assumption) | exact Y.bin_e rfl rfl rfl (by assumption) | exact Y.and_e rfl rfl (by assumption) | exact Y.or_e rfl rfl (by assumption) | exact Y.shr_e rfl rfl (by first | decide | exact Int.natCast_nonneg _ | assumption) (by assumption) | exact Y.shl_e rfl rfl (by first | decide | exact Int.natCast_nonneg _ | assumption) (by assumption) | exact Y.andNot_e rfl rfl (by assumption) | exact Y.xor_e rfl rfl (by assumption) | exact Y.bin_e rfl rfl rfl (by first | exact wrap_i64 (by omega) (by omega) | exact wrap_u64 (by omega) (by omega) | exact wrap_u8 (by omega) (by omega) | exact wrap_i8 (by omega) (by omega) | exact wrap_u32 (by omega) (by omega)) | exact Y.bin rfl rfl rfl | exact Y.rem_n rfl rfl (by omega) (by omega) | exact Y.quo_n rfl rfl (by omega) (by omega) (by first | exact wrap_i64 (by omega) (by omega) | exact wrap_u64 (by omega) (by omega) | exact wrap_u8 (by omega) (by omega) | exact wrap_i8 (by omega) (by omega) | exact wrap_u32 (by omega) (by omega)) | exact Y.conv_e rfl (by assumption) (by assumption) (by assumption) | exact Y.conv_e rfl (by assumption) (by assumption) (by first | exact wrap_i64 (by omega) (by omega) | exact wrap_u64 (by omega) (by omega) | exact wrap_u8 (by omega) (by omega) | exact wrap_i8 (by omega) (by omega) | exact wrap_u32 (by omega) (by omega)) | exact Y.conv rfl (by assumption) (by assumption) | exact Y.not rfl | exact Y.nil rfl | exact Y.load_b rfl (by assumption) rfl (by repeat first | exact List.Mem.head _ | apply List.Mem.tail) rfl | exact Y.load rfl (by assumption) rfl (by repeat first | exact List.Mem.head _ | apply List.Mem.tail) rfl | exact Y.loadG rfl (by assumption) rfl (by repeat first | exact List.Mem.head _ | apply List.Mem.tail) (by first | assumption | (simp only [*]; done)) | exact Y.load0 rfl (by assumption) rfl (by assumption) rfl | exact Y.loadG0 rfl (by assumption) rfl (by assumption) (by first | assumption | (simp only [*]; done)) | exact Y.extractL rfl (by conv => lhs; whnf) | exact Y.len_l rfl rfl (by assumption) | exact Y.len_s rfl rfl (by assumption) | exact Y.max_i rfl rfl | exact Y.min_i rfl rfl | exact Y.pick_t rfl (by conv => lhs; whnf) | exact Y.pick_f rfl (by conv => lhs; whnf) | exact Y.eql_b rfl rfl (by assumption) | exact Y.neq_b rfl rfl (by assumption) | exact Y.eql_s rfl rfl | exact Y.neq_s rfl rfl | exact Y.func rfl rfl), ?_⟩) | refine Wl.off rfl rfl rfl ?_)
  refine W.ret ?_
  refine Rt.intro_r (vs := [.int .i64 (((nxt s / 65536 : Nat) : Int) % (k : Int)), .int .u32 ((nxt s : Nat) : Int)]) (.tmp rfl (.tmp rfl .nil)) ?_
  simp [tup, dr]
theorem draw_fn {b s k : Nat} (hs : s < 4294967296) (hk : 1 ≤ k) (hk2 : k < 1000000) : FnG Try.prog 113 #[.pointer (some ⟨b, 0, none⟩), .int .i64 (k : Int)] [.blk b 56 #[.int .u32 (s : Int)]] (fun v m => v = .int .i64 ((dr s k : Nat) : Int) ∧ m = [.blk b 56 #[.int .u32 ((nxt s : Nat) : Int)]]) := by
  have e1 := nxt_mul s
  have e2 := nxt_add s
  have e3 := nxt_shr (nxt s)
  have hl := nxt_lt s
  have e4 : IntKind.i64.wrap ((nxt s / 65536 : Nat) : Int) = ((nxt s / 65536 : Nat) : Int) := wrap_i64 (by omega) (by omega)
  refine fnG_of_W (rs := [.tmp 4]) Try.func113 Try.ntmps113 (by kernel_rfl) rfl rfl rfl ?_
  have hu2 := Try.underlying2
  have hz2 := T.pos2
  have hs2 := T.sz2
  have hu56 := Try.underlying56
  have hz56 := T.pos56
  have hs56 := T.sz56
  intro w rest
  repeat (first | refine W.seq ?_ | refine W.region ?_ | refine W.block ?_ | refine W.skip ?_ | refine W.exit ?_ | refine Wl.nil ?_ | (refine Wl.ygx rfl rfl rfl ?_; refine ⟨_, (by first | exact Y.move (by conv => lhs; whnf) | exact Y.assign (by conv => lhs; whnf) | exact Y.load_i rfl (by assumption) rfl (by repeat first | exact List.Mem.head _ | apply List.Mem.tail) rfl | exact Y.fld rfl (by assumption) rfl (by assumption) | exact Y.bin_e rfl rfl rfl (by assumption) | exact Y.and_e rfl rfl (by assumption) | exact Y.or_e rfl rfl (by assumption) | exact Y.shr_e rfl rfl (by first | decide | exact Int.natCast_nonneg _ | assumption) (by assumption) | exact Y.shl_e rfl rfl (by first | decide | exact Int.natCast_nonneg _ | assumption) (by assumption) | exact Y.andNot_e rfl rfl (by assumption) | exact Y.xor_e rfl rfl (by assumption) | exact Y.bin_e rfl rfl rfl (by first | exact wrap_i64 (by omega) (by omega) | exact wrap_u64 (by omega) (by omega) | exact wrap_u8 (by omega) (by omega) | exact wrap_i8 (by omega) (by omega) | exact wrap_u32 (by omega) (by omega)) | exact Y.bin rfl rfl rfl | exact Y.rem_n rfl rfl (by omega) (by omega) | exact Y.quo_n rfl rfl (by omega) (by omega) (by first | exact wrap_i64 (by omega) (by omega) | exact wrap_u64 (by omega) (by omega) | exact wrap_u8 (by omega) (by omega) | exact wrap_i8 (by omega) (by omega) | exact wrap_u32 (by omega) (by omega)) | exact Y.conv_e rfl (by assumption) (by assumption) (by assumption) | exact Y.conv_e rfl (by assumption) (by assumption) (by first | exact wrap_i64 (by omega) (by omega) | exact wrap_u64 (by omega) (by omega) | exact wrap_u8 (by omega) (by omega) | exact wrap_i8 (by omega) (by omega) | exact wrap_u32 (by omega) (by omega)) | exact Y.conv rfl (by assumption) (by assumption) | exact Y.not rfl | exact Y.nil rfl | exact Y.load_b rfl (by assumption) rfl (by repeat first | exact List.Mem.head _ | apply List.Mem.tail) rfl | exact Y.load rfl (by assumption) rfl (by repeat first | exact List.Mem.head _ | apply List.Mem.tail) rfl | exact Y.loadG rfl (by assumption) rfl (by repeat first | exact List.Mem.head _ | apply List.Mem.tail) (by first | assumption | (simp only [*]; done)) | exact Y.load0 rfl (by assumption) rfl (by assumption) rfl | exact Y.loadG0 rfl (by assumption) rfl (by assumption) (by first | assumption | (simp only [*]; done)) | exact Y.extractL rfl (by conv => lhs; whnf) | exact Y.len_l rfl rfl (by assumption) | exact Y.len_s rfl rfl (by assumption) | exact Y.max_i rfl rfl | exact Y.min_i rfl rfl | exact Y.pick_t rfl (by conv => lhs; whnf) | exact Y.pick_f rfl (by conv => lhs; whnf) | exact Y.eql_b rfl rfl (by assumption) | exact Y.neq_b rfl rfl (by assumption) | exact Y.eql_s rfl rfl | exact Y.neq_s rfl rfl | exact Y.func rfl rfl), ?_⟩) | refine Wl.off rfl rfl rfl ?_)
  (first | refine Wl.store_i rfl rfl rfl rfl rfl (by assumption) rfl (by repeat first | exact Repl.here _ | apply Repl.there) rfl ?_ | refine Wl.store_b rfl rfl rfl rfl rfl (by assumption) rfl (by repeat first | exact Repl.here _ | apply Repl.there) rfl ?_ | refine Wl.store rfl rfl rfl rfl rfl rfl (by assumption) rfl (by repeat first | exact Repl.here _ | apply Repl.there) rfl ?_)
  repeat (first | refine W.seq ?_ | refine W.region ?_ | refine W.block ?_ | refine W.skip ?_ | refine W.exit ?_ | refine Wl.nil ?_ | (refine Wl.ygx rfl rfl rfl ?_; refine ⟨_, (by first | exact Y.move (by conv => lhs; whnf) | exact Y.assign (by conv => lhs; whnf) | exact Y.load_i rfl (by assumption) rfl (by repeat first | exact List.Mem.head _ | apply List.Mem.tail) rfl | exact Y.fld rfl (by assumption) rfl (by assumption) | exact Y.bin_e rfl rfl rfl (by assumption) | exact Y.and_e rfl rfl (by assumption) | exact Y.or_e rfl rfl (by assumption) | exact Y.shr_e rfl rfl (by first | decide | exact Int.natCast_nonneg _ | assumption) (by assumption) | exact Y.shl_e rfl rfl (by first | decide | exact Int.natCast_nonneg _ | assumption) (by assumption) | exact Y.andNot_e rfl rfl (by assumption) | exact Y.xor_e rfl rfl (by assumption) | exact Y.bin_e rfl rfl rfl (by first | exact wrap_i64 (by omega) (by omega) | exact wrap_u64 (by omega) (by omega) | exact wrap_u8 (by omega) (by omega) | exact wrap_i8 (by omega) (by omega) | exact wrap_u32 (by omega) (by omega)) | exact Y.bin rfl rfl rfl | exact Y.rem_n rfl rfl (by omega) (by omega) | exact Y.quo_n rfl rfl (by omega) (by omega) (by first | exact wrap_i64 (by omega) (by omega) | exact wrap_u64 (by omega) (by omega) | exact wrap_u8 (by omega) (by omega) | exact wrap_i8 (by omega) (by omega) | exact wrap_u32 (by omega) (by omega)) | exact Y.conv_e rfl (by assumption) (by assumption) (by assumption) | exact Y.conv_e rfl (by assumption) (by assumption) (by first | exact wrap_i64 (by omega) (by omega) | exact wrap_u64 (by omega) (by omega) | exact wrap_u8 (by omega) (by omega) | exact wrap_i8 (by omega) (by omega) | exact wrap_u32 (by omega) (by omega)) | exact Y.conv rfl (by assumption) (by assumption) | exact Y.not rfl | exact Y.nil rfl | exact Y.load_b rfl (by assumption) rfl (by repeat first | exact List.Mem.head _ | apply List.Mem.tail) rfl | exact Y.load rfl (by assumption) rfl (by repeat first | exact List.Mem.head _ | apply List.Mem.tail) rfl | exact Y.loadG rfl (by assumption) rfl (by repeat first | exact List.Mem.head _ | apply List.Mem.tail) (by first | assumption | (simp only [*]; done)) | exact Y.load0 rfl (by assumption) rfl (by assumption) rfl | exact Y.loadG0 rfl (by assumption) rfl (by assumption) (by first | assumption | (simp only [*]; done)) | exact Y.extractL rfl (by conv => lhs; whnf) | exact Y.len_l rfl rfl (by assumption) | exact Y.len_s rfl rfl (by assumption) | exact Y.max_i rfl rfl | exact Y.min_i rfl rfl | exact Y.pick_t rfl (by conv => lhs; whnf) | exact Y.pick_f rfl (by conv => lhs; whnf) | exact Y.eql_b rfl rfl (by assumption) | exact Y.neq_b rfl rfl (by assumption) | exact Y.eql_s rfl rfl | exact Y.neq_s rfl rfl | exact Y.func rfl rfl), ?_⟩) | refine Wl.off rfl rfl rfl ?_)
  refine W.ret ?_
  exact Rt.intro_r (vs := [.int .i64 (((nxt s / 65536 : Nat) : Int) % (k : Int))]) (.tmp rfl .nil) ⟨_, ⟨by simp [tup, dr], rfl⟩, List.Sublist.refl _⟩
end Go.Proofs.Ytfmamihoaklogaa.T
