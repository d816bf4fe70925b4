/- The shorter scheme, both sides and the law (used by the claims of this seat). -/
import Derived.Test.YtfmamihoaklogaaS15
import Derived.Test.YtfmamihoaklogaaO0
import Derived.Test.YtfmamihoaklogaaF3
import Derived.Test.YtfmamihoaklogaaF4
import Derived.Test.YtfmamihoaklogaaL0
namespace Go.Proofs.Ytfmamihoaklogaa.T
open Go.RowKit
set_option linter.unusedVariables false
set_option maxRecDepth 100000
set_option maxHeartbeats 4000000

theorem off_of {x : Nat} (h : ¬ 8 < pbs (leasts x) (leasts x).length) : offN (leasts x) (leasts x).length ≤ 8 := by
  rw [pbs_off (leasts_len x) (fun j hj => (leasts_mem (List.getElem_mem hj)).1) _ (Nat.le_refl _)] at h
  omega
theorem zero_out {n x : Nat} (hf : famOk n x = true) : x.testBit 0 = false := by
  unfold famOk at hf
  simp only [Bool.and_eq_true] at hf
  simpa using hf.2.2.1
def bysV (s : Int) (x : Nat) : Value := if okFam s x = true then (if 8 < pbs (leasts x) (leasts x).length then .tuple #[.agg (sch 0 0 (fun _ => 0) (fun _ => 0)), .int .i64 3] else .tuple #[.agg (bySV (leasts x) s.toNat), .int .i64 0]) else .tuple #[.agg (sch 0 0 (fun _ => 0) (fun _ => 0)), .int .i64 1]
theorem implBys_fn {s : Int} {x : Nat} (h8 : -128 ≤ s ∧ s < 128) (hx : x < 2 ^ 64) : Fn Try.prog 37 #[.agg #[.int .i8 s, .int .u64 (x : Int)]] tt (bysV s x) := by
  have hsS : ∀ n p f g, Option.map (fun x => x.size) (Try.prog.info? 50) = some (sch n p f g).size := fun n p f g => by rw [sch_size]; exact T.sz50
  refine fn_of_W (rs := [.cell 2 50, .tmp 3]) Try.func37 Try.ntmps37 (by kernel_rfl) rfl rfl rfl ?_
  have hu5 := Try.underlying5
  have hz5 := T.pos5
  have hs5 := T.sz5
  have hu22 := Try.underlying22
  have hz22 := T.pos22
  have hs22 := T.sz22
  have hu26 := Try.underlying26
  have hz26 := T.pos26
  have hs26 := T.sz26
  have hu35 := Try.underlying35
  have hz35 := T.pos35
  have hs35 := T.sz35
  have hu48 := Try.underlying48
  have hz48 := T.pos48
  have hs48 := T.sz48
  have hu50 := Try.underlying50
  have hz50 := T.pos50
  have hs50 := T.sz50
  intro w hw
  refine W.seq (W.region ?_)
  (first | refine Wl.boxA rfl rfl rfl rfl rfl ?_ | refine Wl.box rfl rfl rfl rfl rfl ?_)
  intro b
  refine Wl.alloc rfl rfl rfl rfl zero50 ?_
  intro b2
  rw [show (Value.agg #[Value.int .i8 0, Value.int .i8 0, .int .u8 0, .int .u8 0, .int .u8 0, .int .u8 0, .int .u8 0, .int .u8 0, .int .u8 0, .int .u8 0, .int .u8 0, .int .u8 0, .int .u8 0, .int .u8 0]).cells = sch 0 0 (fun _ => 0) (fun _ => 0) from sch_zero]
  repeat (first | refine W.seq ?_ | refine W.region ?_ | refine W.block ?_ | refine W.skip ?_ | refine W.exit ?_ | refine Wl.nil ?_ | refine Wl.yg rfl rfl rfl (by first | exact Y.move (by conv => lhs; whnf) | exact Y.assign (by conv => lhs; whnf) | exact Y.bin rfl rfl rfl | exact Y.not rfl | exact Y.load rfl (by assumption) rfl (by repeat first | exact List.Mem.head _ | apply List.Mem.tail) rfl | exact Y.loadG rfl (by assumption) rfl (by repeat first | exact List.Mem.head _ | apply List.Mem.tail) (by first | assumption | (simp only [*]; done)) | exact Y.extractL rfl (by conv => lhs; whnf) | exact Y.pick_t rfl (by conv => lhs; whnf) | exact Y.pick_f rfl (by conv => lhs; whnf) | exact Y.neq_b rfl rfl (by assumption)) ?_ | refine Wl.off rfl rfl rfl ?_)
  refine Wl.qt rfl rfl rfl (Qt.call (validFamily_fn h8 hx) rfl (fun _ _ => trivial)) ?_
  repeat (first | refine W.seq ?_ | refine W.region ?_ | refine W.block ?_ | refine W.skip ?_ | refine W.exit ?_ | refine Wl.nil ?_ | refine Wl.yg rfl rfl rfl (by first | exact Y.move (by conv => lhs; whnf) | exact Y.assign (by conv => lhs; whnf) | exact Y.bin rfl rfl rfl | exact Y.not rfl | exact Y.load rfl (by assumption) rfl (by repeat first | exact List.Mem.head _ | apply List.Mem.tail) rfl | exact Y.loadG rfl (by assumption) rfl (by repeat first | exact List.Mem.head _ | apply List.Mem.tail) (by first | assumption | (simp only [*]; done)) | exact Y.extractL rfl (by conv => lhs; whnf) | exact Y.pick_t rfl (by conv => lhs; whnf) | exact Y.pick_f rfl (by conv => lhs; whnf) | exact Y.neq_b rfl rfl (by assumption)) ?_ | refine Wl.off rfl rfl rfl ?_)
  cases hok : okFam s x
  · refine W.cond (b := true) rfl (fun _ => ?_) (fun h => by cases h)
    repeat (first | refine W.seq ?_ | refine W.region ?_ | refine W.block ?_ | refine W.skip ?_ | refine W.exit ?_ | refine Wl.nil ?_ | refine Wl.yg rfl rfl rfl (by first | exact Y.move (by conv => lhs; whnf) | exact Y.assign (by conv => lhs; whnf) | exact Y.bin rfl rfl rfl | exact Y.not rfl | exact Y.load rfl (by assumption) rfl (by repeat first | exact List.Mem.head _ | apply List.Mem.tail) rfl | exact Y.loadG rfl (by assumption) rfl (by repeat first | exact List.Mem.head _ | apply List.Mem.tail) (by first | assumption | (simp only [*]; done)) | exact Y.extractL rfl (by conv => lhs; whnf) | exact Y.pick_t rfl (by conv => lhs; whnf) | exact Y.pick_f rfl (by conv => lhs; whnf) | exact Y.neq_b rfl rfl (by assumption)) ?_ | refine Wl.off rfl rfl rfl ?_)
    refine Wl.y rfl rfl rfl ((Y.build (cells := #[Value.int .i8 0, Value.int .i8 0, .int .u8 0, .int .u8 0, .int .u8 0, .int .u8 0, .int .u8 0, .int .u8 0, .int .u8 0, .int .u8 0, .int .u8 0, .int .u8 0, .int .u8 0, .int .u8 0]) (by kernel_rfl)).cast (congrArg Value.agg sch_zero)) ?_
    refine Wl.storeS (cs := sch 0 0 (fun _ => 0) (fun _ => 0)) (vs := sch 0 0 (fun _ => 0) (fun _ => 0)) (cs' := sch 0 0 (fun _ => 0) (fun _ => 0)) rfl rfl rfl rfl rfl sch_one (hsS _ _ _ _) sch_same (by repeat first | exact Repl.here _ | apply Repl.there) (by first | (simp only [sch_size]; rfl) | (unfold bySV; simp only [sch_size]; rfl)) ?_
    repeat (first | refine W.seq ?_ | refine W.region ?_ | refine W.block ?_ | refine W.skip ?_ | refine W.exit ?_ | refine Wl.nil ?_ | refine Wl.yg rfl rfl rfl (by first | exact Y.move (by conv => lhs; whnf) | exact Y.assign (by conv => lhs; whnf) | exact Y.bin rfl rfl rfl | exact Y.not rfl | exact Y.load rfl (by assumption) rfl (by repeat first | exact List.Mem.head _ | apply List.Mem.tail) rfl | exact Y.loadG rfl (by assumption) rfl (by repeat first | exact List.Mem.head _ | apply List.Mem.tail) (by first | assumption | (simp only [*]; done)) | exact Y.extractL rfl (by conv => lhs; whnf) | exact Y.pick_t rfl (by conv => lhs; whnf) | exact Y.pick_f rfl (by conv => lhs; whnf) | exact Y.neq_b rfl rfl (by assumption)) ?_ | refine Wl.off rfl rfl rfl ?_)
    refine W.ret ?_
    refine Rt.intro_r (vs := [.agg (sch 0 0 (fun _ => 0) (fun _ => 0)), .int .i64 1]) (.cell rfl (by repeat first | exact List.Mem.head _ | apply List.Mem.tail) (by assumption) rfl (hsS _ _ _ _) (.tmp rfl .nil)) ?_
    simp [tup, bysV, hok]
  · obtain ⟨n, rfl, h1, h6, hf⟩ := okFam_true hok
    refine W.cond (b := false) rfl (fun h => by cases h) (fun _ => ?_)
    repeat (first | refine W.seq ?_ | refine W.region ?_ | refine W.block ?_ | refine W.skip ?_ | refine W.exit ?_ | refine Wl.nil ?_ | refine Wl.yg rfl rfl rfl (by first | exact Y.move (by conv => lhs; whnf) | exact Y.assign (by conv => lhs; whnf) | exact Y.bin rfl rfl rfl | exact Y.not rfl | exact Y.load rfl (by assumption) rfl (by repeat first | exact List.Mem.head _ | apply List.Mem.tail) rfl | exact Y.loadG rfl (by assumption) rfl (by repeat first | exact List.Mem.head _ | apply List.Mem.tail) (by first | assumption | (simp only [*]; done)) | exact Y.extractL rfl (by conv => lhs; whnf) | exact Y.pick_t rfl (by conv => lhs; whnf) | exact Y.pick_f rfl (by conv => lhs; whnf) | exact Y.neq_b rfl rfl (by assumption)) ?_ | refine Wl.off rfl rfl rfl ?_)
    refine Wl.qt rfl rfl rfl (Qt.call (partsBySets_fn h6 hx hf) rfl (fun _ _ => trivial)) ?_
    repeat (first | refine W.seq ?_ | refine W.region ?_ | refine W.block ?_ | refine W.skip ?_ | refine W.exit ?_ | refine Wl.nil ?_ | refine Wl.yg rfl rfl rfl (by first | exact Y.move (by conv => lhs; whnf) | exact Y.assign (by conv => lhs; whnf) | exact Y.bin rfl rfl rfl | exact Y.not rfl | exact Y.load rfl (by assumption) rfl (by repeat first | exact List.Mem.head _ | apply List.Mem.tail) rfl | exact Y.loadG rfl (by assumption) rfl (by repeat first | exact List.Mem.head _ | apply List.Mem.tail) (by first | assumption | (simp only [*]; done)) | exact Y.extractL rfl (by conv => lhs; whnf) | exact Y.pick_t rfl (by conv => lhs; whnf) | exact Y.pick_f rfl (by conv => lhs; whnf) | exact Y.neq_b rfl rfl (by assumption)) ?_ | refine Wl.off rfl rfl rfl ?_)
    refine W.cond rfl (fun hc => ?_) (fun hc => ?_)
    · have hlt := of_decide_eq_true hc
      repeat (first | refine W.seq ?_ | refine W.region ?_ | refine W.block ?_ | refine W.skip ?_ | refine W.exit ?_ | refine Wl.nil ?_ | refine Wl.yg rfl rfl rfl (by first | exact Y.move (by conv => lhs; whnf) | exact Y.assign (by conv => lhs; whnf) | exact Y.bin rfl rfl rfl | exact Y.not rfl | exact Y.load rfl (by assumption) rfl (by repeat first | exact List.Mem.head _ | apply List.Mem.tail) rfl | exact Y.loadG rfl (by assumption) rfl (by repeat first | exact List.Mem.head _ | apply List.Mem.tail) (by first | assumption | (simp only [*]; done)) | exact Y.extractL rfl (by conv => lhs; whnf) | exact Y.pick_t rfl (by conv => lhs; whnf) | exact Y.pick_f rfl (by conv => lhs; whnf) | exact Y.neq_b rfl rfl (by assumption)) ?_ | refine Wl.off rfl rfl rfl ?_)
      refine Wl.y rfl rfl rfl ((Y.build (cells := #[Value.int .i8 0, Value.int .i8 0, .int .u8 0, .int .u8 0, .int .u8 0, .int .u8 0, .int .u8 0, .int .u8 0, .int .u8 0, .int .u8 0, .int .u8 0, .int .u8 0, .int .u8 0, .int .u8 0]) (by kernel_rfl)).cast (congrArg Value.agg sch_zero)) ?_
      refine Wl.storeS (cs := sch 0 0 (fun _ => 0) (fun _ => 0)) (vs := sch 0 0 (fun _ => 0) (fun _ => 0)) (cs' := sch 0 0 (fun _ => 0) (fun _ => 0)) rfl rfl rfl rfl rfl sch_one (hsS _ _ _ _) sch_same (by repeat first | exact Repl.here _ | apply Repl.there) (by first | (simp only [sch_size]; rfl) | (unfold bySV; simp only [sch_size]; rfl)) ?_
      repeat (first | refine W.seq ?_ | refine W.region ?_ | refine W.block ?_ | refine W.skip ?_ | refine W.exit ?_ | refine Wl.nil ?_ | refine Wl.yg rfl rfl rfl (by first | exact Y.move (by conv => lhs; whnf) | exact Y.assign (by conv => lhs; whnf) | exact Y.bin rfl rfl rfl | exact Y.not rfl | exact Y.load rfl (by assumption) rfl (by repeat first | exact List.Mem.head _ | apply List.Mem.tail) rfl | exact Y.loadG rfl (by assumption) rfl (by repeat first | exact List.Mem.head _ | apply List.Mem.tail) (by first | assumption | (simp only [*]; done)) | exact Y.extractL rfl (by conv => lhs; whnf) | exact Y.pick_t rfl (by conv => lhs; whnf) | exact Y.pick_f rfl (by conv => lhs; whnf) | exact Y.neq_b rfl rfl (by assumption)) ?_ | refine Wl.off rfl rfl rfl ?_)
      refine W.ret ?_
      refine Rt.intro_r (vs := [.agg (sch 0 0 (fun _ => 0) (fun _ => 0)), .int .i64 3]) (.cell rfl (by repeat first | exact List.Mem.head _ | apply List.Mem.tail) (by assumption) rfl (hsS _ _ _ _) (.tmp rfl .nil)) ?_
      simp [tup, bysV, hok, hlt]
    · have hlt := of_decide_eq_false hc
      have hl8 := off_of hlt
      repeat (first | refine W.seq ?_ | refine W.region ?_ | refine W.block ?_ | refine W.skip ?_ | refine W.exit ?_ | refine Wl.nil ?_ | refine Wl.yg rfl rfl rfl (by first | exact Y.move (by conv => lhs; whnf) | exact Y.assign (by conv => lhs; whnf) | exact Y.bin rfl rfl rfl | exact Y.not rfl | exact Y.load rfl (by assumption) rfl (by repeat first | exact List.Mem.head _ | apply List.Mem.tail) rfl | exact Y.loadG rfl (by assumption) rfl (by repeat first | exact List.Mem.head _ | apply List.Mem.tail) (by first | assumption | (simp only [*]; done)) | exact Y.extractL rfl (by conv => lhs; whnf) | exact Y.pick_t rfl (by conv => lhs; whnf) | exact Y.pick_f rfl (by conv => lhs; whnf) | exact Y.neq_b rfl rfl (by assumption)) ?_ | refine Wl.off rfl rfl rfl ?_)
      refine Wl.qt rfl rfl rfl (Qt.call (bySets_fn h6 hx (zero_out hf) hl8) rfl (fun _ _ => trivial)) ?_
      repeat (first | refine W.seq ?_ | refine W.region ?_ | refine W.block ?_ | refine W.skip ?_ | refine W.exit ?_ | refine Wl.nil ?_ | refine Wl.yg rfl rfl rfl (by first | exact Y.move (by conv => lhs; whnf) | exact Y.assign (by conv => lhs; whnf) | exact Y.bin rfl rfl rfl | exact Y.not rfl | exact Y.load rfl (by assumption) rfl (by repeat first | exact List.Mem.head _ | apply List.Mem.tail) rfl | exact Y.loadG rfl (by assumption) rfl (by repeat first | exact List.Mem.head _ | apply List.Mem.tail) (by first | assumption | (simp only [*]; done)) | exact Y.extractL rfl (by conv => lhs; whnf) | exact Y.pick_t rfl (by conv => lhs; whnf) | exact Y.pick_f rfl (by conv => lhs; whnf) | exact Y.neq_b rfl rfl (by assumption)) ?_ | refine Wl.off rfl rfl rfl ?_)
      refine Wl.storeS (cs := sch 0 0 (fun _ => 0) (fun _ => 0)) (vs := bySV (leasts x) n) (cs' := bySV (leasts x) n) rfl rfl rfl rfl rfl sch_one (hsS _ _ _ _) sch_same (by repeat first | exact Repl.here _ | apply Repl.there) (by first | (simp only [sch_size]; rfl) | (unfold bySV; simp only [sch_size]; rfl)) ?_
      repeat (first | refine W.seq ?_ | refine W.region ?_ | refine W.block ?_ | refine W.skip ?_ | refine W.exit ?_ | refine Wl.nil ?_ | refine Wl.yg rfl rfl rfl (by first | exact Y.move (by conv => lhs; whnf) | exact Y.assign (by conv => lhs; whnf) | exact Y.bin rfl rfl rfl | exact Y.not rfl | exact Y.load rfl (by assumption) rfl (by repeat first | exact List.Mem.head _ | apply List.Mem.tail) rfl | exact Y.loadG rfl (by assumption) rfl (by repeat first | exact List.Mem.head _ | apply List.Mem.tail) (by first | assumption | (simp only [*]; done)) | exact Y.extractL rfl (by conv => lhs; whnf) | exact Y.pick_t rfl (by conv => lhs; whnf) | exact Y.pick_f rfl (by conv => lhs; whnf) | exact Y.neq_b rfl rfl (by assumption)) ?_ | refine Wl.off rfl rfl rfl ?_)
      refine W.ret ?_
      refine Rt.intro_r (vs := [.agg (bySV (leasts x) n), .int .i64 0]) (.cell rfl (by repeat first | exact List.Mem.head _ | apply List.Mem.tail) (by assumption) rfl (hsS _ _ _ _) (.tmp rfl .nil)) ?_
      simp [tup, bysV, hok, hlt]
def schV (s : Int) (x : Nat) : Value := if okFam s x = true then (if 8 < pbo (others s.toNat x) then .tuple #[.agg (sch 0 0 (fun _ => 0) (fun _ => 0)), .int .i64 3] else .tuple #[.agg (sch s ((2 ^ ((others s.toNat x).length - 1) : Nat) : Int) (byO (others s.toNat x) s.toNat false) (byO (others s.toNat x) s.toNat true)), .int .i64 0]) else .tuple #[.agg (sch 0 0 (fun _ => 0) (fun _ => 0)), .int .i64 1]
theorem implSch_fn {s : Int} {x : Nat} (h8 : -128 ≤ s ∧ s < 128) (hx : x < 2 ^ 64) : Fn Try.prog 28 #[.agg #[.int .i8 s, .int .u64 (x : Int)]] tt (schV s x) := by
  have hsS : ∀ n p f g, Option.map (fun x => x.size) (Try.prog.info? 50) = some (sch n p f g).size := fun n p f g => by rw [sch_size]; exact T.sz50
  refine fn_of_W (rs := [.cell 2 50, .tmp 3]) Try.func28 Try.ntmps28 (by kernel_rfl) rfl rfl rfl ?_
  have hu5 := Try.underlying5
  have hz5 := T.pos5
  have hs5 := T.sz5
  have hu22 := Try.underlying22
  have hz22 := T.pos22
  have hs22 := T.sz22
  have hu26 := Try.underlying26
  have hz26 := T.pos26
  have hs26 := T.sz26
  have hu35 := Try.underlying35
  have hz35 := T.pos35
  have hs35 := T.sz35
  have hu48 := Try.underlying48
  have hz48 := T.pos48
  have hs48 := T.sz48
  have hu50 := Try.underlying50
  have hz50 := T.pos50
  have hs50 := T.sz50
  intro w hw
  refine W.seq (W.region ?_)
  (first | refine Wl.boxA rfl rfl rfl rfl rfl ?_ | refine Wl.box rfl rfl rfl rfl rfl ?_)
  intro b
  refine Wl.alloc rfl rfl rfl rfl zero50 ?_
  intro b2
  rw [show (Value.agg #[Value.int .i8 0, Value.int .i8 0, .int .u8 0, .int .u8 0, .int .u8 0, .int .u8 0, .int .u8 0, .int .u8 0, .int .u8 0, .int .u8 0, .int .u8 0, .int .u8 0, .int .u8 0, .int .u8 0]).cells = sch 0 0 (fun _ => 0) (fun _ => 0) from sch_zero]
  repeat (first | refine W.seq ?_ | refine W.region ?_ | refine W.block ?_ | refine W.skip ?_ | refine W.exit ?_ | refine Wl.nil ?_ | refine Wl.yg rfl rfl rfl (by first | exact Y.move (by conv => lhs; whnf) | exact Y.assign (by conv => lhs; whnf) | exact Y.bin rfl rfl rfl | exact Y.not rfl | exact Y.load rfl (by assumption) rfl (by repeat first | exact List.Mem.head _ | apply List.Mem.tail) rfl | exact Y.loadG rfl (by assumption) rfl (by repeat first | exact List.Mem.head _ | apply List.Mem.tail) (by first | assumption | (simp only [*]; done)) | exact Y.extractL rfl (by conv => lhs; whnf) | exact Y.pick_t rfl (by conv => lhs; whnf) | exact Y.pick_f rfl (by conv => lhs; whnf) | exact Y.neq_b rfl rfl (by assumption)) ?_ | refine Wl.off rfl rfl rfl ?_)
  refine Wl.qt rfl rfl rfl (Qt.call (validFamily_fn h8 hx) rfl (fun _ _ => trivial)) ?_
  repeat (first | refine W.seq ?_ | refine W.region ?_ | refine W.block ?_ | refine W.skip ?_ | refine W.exit ?_ | refine Wl.nil ?_ | refine Wl.yg rfl rfl rfl (by first | exact Y.move (by conv => lhs; whnf) | exact Y.assign (by conv => lhs; whnf) | exact Y.bin rfl rfl rfl | exact Y.not rfl | exact Y.load rfl (by assumption) rfl (by repeat first | exact List.Mem.head _ | apply List.Mem.tail) rfl | exact Y.loadG rfl (by assumption) rfl (by repeat first | exact List.Mem.head _ | apply List.Mem.tail) (by first | assumption | (simp only [*]; done)) | exact Y.extractL rfl (by conv => lhs; whnf) | exact Y.pick_t rfl (by conv => lhs; whnf) | exact Y.pick_f rfl (by conv => lhs; whnf) | exact Y.neq_b rfl rfl (by assumption)) ?_ | refine Wl.off rfl rfl rfl ?_)
  cases hok : okFam s x
  · refine W.cond (b := true) rfl (fun _ => ?_) (fun h => by cases h)
    repeat (first | refine W.seq ?_ | refine W.region ?_ | refine W.block ?_ | refine W.skip ?_ | refine W.exit ?_ | refine Wl.nil ?_ | refine Wl.yg rfl rfl rfl (by first | exact Y.move (by conv => lhs; whnf) | exact Y.assign (by conv => lhs; whnf) | exact Y.bin rfl rfl rfl | exact Y.not rfl | exact Y.load rfl (by assumption) rfl (by repeat first | exact List.Mem.head _ | apply List.Mem.tail) rfl | exact Y.loadG rfl (by assumption) rfl (by repeat first | exact List.Mem.head _ | apply List.Mem.tail) (by first | assumption | (simp only [*]; done)) | exact Y.extractL rfl (by conv => lhs; whnf) | exact Y.pick_t rfl (by conv => lhs; whnf) | exact Y.pick_f rfl (by conv => lhs; whnf) | exact Y.neq_b rfl rfl (by assumption)) ?_ | refine Wl.off rfl rfl rfl ?_)
    refine Wl.y rfl rfl rfl ((Y.build (cells := #[Value.int .i8 0, Value.int .i8 0, .int .u8 0, .int .u8 0, .int .u8 0, .int .u8 0, .int .u8 0, .int .u8 0, .int .u8 0, .int .u8 0, .int .u8 0, .int .u8 0, .int .u8 0, .int .u8 0]) (by kernel_rfl)).cast (congrArg Value.agg sch_zero)) ?_
    refine Wl.storeS (cs := sch 0 0 (fun _ => 0) (fun _ => 0)) (vs := sch 0 0 (fun _ => 0) (fun _ => 0)) (cs' := sch 0 0 (fun _ => 0) (fun _ => 0)) rfl rfl rfl rfl rfl sch_one (hsS _ _ _ _) sch_same (by repeat first | exact Repl.here _ | apply Repl.there) (by simp only [sch_size]; rfl) ?_
    repeat (first | refine W.seq ?_ | refine W.region ?_ | refine W.block ?_ | refine W.skip ?_ | refine W.exit ?_ | refine Wl.nil ?_ | refine Wl.yg rfl rfl rfl (by first | exact Y.move (by conv => lhs; whnf) | exact Y.assign (by conv => lhs; whnf) | exact Y.bin rfl rfl rfl | exact Y.not rfl | exact Y.load rfl (by assumption) rfl (by repeat first | exact List.Mem.head _ | apply List.Mem.tail) rfl | exact Y.loadG rfl (by assumption) rfl (by repeat first | exact List.Mem.head _ | apply List.Mem.tail) (by first | assumption | (simp only [*]; done)) | exact Y.extractL rfl (by conv => lhs; whnf) | exact Y.pick_t rfl (by conv => lhs; whnf) | exact Y.pick_f rfl (by conv => lhs; whnf) | exact Y.neq_b rfl rfl (by assumption)) ?_ | refine Wl.off rfl rfl rfl ?_)
    refine W.ret ?_
    refine Rt.intro_r (vs := [.agg (sch 0 0 (fun _ => 0) (fun _ => 0)), .int .i64 1]) (.cell rfl (by repeat first | exact List.Mem.head _ | apply List.Mem.tail) (by assumption) rfl (hsS _ _ _ _) (.tmp rfl .nil)) ?_
    simp [tup, schV, hok]
  · obtain ⟨n, rfl, h1, h6, hf⟩ := okFam_true hok
    refine W.cond (b := false) rfl (fun h => by cases h) (fun _ => ?_)
    repeat (first | refine W.seq ?_ | refine W.region ?_ | refine W.block ?_ | refine W.skip ?_ | refine W.exit ?_ | refine Wl.nil ?_ | refine Wl.yg rfl rfl rfl (by first | exact Y.move (by conv => lhs; whnf) | exact Y.assign (by conv => lhs; whnf) | exact Y.bin rfl rfl rfl | exact Y.not rfl | exact Y.load rfl (by assumption) rfl (by repeat first | exact List.Mem.head _ | apply List.Mem.tail) rfl | exact Y.loadG rfl (by assumption) rfl (by repeat first | exact List.Mem.head _ | apply List.Mem.tail) (by first | assumption | (simp only [*]; done)) | exact Y.extractL rfl (by conv => lhs; whnf) | exact Y.pick_t rfl (by conv => lhs; whnf) | exact Y.pick_f rfl (by conv => lhs; whnf) | exact Y.neq_b rfl rfl (by assumption)) ?_ | refine Wl.off rfl rfl rfl ?_)
    refine Wl.qt rfl rfl rfl (Qt.call (partsByOthers_fn h6 hx hf) rfl (fun _ _ => trivial)) ?_
    repeat (first | refine W.seq ?_ | refine W.region ?_ | refine W.block ?_ | refine W.skip ?_ | refine W.exit ?_ | refine Wl.nil ?_ | refine Wl.yg rfl rfl rfl (by first | exact Y.move (by conv => lhs; whnf) | exact Y.assign (by conv => lhs; whnf) | exact Y.bin rfl rfl rfl | exact Y.not rfl | exact Y.load rfl (by assumption) rfl (by repeat first | exact List.Mem.head _ | apply List.Mem.tail) rfl | exact Y.loadG rfl (by assumption) rfl (by repeat first | exact List.Mem.head _ | apply List.Mem.tail) (by first | assumption | (simp only [*]; done)) | exact Y.extractL rfl (by conv => lhs; whnf) | exact Y.pick_t rfl (by conv => lhs; whnf) | exact Y.pick_f rfl (by conv => lhs; whnf) | exact Y.neq_b rfl rfl (by assumption)) ?_ | refine Wl.off rfl rfl rfl ?_)
    refine W.cond rfl (fun hc => ?_) (fun hc => ?_)
    · have hlt := of_decide_eq_true hc
      repeat (first | refine W.seq ?_ | refine W.region ?_ | refine W.block ?_ | refine W.skip ?_ | refine W.exit ?_ | refine Wl.nil ?_ | refine Wl.yg rfl rfl rfl (by first | exact Y.move (by conv => lhs; whnf) | exact Y.assign (by conv => lhs; whnf) | exact Y.bin rfl rfl rfl | exact Y.not rfl | exact Y.load rfl (by assumption) rfl (by repeat first | exact List.Mem.head _ | apply List.Mem.tail) rfl | exact Y.loadG rfl (by assumption) rfl (by repeat first | exact List.Mem.head _ | apply List.Mem.tail) (by first | assumption | (simp only [*]; done)) | exact Y.extractL rfl (by conv => lhs; whnf) | exact Y.pick_t rfl (by conv => lhs; whnf) | exact Y.pick_f rfl (by conv => lhs; whnf) | exact Y.neq_b rfl rfl (by assumption)) ?_ | refine Wl.off rfl rfl rfl ?_)
      refine Wl.y rfl rfl rfl ((Y.build (cells := #[Value.int .i8 0, Value.int .i8 0, .int .u8 0, .int .u8 0, .int .u8 0, .int .u8 0, .int .u8 0, .int .u8 0, .int .u8 0, .int .u8 0, .int .u8 0, .int .u8 0, .int .u8 0, .int .u8 0]) (by kernel_rfl)).cast (congrArg Value.agg sch_zero)) ?_
      refine Wl.storeS (cs := sch 0 0 (fun _ => 0) (fun _ => 0)) (vs := sch 0 0 (fun _ => 0) (fun _ => 0)) (cs' := sch 0 0 (fun _ => 0) (fun _ => 0)) rfl rfl rfl rfl rfl sch_one (hsS _ _ _ _) sch_same (by repeat first | exact Repl.here _ | apply Repl.there) (by simp only [sch_size]; rfl) ?_
      repeat (first | refine W.seq ?_ | refine W.region ?_ | refine W.block ?_ | refine W.skip ?_ | refine W.exit ?_ | refine Wl.nil ?_ | refine Wl.yg rfl rfl rfl (by first | exact Y.move (by conv => lhs; whnf) | exact Y.assign (by conv => lhs; whnf) | exact Y.bin rfl rfl rfl | exact Y.not rfl | exact Y.load rfl (by assumption) rfl (by repeat first | exact List.Mem.head _ | apply List.Mem.tail) rfl | exact Y.loadG rfl (by assumption) rfl (by repeat first | exact List.Mem.head _ | apply List.Mem.tail) (by first | assumption | (simp only [*]; done)) | exact Y.extractL rfl (by conv => lhs; whnf) | exact Y.pick_t rfl (by conv => lhs; whnf) | exact Y.pick_f rfl (by conv => lhs; whnf) | exact Y.neq_b rfl rfl (by assumption)) ?_ | refine Wl.off rfl rfl rfl ?_)
      refine W.ret ?_
      refine Rt.intro_r (vs := [.agg (sch 0 0 (fun _ => 0) (fun _ => 0)), .int .i64 3]) (.cell rfl (by repeat first | exact List.Mem.head _ | apply List.Mem.tail) (by assumption) rfl (hsS _ _ _ _) (.tmp rfl .nil)) ?_
      simp [tup, schV, hok, hlt]
    · have hlt := of_decide_eq_false hc
      have hl4 := pbo_le (others_le h6 hf) (Int.not_lt.1 hlt)
      repeat (first | refine W.seq ?_ | refine W.region ?_ | refine W.block ?_ | refine W.skip ?_ | refine W.exit ?_ | refine Wl.nil ?_ | refine Wl.yg rfl rfl rfl (by first | exact Y.move (by conv => lhs; whnf) | exact Y.assign (by conv => lhs; whnf) | exact Y.bin rfl rfl rfl | exact Y.not rfl | exact Y.load rfl (by assumption) rfl (by repeat first | exact List.Mem.head _ | apply List.Mem.tail) rfl | exact Y.loadG rfl (by assumption) rfl (by repeat first | exact List.Mem.head _ | apply List.Mem.tail) (by first | assumption | (simp only [*]; done)) | exact Y.extractL rfl (by conv => lhs; whnf) | exact Y.pick_t rfl (by conv => lhs; whnf) | exact Y.pick_f rfl (by conv => lhs; whnf) | exact Y.neq_b rfl rfl (by assumption)) ?_ | refine Wl.off rfl rfl rfl ?_)
      refine Wl.qt rfl rfl rfl (Qt.call (byOthers_fn h6 hx (others_pos hf) hl4) rfl (fun _ _ => trivial)) ?_
      repeat (first | refine W.seq ?_ | refine W.region ?_ | refine W.block ?_ | refine W.skip ?_ | refine W.exit ?_ | refine Wl.nil ?_ | refine Wl.yg rfl rfl rfl (by first | exact Y.move (by conv => lhs; whnf) | exact Y.assign (by conv => lhs; whnf) | exact Y.bin rfl rfl rfl | exact Y.not rfl | exact Y.load rfl (by assumption) rfl (by repeat first | exact List.Mem.head _ | apply List.Mem.tail) rfl | exact Y.loadG rfl (by assumption) rfl (by repeat first | exact List.Mem.head _ | apply List.Mem.tail) (by first | assumption | (simp only [*]; done)) | exact Y.extractL rfl (by conv => lhs; whnf) | exact Y.pick_t rfl (by conv => lhs; whnf) | exact Y.pick_f rfl (by conv => lhs; whnf) | exact Y.neq_b rfl rfl (by assumption)) ?_ | refine Wl.off rfl rfl rfl ?_)
      refine Wl.storeS (cs := sch 0 0 (fun _ => 0) (fun _ => 0)) (vs := sch (n : Int) ((2 ^ ((others n x).length - 1) : Nat) : Int) (byO (others n x) n false) (byO (others n x) n true)) (cs' := sch (n : Int) ((2 ^ ((others n x).length - 1) : Nat) : Int) (byO (others n x) n false) (byO (others n x) n true)) rfl rfl rfl rfl rfl sch_one (hsS _ _ _ _) sch_same (by repeat first | exact Repl.here _ | apply Repl.there) (by simp only [sch_size]; rfl) ?_
      repeat (first | refine W.seq ?_ | refine W.region ?_ | refine W.block ?_ | refine W.skip ?_ | refine W.exit ?_ | refine Wl.nil ?_ | refine Wl.yg rfl rfl rfl (by first | exact Y.move (by conv => lhs; whnf) | exact Y.assign (by conv => lhs; whnf) | exact Y.bin rfl rfl rfl | exact Y.not rfl | exact Y.load rfl (by assumption) rfl (by repeat first | exact List.Mem.head _ | apply List.Mem.tail) rfl | exact Y.loadG rfl (by assumption) rfl (by repeat first | exact List.Mem.head _ | apply List.Mem.tail) (by first | assumption | (simp only [*]; done)) | exact Y.extractL rfl (by conv => lhs; whnf) | exact Y.pick_t rfl (by conv => lhs; whnf) | exact Y.pick_f rfl (by conv => lhs; whnf) | exact Y.neq_b rfl rfl (by assumption)) ?_ | refine Wl.off rfl rfl rfl ?_)
      refine W.ret ?_
      refine Rt.intro_r (vs := [.agg (sch (n : Int) ((2 ^ ((others n x).length - 1) : Nat) : Int) (byO (others n x) n false) (byO (others n x) n true)), .int .i64 0]) (.cell rfl (by repeat first | exact List.Mem.head _ | apply List.Mem.tail) (by assumption) rfl (hsS _ _ _ _) (.tmp rfl .nil)) ?_
      simp [tup, schV, hok, hlt]
theorem l00Min_fn (a b : Int) : Fn Try.prog 80 #[.int .i64 a, .int .i64 b] tt (.int .i64 (if a < b then a else b)) := by
  refine fn_of_W (rs := [.tmp 4]) Try.func80 Try.ntmps80 (by kernel_rfl) rfl rfl rfl ?_

  intro w hw
  repeat (first | refine W.seq ?_ | refine W.region ?_ | refine W.block ?_ | refine W.skip ?_ | refine W.exit ?_ | refine Wl.nil ?_ | refine Wl.yg rfl rfl rfl (by first | exact Y.move (by conv => lhs; whnf) | exact Y.assign (by conv => lhs; whnf) | exact Y.bin rfl rfl rfl | exact Y.not rfl | exact Y.load rfl (by assumption) rfl (by repeat first | exact List.Mem.head _ | apply List.Mem.tail) rfl | exact Y.loadG rfl (by assumption) rfl (by repeat first | exact List.Mem.head _ | apply List.Mem.tail) (by first | assumption | (simp only [*]; done)) | exact Y.extractL rfl (by conv => lhs; whnf) | exact Y.pick_t rfl (by conv => lhs; whnf) | exact Y.pick_f rfl (by conv => lhs; whnf) | exact Y.neq_b rfl rfl (by assumption)) ?_ | refine Wl.off rfl rfl rfl ?_)
  refine W.cond rfl (fun hc => ?_) (fun hc => ?_)
  · have h := of_decide_eq_true hc
    repeat (first | refine W.seq ?_ | refine W.region ?_ | refine W.block ?_ | refine W.skip ?_ | refine W.exit ?_ | refine Wl.nil ?_ | refine Wl.yg rfl rfl rfl (by first | exact Y.move (by conv => lhs; whnf) | exact Y.assign (by conv => lhs; whnf) | exact Y.bin rfl rfl rfl | exact Y.not rfl | exact Y.load rfl (by assumption) rfl (by repeat first | exact List.Mem.head _ | apply List.Mem.tail) rfl | exact Y.loadG rfl (by assumption) rfl (by repeat first | exact List.Mem.head _ | apply List.Mem.tail) (by first | assumption | (simp only [*]; done)) | exact Y.extractL rfl (by conv => lhs; whnf) | exact Y.pick_t rfl (by conv => lhs; whnf) | exact Y.pick_f rfl (by conv => lhs; whnf) | exact Y.neq_b rfl rfl (by assumption)) ?_ | refine Wl.off rfl rfl rfl ?_)
    (refine W.ret ?_; first | refine Rt.b1 rfl ?_ | refine Rt.i1 rfl ?_)
    rw [if_pos h]
  · have h := of_decide_eq_false hc
    repeat (first | refine W.seq ?_ | refine W.region ?_ | refine W.block ?_ | refine W.skip ?_ | refine W.exit ?_ | refine Wl.nil ?_ | refine Wl.yg rfl rfl rfl (by first | exact Y.move (by conv => lhs; whnf) | exact Y.assign (by conv => lhs; whnf) | exact Y.bin rfl rfl rfl | exact Y.not rfl | exact Y.load rfl (by assumption) rfl (by repeat first | exact List.Mem.head _ | apply List.Mem.tail) rfl | exact Y.loadG rfl (by assumption) rfl (by repeat first | exact List.Mem.head _ | apply List.Mem.tail) (by first | assumption | (simp only [*]; done)) | exact Y.extractL rfl (by conv => lhs; whnf) | exact Y.pick_t rfl (by conv => lhs; whnf) | exact Y.pick_f rfl (by conv => lhs; whnf) | exact Y.neq_b rfl rfl (by assumption)) ?_ | refine Wl.off rfl rfl rfl ?_)
    (refine W.ret ?_; first | refine Rt.b1 rfl ?_ | refine Rt.i1 rfl ?_)
    rw [if_neg h]
def shoV (s : Int) (x : Nat) : Value := if okFam s x = true then (if pbo (others s.toNat x) < pbs (leasts x) (leasts x).length then schV s x else bysV s x) else .tuple #[.agg (sch 0 0 (fun _ => 0) (fun _ => 0)), .int .i64 1]
theorem shoV_form (s : Int) (x : Nat) : ∃ (p1 p2 : Int) (q1 q2 : Nat → Nat) (c : Int), shoV s x = .tuple #[.agg (sch p1 p2 q1 q2), .int .i64 c] := by
  unfold shoV schV bysV bySV
  repeat' split
  all_goals exact ⟨_, _, _, _, _, rfl⟩
theorem schV_form (s : Int) (x : Nat) : ∃ (p1 p2 : Int) (q1 q2 : Nat → Nat) (c : Int), schV s x = .tuple #[.agg (sch p1 p2 q1 q2), .int .i64 c] := by
  unfold schV
  repeat' split
  all_goals exact ⟨_, _, _, _, _, rfl⟩
theorem bysV_form (s : Int) (x : Nat) : ∃ (p1 p2 : Int) (q1 q2 : Nat → Nat) (c : Int), bysV s x = .tuple #[.agg (sch p1 p2 q1 q2), .int .i64 c] := by
  unfold bysV bySV
  repeat' split
  all_goals exact ⟨_, _, _, _, _, rfl⟩
theorem implSho_fn {s : Int} {x : Nat} (h8 : -128 ≤ s ∧ s < 128) (hx : x < 2 ^ 64) : Fn Try.prog 39 #[.agg #[.int .i8 s, .int .u64 (x : Int)]] tt (shoV s x) := by
  have hsS : ∀ n p f g, Option.map (fun x => x.size) (Try.prog.info? 50) = some (sch n p f g).size := fun n p f g => by rw [sch_size]; exact T.sz50
  obtain ⟨a1, a2, a3, a4, a5, hA⟩ := schV_form s x
  obtain ⟨b1, b2, b3, b4, b5, hB⟩ := bysV_form s x
  have fA := implSch_fn h8 hx
  have fB := implBys_fn h8 hx
  rw [hA] at fA
  rw [hB] at fB
  have hVn : okFam s x = false → bysV s x = shoV s x := fun h => by simp [bysV, shoV, h]
  have hVa : okFam s x = true → pbo (others s.toNat x) < pbs (leasts x) (leasts x).length → schV s x = shoV s x := fun h h2 => by simp [shoV, h, h2]
  have hVb : okFam s x = true → ¬ pbo (others s.toNat x) < pbs (leasts x) (leasts x).length → bysV s x = shoV s x := fun h h2 => by simp [shoV, h, h2]
  rw [hA] at hVa
  rw [hB] at hVn hVb
  generalize shoV s x = R at *
  refine fn_of_W (rs := [.cell 2 50, .tmp 3]) Try.func39 Try.ntmps39 (by kernel_rfl) rfl rfl rfl ?_
  have hu5 := Try.underlying5
  have hz5 := T.pos5
  have hs5 := T.sz5
  have hu22 := Try.underlying22
  have hz22 := T.pos22
  have hs22 := T.sz22
  have hu26 := Try.underlying26
  have hz26 := T.pos26
  have hs26 := T.sz26
  have hu35 := Try.underlying35
  have hz35 := T.pos35
  have hs35 := T.sz35
  have hu48 := Try.underlying48
  have hz48 := T.pos48
  have hs48 := T.sz48
  have hu50 := Try.underlying50
  have hz50 := T.pos50
  have hs50 := T.sz50
  intro w hw
  refine W.seq (W.region ?_)
  (first | refine Wl.boxA rfl rfl rfl rfl rfl ?_ | refine Wl.box rfl rfl rfl rfl rfl ?_)
  intro b
  refine Wl.alloc rfl rfl rfl rfl zero50 ?_
  intro c2
  rw [show (Value.agg #[Value.int .i8 0, Value.int .i8 0, .int .u8 0, .int .u8 0, .int .u8 0, .int .u8 0, .int .u8 0, .int .u8 0, .int .u8 0, .int .u8 0, .int .u8 0, .int .u8 0, .int .u8 0, .int .u8 0]).cells = sch 0 0 (fun _ => 0) (fun _ => 0) from sch_zero]
  repeat (first | refine W.seq ?_ | refine W.region ?_ | refine W.block ?_ | refine W.skip ?_ | refine W.exit ?_ | refine Wl.nil ?_ | refine Wl.yg rfl rfl rfl (by first | exact Y.move (by conv => lhs; whnf) | exact Y.assign (by conv => lhs; whnf) | exact Y.bin rfl rfl rfl | exact Y.not rfl | exact Y.load rfl (by assumption) rfl (by repeat first | exact List.Mem.head _ | apply List.Mem.tail) rfl | exact Y.loadG rfl (by assumption) rfl (by repeat first | exact List.Mem.head _ | apply List.Mem.tail) (by first | assumption | (simp only [*]; done)) | exact Y.extractL rfl (by conv => lhs; whnf) | exact Y.pick_t rfl (by conv => lhs; whnf) | exact Y.pick_f rfl (by conv => lhs; whnf) | exact Y.neq_b rfl rfl (by assumption)) ?_ | refine Wl.off rfl rfl rfl ?_)
  refine W.draw 9 mixed rfl rfl rfl ?_
  repeat (first | refine Sq.nil ?_ | refine Sq.run rfl rfl rfl (Yv.qt (by first | exact Y.move (by conv => lhs; whnf) | exact Y.assign (by conv => lhs; whnf) | exact Y.bin rfl rfl rfl | exact Y.not rfl | exact Y.load rfl (by assumption) rfl (by repeat first | exact List.Mem.head _ | apply List.Mem.tail) rfl | exact Y.loadG rfl (by assumption) rfl (by repeat first | exact List.Mem.head _ | apply List.Mem.tail) (by first | assumption | (simp only [*]; done)) | exact Y.extractL rfl (by conv => lhs; whnf) | exact Y.pick_t rfl (by conv => lhs; whnf) | exact Y.pick_f rfl (by conv => lhs; whnf) | exact Y.neq_b rfl rfl (by assumption))) ?_ | refine Sq.off rfl rfl rfl ?_)
  refine Sq.run rfl rfl rfl (Qt.call (validFamily_fn h8 hx) rfl (fun _ _ => trivial)) ?_
  repeat (first | refine Sq.nil ?_ | refine Sq.run rfl rfl rfl (Yv.qt (by first | exact Y.move (by conv => lhs; whnf) | exact Y.assign (by conv => lhs; whnf) | exact Y.bin rfl rfl rfl | exact Y.not rfl | exact Y.load rfl (by assumption) rfl (by repeat first | exact List.Mem.head _ | apply List.Mem.tail) rfl | exact Y.loadG rfl (by assumption) rfl (by repeat first | exact List.Mem.head _ | apply List.Mem.tail) (by first | assumption | (simp only [*]; done)) | exact Y.extractL rfl (by conv => lhs; whnf) | exact Y.pick_t rfl (by conv => lhs; whnf) | exact Y.pick_f rfl (by conv => lhs; whnf) | exact Y.neq_b rfl rfl (by assumption))) ?_ | refine Sq.off rfl rfl rfl ?_)
  cases hok : okFam s x
  · repeat (first | refine Sq.nil ?_ | refine Sq.run rfl rfl rfl (Yv.qt (by first | exact Y.move (by conv => lhs; whnf) | exact Y.assign (by conv => lhs; whnf) | exact Y.bin rfl rfl rfl | exact Y.not rfl | exact Y.load rfl (by assumption) rfl (by repeat first | exact List.Mem.head _ | apply List.Mem.tail) rfl | exact Y.loadG rfl (by assumption) rfl (by repeat first | exact List.Mem.head _ | apply List.Mem.tail) (by first | assumption | (simp only [*]; done)) | exact Y.extractL rfl (by conv => lhs; whnf) | exact Y.pick_t rfl (by conv => lhs; whnf) | exact Y.pick_f rfl (by conv => lhs; whnf) | exact Y.neq_b rfl rfl (by assumption))) ?_ | refine Sq.off rfl rfl rfl ?_)
    repeat (first | refine W.seq ?_ | refine W.region ?_ | refine W.block ?_ | refine W.skip ?_ | refine W.exit ?_ | refine Wl.nil ?_ | refine Wl.yg rfl rfl rfl (by first | exact Y.move (by conv => lhs; whnf) | exact Y.assign (by conv => lhs; whnf) | exact Y.bin rfl rfl rfl | exact Y.not rfl | exact Y.load rfl (by assumption) rfl (by repeat first | exact List.Mem.head _ | apply List.Mem.tail) rfl | exact Y.loadG rfl (by assumption) rfl (by repeat first | exact List.Mem.head _ | apply List.Mem.tail) (by first | assumption | (simp only [*]; done)) | exact Y.extractL rfl (by conv => lhs; whnf) | exact Y.pick_t rfl (by conv => lhs; whnf) | exact Y.pick_f rfl (by conv => lhs; whnf) | exact Y.neq_b rfl rfl (by assumption)) ?_ | refine Wl.off rfl rfl rfl ?_)
    refine W.cond (b := false) rfl (fun h => by cases h) (fun _ => ?_)
    repeat (first | refine W.seq ?_ | refine W.region ?_ | refine W.block ?_ | refine W.skip ?_ | refine W.exit ?_ | refine Wl.nil ?_ | refine Wl.yg rfl rfl rfl (by first | exact Y.move (by conv => lhs; whnf) | exact Y.assign (by conv => lhs; whnf) | exact Y.bin rfl rfl rfl | exact Y.not rfl | exact Y.load rfl (by assumption) rfl (by repeat first | exact List.Mem.head _ | apply List.Mem.tail) rfl | exact Y.loadG rfl (by assumption) rfl (by repeat first | exact List.Mem.head _ | apply List.Mem.tail) (by first | assumption | (simp only [*]; done)) | exact Y.extractL rfl (by conv => lhs; whnf) | exact Y.pick_t rfl (by conv => lhs; whnf) | exact Y.pick_f rfl (by conv => lhs; whnf) | exact Y.neq_b rfl rfl (by assumption)) ?_ | refine Wl.off rfl rfl rfl ?_)
    refine Wl.qt rfl rfl rfl (Qt.call (fB) rfl (fun _ _ => trivial)) ?_
    repeat (first | refine W.seq ?_ | refine W.region ?_ | refine W.block ?_ | refine W.skip ?_ | refine W.exit ?_ | refine Wl.nil ?_ | refine Wl.yg rfl rfl rfl (by first | exact Y.move (by conv => lhs; whnf) | exact Y.assign (by conv => lhs; whnf) | exact Y.bin rfl rfl rfl | exact Y.not rfl | exact Y.load rfl (by assumption) rfl (by repeat first | exact List.Mem.head _ | apply List.Mem.tail) rfl | exact Y.loadG rfl (by assumption) rfl (by repeat first | exact List.Mem.head _ | apply List.Mem.tail) (by first | assumption | (simp only [*]; done)) | exact Y.extractL rfl (by conv => lhs; whnf) | exact Y.pick_t rfl (by conv => lhs; whnf) | exact Y.pick_f rfl (by conv => lhs; whnf) | exact Y.neq_b rfl rfl (by assumption)) ?_ | refine Wl.off rfl rfl rfl ?_)
    refine Wl.storeS (cs := sch 0 0 (fun _ => 0) (fun _ => 0)) (vs := sch b1 b2 b3 b4) (cs' := sch b1 b2 b3 b4) rfl rfl rfl rfl rfl sch_one (hsS _ _ _ _) sch_same (by repeat first | exact Repl.here _ | apply Repl.there) (by first | (simp only [sch_size]; rfl) | (unfold bySV; simp only [sch_size]; rfl)) ?_
    repeat (first | refine W.seq ?_ | refine W.region ?_ | refine W.block ?_ | refine W.skip ?_ | refine W.exit ?_ | refine Wl.nil ?_ | refine Wl.yg rfl rfl rfl (by first | exact Y.move (by conv => lhs; whnf) | exact Y.assign (by conv => lhs; whnf) | exact Y.bin rfl rfl rfl | exact Y.not rfl | exact Y.load rfl (by assumption) rfl (by repeat first | exact List.Mem.head _ | apply List.Mem.tail) rfl | exact Y.loadG rfl (by assumption) rfl (by repeat first | exact List.Mem.head _ | apply List.Mem.tail) (by first | assumption | (simp only [*]; done)) | exact Y.extractL rfl (by conv => lhs; whnf) | exact Y.pick_t rfl (by conv => lhs; whnf) | exact Y.pick_f rfl (by conv => lhs; whnf) | exact Y.neq_b rfl rfl (by assumption)) ?_ | refine Wl.off rfl rfl rfl ?_)
    refine W.ret ?_
    refine Rt.intro_r (vs := [.agg (sch b1 b2 b3 b4), .int .i64 b5]) (.cell rfl (by repeat first | exact List.Mem.head _ | apply List.Mem.tail) (by assumption) rfl (hsS _ _ _ _) (.tmp rfl .nil)) ?_
    exact hVn hok
  · obtain ⟨n, rfl, h1, h6, hf⟩ := okFam_true hok
    repeat (first | refine Sq.nil ?_ | refine Sq.run rfl rfl rfl (Yv.qt (by first | exact Y.move (by conv => lhs; whnf) | exact Y.assign (by conv => lhs; whnf) | exact Y.bin rfl rfl rfl | exact Y.not rfl | exact Y.load rfl (by assumption) rfl (by repeat first | exact List.Mem.head _ | apply List.Mem.tail) rfl | exact Y.loadG rfl (by assumption) rfl (by repeat first | exact List.Mem.head _ | apply List.Mem.tail) (by first | assumption | (simp only [*]; done)) | exact Y.extractL rfl (by conv => lhs; whnf) | exact Y.pick_t rfl (by conv => lhs; whnf) | exact Y.pick_f rfl (by conv => lhs; whnf) | exact Y.neq_b rfl rfl (by assumption))) ?_ | refine Sq.off rfl rfl rfl ?_)
    refine Sq.run rfl rfl rfl (Qt.call (partsByOthers_fn h6 hx hf) rfl (fun _ _ => trivial)) ?_
    repeat (first | refine Sq.nil ?_ | refine Sq.run rfl rfl rfl (Yv.qt (by first | exact Y.move (by conv => lhs; whnf) | exact Y.assign (by conv => lhs; whnf) | exact Y.bin rfl rfl rfl | exact Y.not rfl | exact Y.load rfl (by assumption) rfl (by repeat first | exact List.Mem.head _ | apply List.Mem.tail) rfl | exact Y.loadG rfl (by assumption) rfl (by repeat first | exact List.Mem.head _ | apply List.Mem.tail) (by first | assumption | (simp only [*]; done)) | exact Y.extractL rfl (by conv => lhs; whnf) | exact Y.pick_t rfl (by conv => lhs; whnf) | exact Y.pick_f rfl (by conv => lhs; whnf) | exact Y.neq_b rfl rfl (by assumption))) ?_ | refine Sq.off rfl rfl rfl ?_)
    refine Sq.run rfl rfl rfl (Qt.call (partsBySets_fn h6 hx hf) rfl (fun _ _ => trivial)) ?_
    repeat (first | refine Sq.nil ?_ | refine Sq.run rfl rfl rfl (Yv.qt (by first | exact Y.move (by conv => lhs; whnf) | exact Y.assign (by conv => lhs; whnf) | exact Y.bin rfl rfl rfl | exact Y.not rfl | exact Y.load rfl (by assumption) rfl (by repeat first | exact List.Mem.head _ | apply List.Mem.tail) rfl | exact Y.loadG rfl (by assumption) rfl (by repeat first | exact List.Mem.head _ | apply List.Mem.tail) (by first | assumption | (simp only [*]; done)) | exact Y.extractL rfl (by conv => lhs; whnf) | exact Y.pick_t rfl (by conv => lhs; whnf) | exact Y.pick_f rfl (by conv => lhs; whnf) | exact Y.neq_b rfl rfl (by assumption))) ?_ | refine Sq.off rfl rfl rfl ?_)
    repeat (first | refine W.seq ?_ | refine W.region ?_ | refine W.block ?_ | refine W.skip ?_ | refine W.exit ?_ | refine Wl.nil ?_ | refine Wl.yg rfl rfl rfl (by first | exact Y.move (by conv => lhs; whnf) | exact Y.assign (by conv => lhs; whnf) | exact Y.bin rfl rfl rfl | exact Y.not rfl | exact Y.load rfl (by assumption) rfl (by repeat first | exact List.Mem.head _ | apply List.Mem.tail) rfl | exact Y.loadG rfl (by assumption) rfl (by repeat first | exact List.Mem.head _ | apply List.Mem.tail) (by first | assumption | (simp only [*]; done)) | exact Y.extractL rfl (by conv => lhs; whnf) | exact Y.pick_t rfl (by conv => lhs; whnf) | exact Y.pick_f rfl (by conv => lhs; whnf) | exact Y.neq_b rfl rfl (by assumption)) ?_ | refine Wl.off rfl rfl rfl ?_)
    refine W.cond rfl (fun hc => ?_) (fun hc => ?_)
    · have hlt := of_decide_eq_true hc
      repeat (first | refine W.seq ?_ | refine W.region ?_ | refine W.block ?_ | refine W.skip ?_ | refine W.exit ?_ | refine Wl.nil ?_ | refine Wl.yg rfl rfl rfl (by first | exact Y.move (by conv => lhs; whnf) | exact Y.assign (by conv => lhs; whnf) | exact Y.bin rfl rfl rfl | exact Y.not rfl | exact Y.load rfl (by assumption) rfl (by repeat first | exact List.Mem.head _ | apply List.Mem.tail) rfl | exact Y.loadG rfl (by assumption) rfl (by repeat first | exact List.Mem.head _ | apply List.Mem.tail) (by first | assumption | (simp only [*]; done)) | exact Y.extractL rfl (by conv => lhs; whnf) | exact Y.pick_t rfl (by conv => lhs; whnf) | exact Y.pick_f rfl (by conv => lhs; whnf) | exact Y.neq_b rfl rfl (by assumption)) ?_ | refine Wl.off rfl rfl rfl ?_)
      refine Wl.qt rfl rfl rfl (Qt.call (fA) rfl (fun _ _ => trivial)) ?_
      repeat (first | refine W.seq ?_ | refine W.region ?_ | refine W.block ?_ | refine W.skip ?_ | refine W.exit ?_ | refine Wl.nil ?_ | refine Wl.yg rfl rfl rfl (by first | exact Y.move (by conv => lhs; whnf) | exact Y.assign (by conv => lhs; whnf) | exact Y.bin rfl rfl rfl | exact Y.not rfl | exact Y.load rfl (by assumption) rfl (by repeat first | exact List.Mem.head _ | apply List.Mem.tail) rfl | exact Y.loadG rfl (by assumption) rfl (by repeat first | exact List.Mem.head _ | apply List.Mem.tail) (by first | assumption | (simp only [*]; done)) | exact Y.extractL rfl (by conv => lhs; whnf) | exact Y.pick_t rfl (by conv => lhs; whnf) | exact Y.pick_f rfl (by conv => lhs; whnf) | exact Y.neq_b rfl rfl (by assumption)) ?_ | refine Wl.off rfl rfl rfl ?_)
      refine Wl.storeS (cs := sch 0 0 (fun _ => 0) (fun _ => 0)) (vs := sch a1 a2 a3 a4) (cs' := sch a1 a2 a3 a4) rfl rfl rfl rfl rfl sch_one (hsS _ _ _ _) sch_same (by repeat first | exact Repl.here _ | apply Repl.there) (by first | (simp only [sch_size]; rfl) | (unfold bySV; simp only [sch_size]; rfl)) ?_
      repeat (first | refine W.seq ?_ | refine W.region ?_ | refine W.block ?_ | refine W.skip ?_ | refine W.exit ?_ | refine Wl.nil ?_ | refine Wl.yg rfl rfl rfl (by first | exact Y.move (by conv => lhs; whnf) | exact Y.assign (by conv => lhs; whnf) | exact Y.bin rfl rfl rfl | exact Y.not rfl | exact Y.load rfl (by assumption) rfl (by repeat first | exact List.Mem.head _ | apply List.Mem.tail) rfl | exact Y.loadG rfl (by assumption) rfl (by repeat first | exact List.Mem.head _ | apply List.Mem.tail) (by first | assumption | (simp only [*]; done)) | exact Y.extractL rfl (by conv => lhs; whnf) | exact Y.pick_t rfl (by conv => lhs; whnf) | exact Y.pick_f rfl (by conv => lhs; whnf) | exact Y.neq_b rfl rfl (by assumption)) ?_ | refine Wl.off rfl rfl rfl ?_)
      refine W.ret ?_
      refine Rt.intro_r (vs := [.agg (sch a1 a2 a3 a4), .int .i64 a5]) (.cell rfl (by repeat first | exact List.Mem.head _ | apply List.Mem.tail) (by assumption) rfl (hsS _ _ _ _) (.tmp rfl .nil)) ?_
      exact hVa hok hlt
    · have hlt := of_decide_eq_false hc
      repeat (first | refine W.seq ?_ | refine W.region ?_ | refine W.block ?_ | refine W.skip ?_ | refine W.exit ?_ | refine Wl.nil ?_ | refine Wl.yg rfl rfl rfl (by first | exact Y.move (by conv => lhs; whnf) | exact Y.assign (by conv => lhs; whnf) | exact Y.bin rfl rfl rfl | exact Y.not rfl | exact Y.load rfl (by assumption) rfl (by repeat first | exact List.Mem.head _ | apply List.Mem.tail) rfl | exact Y.loadG rfl (by assumption) rfl (by repeat first | exact List.Mem.head _ | apply List.Mem.tail) (by first | assumption | (simp only [*]; done)) | exact Y.extractL rfl (by conv => lhs; whnf) | exact Y.pick_t rfl (by conv => lhs; whnf) | exact Y.pick_f rfl (by conv => lhs; whnf) | exact Y.neq_b rfl rfl (by assumption)) ?_ | refine Wl.off rfl rfl rfl ?_)
      refine Wl.qt rfl rfl rfl (Qt.call (fB) rfl (fun _ _ => trivial)) ?_
      repeat (first | refine W.seq ?_ | refine W.region ?_ | refine W.block ?_ | refine W.skip ?_ | refine W.exit ?_ | refine Wl.nil ?_ | refine Wl.yg rfl rfl rfl (by first | exact Y.move (by conv => lhs; whnf) | exact Y.assign (by conv => lhs; whnf) | exact Y.bin rfl rfl rfl | exact Y.not rfl | exact Y.load rfl (by assumption) rfl (by repeat first | exact List.Mem.head _ | apply List.Mem.tail) rfl | exact Y.loadG rfl (by assumption) rfl (by repeat first | exact List.Mem.head _ | apply List.Mem.tail) (by first | assumption | (simp only [*]; done)) | exact Y.extractL rfl (by conv => lhs; whnf) | exact Y.pick_t rfl (by conv => lhs; whnf) | exact Y.pick_f rfl (by conv => lhs; whnf) | exact Y.neq_b rfl rfl (by assumption)) ?_ | refine Wl.off rfl rfl rfl ?_)
      refine Wl.storeS (cs := sch 0 0 (fun _ => 0) (fun _ => 0)) (vs := sch b1 b2 b3 b4) (cs' := sch b1 b2 b3 b4) rfl rfl rfl rfl rfl sch_one (hsS _ _ _ _) sch_same (by repeat first | exact Repl.here _ | apply Repl.there) (by first | (simp only [sch_size]; rfl) | (unfold bySV; simp only [sch_size]; rfl)) ?_
      repeat (first | refine W.seq ?_ | refine W.region ?_ | refine W.block ?_ | refine W.skip ?_ | refine W.exit ?_ | refine Wl.nil ?_ | refine Wl.yg rfl rfl rfl (by first | exact Y.move (by conv => lhs; whnf) | exact Y.assign (by conv => lhs; whnf) | exact Y.bin rfl rfl rfl | exact Y.not rfl | exact Y.load rfl (by assumption) rfl (by repeat first | exact List.Mem.head _ | apply List.Mem.tail) rfl | exact Y.loadG rfl (by assumption) rfl (by repeat first | exact List.Mem.head _ | apply List.Mem.tail) (by first | assumption | (simp only [*]; done)) | exact Y.extractL rfl (by conv => lhs; whnf) | exact Y.pick_t rfl (by conv => lhs; whnf) | exact Y.pick_f rfl (by conv => lhs; whnf) | exact Y.neq_b rfl rfl (by assumption)) ?_ | refine Wl.off rfl rfl rfl ?_)
      refine W.ret ?_
      refine Rt.intro_r (vs := [.agg (sch b1 b2 b3 b4), .int .i64 b5]) (.cell rfl (by repeat first | exact List.Mem.head _ | apply List.Mem.tail) (by assumption) rfl (hsS _ _ _ _) (.tmp rfl .nil)) ?_
      exact hVb hok hlt
theorem specSho_fn {s : Int} {x : Nat} (h8 : -128 ≤ s ∧ s < 128) (hx : x < 2 ^ 64) : Fn Try.prog 38 #[.agg #[.int .i8 s, .int .u64 (x : Int)]] tt (shoV s x) := by
  have hsS : ∀ n p f g, Option.map (fun x => x.size) (Try.prog.info? 50) = some (sch n p f g).size := fun n p f g => by rw [sch_size]; exact T.sz50
  refine fn_of_W (rs := [.cell 2 50, .tmp 3]) Try.func38 Try.ntmps38 (by kernel_rfl) rfl rfl rfl ?_
  have hu2 := Try.underlying2
  have hz2 := T.pos2
  have hs2 := T.sz2
  have hu5 := Try.underlying5
  have hz5 := T.pos5
  have hs5 := T.sz5
  have hu22 := Try.underlying22
  have hz22 := T.pos22
  have hs22 := T.sz22
  have hu26 := Try.underlying26
  have hz26 := T.pos26
  have hs26 := T.sz26
  have hu35 := Try.underlying35
  have hz35 := T.pos35
  have hs35 := T.sz35
  have hu48 := Try.underlying48
  have hz48 := T.pos48
  have hs48 := T.sz48
  have hu50 := Try.underlying50
  have hz50 := T.pos50
  have hs50 := T.sz50
  have hu76 := Try.underlying76
  have hz76 := T.pos76
  have hs76 := T.sz76
  intro w hw
  refine W.seq (W.region ?_)
  (first | refine Wl.boxA rfl rfl rfl rfl rfl ?_ | refine Wl.box rfl rfl rfl rfl rfl ?_)
  intro b
  refine Wl.alloc rfl rfl rfl rfl zero50 ?_
  intro b2
  rw [show (Value.agg #[Value.int .i8 0, Value.int .i8 0, .int .u8 0, .int .u8 0, .int .u8 0, .int .u8 0, .int .u8 0, .int .u8 0, .int .u8 0, .int .u8 0, .int .u8 0, .int .u8 0, .int .u8 0, .int .u8 0]).cells = sch 0 0 (fun _ => 0) (fun _ => 0) from sch_zero]
  repeat (first | refine W.seq ?_ | refine W.region ?_ | refine W.block ?_ | refine W.skip ?_ | refine W.exit ?_ | refine Wl.nil ?_ | refine Wl.yg rfl rfl rfl (by first | exact Y.move (by conv => lhs; whnf) | exact Y.assign (by conv => lhs; whnf) | exact Y.bin rfl rfl rfl | exact Y.not rfl | exact Y.load rfl (by assumption) rfl (by repeat first | exact List.Mem.head _ | apply List.Mem.tail) rfl | exact Y.loadG rfl (by assumption) rfl (by repeat first | exact List.Mem.head _ | apply List.Mem.tail) (by first | assumption | (simp only [*]; done)) | exact Y.extractL rfl (by conv => lhs; whnf) | exact Y.pick_t rfl (by conv => lhs; whnf) | exact Y.pick_f rfl (by conv => lhs; whnf) | exact Y.neq_b rfl rfl (by assumption)) ?_ | refine Wl.off rfl rfl rfl ?_)
  refine Wl.qt rfl rfl rfl (Qt.call (l04Ok_fn (b := b) h8 hx) rfl (fun _ hm => own_blk hm (by repeat first | exact List.Mem.head _ | apply List.Mem.tail))) ?_
  repeat (first | refine W.seq ?_ | refine W.region ?_ | refine W.block ?_ | refine W.skip ?_ | refine W.exit ?_ | refine Wl.nil ?_ | refine Wl.yg rfl rfl rfl (by first | exact Y.move (by conv => lhs; whnf) | exact Y.assign (by conv => lhs; whnf) | exact Y.bin rfl rfl rfl | exact Y.not rfl | exact Y.load rfl (by assumption) rfl (by repeat first | exact List.Mem.head _ | apply List.Mem.tail) rfl | exact Y.loadG rfl (by assumption) rfl (by repeat first | exact List.Mem.head _ | apply List.Mem.tail) (by first | assumption | (simp only [*]; done)) | exact Y.extractL rfl (by conv => lhs; whnf) | exact Y.pick_t rfl (by conv => lhs; whnf) | exact Y.pick_f rfl (by conv => lhs; whnf) | exact Y.neq_b rfl rfl (by assumption)) ?_ | refine Wl.off rfl rfl rfl ?_)
  cases hok : okFam s x
  · refine W.cond (b := true) rfl (fun _ => ?_) (fun h => by cases h)
    repeat (first | refine W.seq ?_ | refine W.region ?_ | refine W.block ?_ | refine W.skip ?_ | refine W.exit ?_ | refine Wl.nil ?_ | refine Wl.yg rfl rfl rfl (by first | exact Y.move (by conv => lhs; whnf) | exact Y.assign (by conv => lhs; whnf) | exact Y.bin rfl rfl rfl | exact Y.not rfl | exact Y.load rfl (by assumption) rfl (by repeat first | exact List.Mem.head _ | apply List.Mem.tail) rfl | exact Y.loadG rfl (by assumption) rfl (by repeat first | exact List.Mem.head _ | apply List.Mem.tail) (by first | assumption | (simp only [*]; done)) | exact Y.extractL rfl (by conv => lhs; whnf) | exact Y.pick_t rfl (by conv => lhs; whnf) | exact Y.pick_f rfl (by conv => lhs; whnf) | exact Y.neq_b rfl rfl (by assumption)) ?_ | refine Wl.off rfl rfl rfl ?_)
    refine Wl.y rfl rfl rfl ((Y.build (cells := #[Value.int .i8 0, Value.int .i8 0, .int .u8 0, .int .u8 0, .int .u8 0, .int .u8 0, .int .u8 0, .int .u8 0, .int .u8 0, .int .u8 0, .int .u8 0, .int .u8 0, .int .u8 0, .int .u8 0]) (by kernel_rfl)).cast (congrArg Value.agg sch_zero)) ?_
    refine Wl.storeS (cs := sch 0 0 (fun _ => 0) (fun _ => 0)) (vs := sch 0 0 (fun _ => 0) (fun _ => 0)) (cs' := sch 0 0 (fun _ => 0) (fun _ => 0)) rfl rfl rfl rfl rfl sch_one (hsS _ _ _ _) sch_same (by repeat first | exact Repl.here _ | apply Repl.there) (by first | (simp only [sch_size]; rfl) | (unfold bySV; simp only [sch_size]; rfl)) ?_
    repeat (first | refine W.seq ?_ | refine W.region ?_ | refine W.block ?_ | refine W.skip ?_ | refine W.exit ?_ | refine Wl.nil ?_ | refine Wl.yg rfl rfl rfl (by first | exact Y.move (by conv => lhs; whnf) | exact Y.assign (by conv => lhs; whnf) | exact Y.bin rfl rfl rfl | exact Y.not rfl | exact Y.load rfl (by assumption) rfl (by repeat first | exact List.Mem.head _ | apply List.Mem.tail) rfl | exact Y.loadG rfl (by assumption) rfl (by repeat first | exact List.Mem.head _ | apply List.Mem.tail) (by first | assumption | (simp only [*]; done)) | exact Y.extractL rfl (by conv => lhs; whnf) | exact Y.pick_t rfl (by conv => lhs; whnf) | exact Y.pick_f rfl (by conv => lhs; whnf) | exact Y.neq_b rfl rfl (by assumption)) ?_ | refine Wl.off rfl rfl rfl ?_)
    refine W.ret ?_
    refine Rt.intro_r (vs := [.agg (sch 0 0 (fun _ => 0) (fun _ => 0)), .int .i64 1]) (.cell rfl (by repeat first | exact List.Mem.head _ | apply List.Mem.tail) (by assumption) rfl (hsS _ _ _ _) (.tmp rfl .nil)) ?_
    simp [tup, shoV, hok]
  · obtain ⟨n, rfl, h1, h6, hf⟩ := okFam_true hok
    refine W.cond (b := false) rfl (fun h => by cases h) (fun _ => ?_)
    repeat (first | refine W.seq ?_ | refine W.region ?_ | refine W.block ?_ | refine W.skip ?_ | refine W.exit ?_ | refine Wl.nil ?_ | refine Wl.yg rfl rfl rfl (by first | exact Y.move (by conv => lhs; whnf) | exact Y.assign (by conv => lhs; whnf) | exact Y.bin rfl rfl rfl | exact Y.not rfl | exact Y.load rfl (by assumption) rfl (by repeat first | exact List.Mem.head _ | apply List.Mem.tail) rfl | exact Y.loadG rfl (by assumption) rfl (by repeat first | exact List.Mem.head _ | apply List.Mem.tail) (by first | assumption | (simp only [*]; done)) | exact Y.extractL rfl (by conv => lhs; whnf) | exact Y.pick_t rfl (by conv => lhs; whnf) | exact Y.pick_f rfl (by conv => lhs; whnf) | exact Y.neq_b rfl rfl (by assumption)) ?_ | refine Wl.off rfl rfl rfl ?_)
    refine Wl.qt rfl rfl rfl (Qt.call (l04BySets_fn (b := b) h6 hx hf) rfl (fun _ hm => own_blk hm (by repeat first | exact List.Mem.head _ | apply List.Mem.tail))) ?_
    repeat (first | refine W.seq ?_ | refine W.region ?_ | refine W.block ?_ | refine W.skip ?_ | refine W.exit ?_ | refine Wl.nil ?_ | refine Wl.yg rfl rfl rfl (by first | exact Y.move (by conv => lhs; whnf) | exact Y.assign (by conv => lhs; whnf) | exact Y.bin rfl rfl rfl | exact Y.not rfl | exact Y.load rfl (by assumption) rfl (by repeat first | exact List.Mem.head _ | apply List.Mem.tail) rfl | exact Y.loadG rfl (by assumption) rfl (by repeat first | exact List.Mem.head _ | apply List.Mem.tail) (by first | assumption | (simp only [*]; done)) | exact Y.extractL rfl (by conv => lhs; whnf) | exact Y.pick_t rfl (by conv => lhs; whnf) | exact Y.pick_f rfl (by conv => lhs; whnf) | exact Y.neq_b rfl rfl (by assumption)) ?_ | refine Wl.off rfl rfl rfl ?_)
    refine Wl.qt rfl rfl rfl (Qt.call (l04ByOthers_fn (b := b) h6 hx hf) rfl (fun _ hm => own_blk hm (by repeat first | exact List.Mem.head _ | apply List.Mem.tail))) ?_
    repeat (first | refine W.seq ?_ | refine W.region ?_ | refine W.block ?_ | refine W.skip ?_ | refine W.exit ?_ | refine Wl.nil ?_ | refine Wl.yg rfl rfl rfl (by first | exact Y.move (by conv => lhs; whnf) | exact Y.assign (by conv => lhs; whnf) | exact Y.bin rfl rfl rfl | exact Y.not rfl | exact Y.load rfl (by assumption) rfl (by repeat first | exact List.Mem.head _ | apply List.Mem.tail) rfl | exact Y.loadG rfl (by assumption) rfl (by repeat first | exact List.Mem.head _ | apply List.Mem.tail) (by first | assumption | (simp only [*]; done)) | exact Y.extractL rfl (by conv => lhs; whnf) | exact Y.pick_t rfl (by conv => lhs; whnf) | exact Y.pick_f rfl (by conv => lhs; whnf) | exact Y.neq_b rfl rfl (by assumption)) ?_ | refine Wl.off rfl rfl rfl ?_)
    refine Wl.qt rfl rfl rfl (Qt.call (l00Min_fn (pbs (leasts x) (leasts x).length) (pbo (others n x))) rfl (fun _ _ => trivial)) ?_
    repeat (first | refine W.seq ?_ | refine W.region ?_ | refine W.block ?_ | refine W.skip ?_ | refine W.exit ?_ | refine Wl.nil ?_ | refine Wl.yg rfl rfl rfl (by first | exact Y.move (by conv => lhs; whnf) | exact Y.assign (by conv => lhs; whnf) | exact Y.bin rfl rfl rfl | exact Y.not rfl | exact Y.load rfl (by assumption) rfl (by repeat first | exact List.Mem.head _ | apply List.Mem.tail) rfl | exact Y.loadG rfl (by assumption) rfl (by repeat first | exact List.Mem.head _ | apply List.Mem.tail) (by first | assumption | (simp only [*]; done)) | exact Y.extractL rfl (by conv => lhs; whnf) | exact Y.pick_t rfl (by conv => lhs; whnf) | exact Y.pick_f rfl (by conv => lhs; whnf) | exact Y.neq_b rfl rfl (by assumption)) ?_ | refine Wl.off rfl rfl rfl ?_)
    refine W.cond rfl (fun hc => ?_) (fun hc => ?_)
    · have hlt := of_decide_eq_true hc
      repeat (first | refine W.seq ?_ | refine W.region ?_ | refine W.block ?_ | refine W.skip ?_ | refine W.exit ?_ | refine Wl.nil ?_ | refine Wl.yg rfl rfl rfl (by first | exact Y.move (by conv => lhs; whnf) | exact Y.assign (by conv => lhs; whnf) | exact Y.bin rfl rfl rfl | exact Y.not rfl | exact Y.load rfl (by assumption) rfl (by repeat first | exact List.Mem.head _ | apply List.Mem.tail) rfl | exact Y.loadG rfl (by assumption) rfl (by repeat first | exact List.Mem.head _ | apply List.Mem.tail) (by first | assumption | (simp only [*]; done)) | exact Y.extractL rfl (by conv => lhs; whnf) | exact Y.pick_t rfl (by conv => lhs; whnf) | exact Y.pick_f rfl (by conv => lhs; whnf) | exact Y.neq_b rfl rfl (by assumption)) ?_ | refine Wl.off rfl rfl rfl ?_)
      refine Wl.y rfl rfl rfl ((Y.build (cells := #[Value.int .i8 0, Value.int .i8 0, .int .u8 0, .int .u8 0, .int .u8 0, .int .u8 0, .int .u8 0, .int .u8 0, .int .u8 0, .int .u8 0, .int .u8 0, .int .u8 0, .int .u8 0, .int .u8 0]) (by kernel_rfl)).cast (congrArg Value.agg sch_zero)) ?_
      refine Wl.storeS (cs := sch 0 0 (fun _ => 0) (fun _ => 0)) (vs := sch 0 0 (fun _ => 0) (fun _ => 0)) (cs' := sch 0 0 (fun _ => 0) (fun _ => 0)) rfl rfl rfl rfl rfl sch_one (hsS _ _ _ _) sch_same (by repeat first | exact Repl.here _ | apply Repl.there) (by first | (simp only [sch_size]; rfl) | (unfold bySV; simp only [sch_size]; rfl)) ?_
      repeat (first | refine W.seq ?_ | refine W.region ?_ | refine W.block ?_ | refine W.skip ?_ | refine W.exit ?_ | refine Wl.nil ?_ | refine Wl.yg rfl rfl rfl (by first | exact Y.move (by conv => lhs; whnf) | exact Y.assign (by conv => lhs; whnf) | exact Y.bin rfl rfl rfl | exact Y.not rfl | exact Y.load rfl (by assumption) rfl (by repeat first | exact List.Mem.head _ | apply List.Mem.tail) rfl | exact Y.loadG rfl (by assumption) rfl (by repeat first | exact List.Mem.head _ | apply List.Mem.tail) (by first | assumption | (simp only [*]; done)) | exact Y.extractL rfl (by conv => lhs; whnf) | exact Y.pick_t rfl (by conv => lhs; whnf) | exact Y.pick_f rfl (by conv => lhs; whnf) | exact Y.neq_b rfl rfl (by assumption)) ?_ | refine Wl.off rfl rfl rfl ?_)
      refine W.ret ?_
      refine Rt.intro_r (vs := [.agg (sch 0 0 (fun _ => 0) (fun _ => 0)), .int .i64 3]) (.cell rfl (by repeat first | exact List.Mem.head _ | apply List.Mem.tail) (by assumption) rfl (hsS _ _ _ _) (.tmp rfl .nil)) ?_
      by_cases h : pbo (others n x) < pbs (leasts x) (leasts x).length
      · have h2 : 8 < pbo (others n x) := by
          split at hlt <;> omega
        simp [tup, shoV, schV, hok, h, h2]
      · have h2 : 8 < pbs (leasts x) (leasts x).length := by
          split at hlt <;> omega
        simp [tup, shoV, bysV, hok, h, h2]
    · have hlt := of_decide_eq_false hc
      repeat (first | refine W.seq ?_ | refine W.region ?_ | refine W.block ?_ | refine W.skip ?_ | refine W.exit ?_ | refine Wl.nil ?_ | refine Wl.yg rfl rfl rfl (by first | exact Y.move (by conv => lhs; whnf) | exact Y.assign (by conv => lhs; whnf) | exact Y.bin rfl rfl rfl | exact Y.not rfl | exact Y.load rfl (by assumption) rfl (by repeat first | exact List.Mem.head _ | apply List.Mem.tail) rfl | exact Y.loadG rfl (by assumption) rfl (by repeat first | exact List.Mem.head _ | apply List.Mem.tail) (by first | assumption | (simp only [*]; done)) | exact Y.extractL rfl (by conv => lhs; whnf) | exact Y.pick_t rfl (by conv => lhs; whnf) | exact Y.pick_f rfl (by conv => lhs; whnf) | exact Y.neq_b rfl rfl (by assumption)) ?_ | refine Wl.off rfl rfl rfl ?_)
      refine W.cond rfl (fun hd => ?_) (fun hd => ?_)
      · have hle := of_decide_eq_true hd
        have h2 : ¬ 8 < pbs (leasts x) (leasts x).length := by
          split at hlt <;> omega
        have hl8 := off_of h2
        have h : ¬ pbo (others n x) < pbs (leasts x) (leasts x).length := by omega
        repeat (first | refine W.seq ?_ | refine W.region ?_ | refine W.block ?_ | refine W.skip ?_ | refine W.exit ?_ | refine Wl.nil ?_ | refine Wl.yg rfl rfl rfl (by first | exact Y.move (by conv => lhs; whnf) | exact Y.assign (by conv => lhs; whnf) | exact Y.bin rfl rfl rfl | exact Y.not rfl | exact Y.load rfl (by assumption) rfl (by repeat first | exact List.Mem.head _ | apply List.Mem.tail) rfl | exact Y.loadG rfl (by assumption) rfl (by repeat first | exact List.Mem.head _ | apply List.Mem.tail) (by first | assumption | (simp only [*]; done)) | exact Y.extractL rfl (by conv => lhs; whnf) | exact Y.pick_t rfl (by conv => lhs; whnf) | exact Y.pick_f rfl (by conv => lhs; whnf) | exact Y.neq_b rfl rfl (by assumption)) ?_ | refine Wl.off rfl rfl rfl ?_)
        refine Wl.qt rfl rfl rfl (Qt.call (l04MadeBySets_fn (b := b) h6 hx (zero_out hf) hl8) rfl (fun _ hm => own_blk hm (by repeat first | exact List.Mem.head _ | apply List.Mem.tail))) ?_
        repeat (first | refine W.seq ?_ | refine W.region ?_ | refine W.block ?_ | refine W.skip ?_ | refine W.exit ?_ | refine Wl.nil ?_ | refine Wl.yg rfl rfl rfl (by first | exact Y.move (by conv => lhs; whnf) | exact Y.assign (by conv => lhs; whnf) | exact Y.bin rfl rfl rfl | exact Y.not rfl | exact Y.load rfl (by assumption) rfl (by repeat first | exact List.Mem.head _ | apply List.Mem.tail) rfl | exact Y.loadG rfl (by assumption) rfl (by repeat first | exact List.Mem.head _ | apply List.Mem.tail) (by first | assumption | (simp only [*]; done)) | exact Y.extractL rfl (by conv => lhs; whnf) | exact Y.pick_t rfl (by conv => lhs; whnf) | exact Y.pick_f rfl (by conv => lhs; whnf) | exact Y.neq_b rfl rfl (by assumption)) ?_ | refine Wl.off rfl rfl rfl ?_)
        refine Wl.storeS (cs := sch 0 0 (fun _ => 0) (fun _ => 0)) (vs := bySV (leasts x) n) (cs' := bySV (leasts x) n) rfl rfl rfl rfl rfl sch_one (hsS _ _ _ _) sch_same (by repeat first | exact Repl.here _ | apply Repl.there) (by first | (simp only [sch_size]; rfl) | (unfold bySV; simp only [sch_size]; rfl)) ?_
        repeat (first | refine W.seq ?_ | refine W.region ?_ | refine W.block ?_ | refine W.skip ?_ | refine W.exit ?_ | refine Wl.nil ?_ | refine Wl.yg rfl rfl rfl (by first | exact Y.move (by conv => lhs; whnf) | exact Y.assign (by conv => lhs; whnf) | exact Y.bin rfl rfl rfl | exact Y.not rfl | exact Y.load rfl (by assumption) rfl (by repeat first | exact List.Mem.head _ | apply List.Mem.tail) rfl | exact Y.loadG rfl (by assumption) rfl (by repeat first | exact List.Mem.head _ | apply List.Mem.tail) (by first | assumption | (simp only [*]; done)) | exact Y.extractL rfl (by conv => lhs; whnf) | exact Y.pick_t rfl (by conv => lhs; whnf) | exact Y.pick_f rfl (by conv => lhs; whnf) | exact Y.neq_b rfl rfl (by assumption)) ?_ | refine Wl.off rfl rfl rfl ?_)
        refine W.ret ?_
        refine Rt.intro_r (vs := [.agg (bySV (leasts x) n), .int .i64 0]) (.cell rfl (by repeat first | exact List.Mem.head _ | apply List.Mem.tail) (by assumption) rfl (hsS _ _ _ _) (.tmp rfl .nil)) ?_
        simp [tup, shoV, bysV, hok, h, h2]
      · have hle := of_decide_eq_false hd
        have h : pbo (others n x) < pbs (leasts x) (leasts x).length := by omega
        have h2 : ¬ 8 < pbo (others n x) := by
          split at hlt <;> omega
        have hl4 := pbo_le (others_le h6 hf) (Int.not_lt.1 h2)
        repeat (first | refine W.seq ?_ | refine W.region ?_ | refine W.block ?_ | refine W.skip ?_ | refine W.exit ?_ | refine Wl.nil ?_ | refine Wl.yg rfl rfl rfl (by first | exact Y.move (by conv => lhs; whnf) | exact Y.assign (by conv => lhs; whnf) | exact Y.bin rfl rfl rfl | exact Y.not rfl | exact Y.load rfl (by assumption) rfl (by repeat first | exact List.Mem.head _ | apply List.Mem.tail) rfl | exact Y.loadG rfl (by assumption) rfl (by repeat first | exact List.Mem.head _ | apply List.Mem.tail) (by first | assumption | (simp only [*]; done)) | exact Y.extractL rfl (by conv => lhs; whnf) | exact Y.pick_t rfl (by conv => lhs; whnf) | exact Y.pick_f rfl (by conv => lhs; whnf) | exact Y.neq_b rfl rfl (by assumption)) ?_ | refine Wl.off rfl rfl rfl ?_)
        refine Wl.qt rfl rfl rfl (Qt.call (l04MadeByOthers_fn (b := b) h6 hx (others_pos hf) hl4) rfl (fun _ hm => own_blk hm (by repeat first | exact List.Mem.head _ | apply List.Mem.tail))) ?_
        repeat (first | refine W.seq ?_ | refine W.region ?_ | refine W.block ?_ | refine W.skip ?_ | refine W.exit ?_ | refine Wl.nil ?_ | refine Wl.yg rfl rfl rfl (by first | exact Y.move (by conv => lhs; whnf) | exact Y.assign (by conv => lhs; whnf) | exact Y.bin rfl rfl rfl | exact Y.not rfl | exact Y.load rfl (by assumption) rfl (by repeat first | exact List.Mem.head _ | apply List.Mem.tail) rfl | exact Y.loadG rfl (by assumption) rfl (by repeat first | exact List.Mem.head _ | apply List.Mem.tail) (by first | assumption | (simp only [*]; done)) | exact Y.extractL rfl (by conv => lhs; whnf) | exact Y.pick_t rfl (by conv => lhs; whnf) | exact Y.pick_f rfl (by conv => lhs; whnf) | exact Y.neq_b rfl rfl (by assumption)) ?_ | refine Wl.off rfl rfl rfl ?_)
        refine Wl.storeS (cs := sch 0 0 (fun _ => 0) (fun _ => 0)) (vs := sch (n : Int) ((2 ^ ((others n x).length - 1) : Nat) : Int) (byO (others n x) n false) (byO (others n x) n true)) (cs' := sch (n : Int) ((2 ^ ((others n x).length - 1) : Nat) : Int) (byO (others n x) n false) (byO (others n x) n true)) rfl rfl rfl rfl rfl sch_one (hsS _ _ _ _) sch_same (by repeat first | exact Repl.here _ | apply Repl.there) (by first | (simp only [sch_size]; rfl) | (unfold bySV; simp only [sch_size]; rfl)) ?_
        repeat (first | refine W.seq ?_ | refine W.region ?_ | refine W.block ?_ | refine W.skip ?_ | refine W.exit ?_ | refine Wl.nil ?_ | refine Wl.yg rfl rfl rfl (by first | exact Y.move (by conv => lhs; whnf) | exact Y.assign (by conv => lhs; whnf) | exact Y.bin rfl rfl rfl | exact Y.not rfl | exact Y.load rfl (by assumption) rfl (by repeat first | exact List.Mem.head _ | apply List.Mem.tail) rfl | exact Y.loadG rfl (by assumption) rfl (by repeat first | exact List.Mem.head _ | apply List.Mem.tail) (by first | assumption | (simp only [*]; done)) | exact Y.extractL rfl (by conv => lhs; whnf) | exact Y.pick_t rfl (by conv => lhs; whnf) | exact Y.pick_f rfl (by conv => lhs; whnf) | exact Y.neq_b rfl rfl (by assumption)) ?_ | refine Wl.off rfl rfl rfl ?_)
        refine W.ret ?_
        refine Rt.intro_r (vs := [.agg (sch (n : Int) ((2 ^ ((others n x).length - 1) : Nat) : Int) (byO (others n x) n false) (byO (others n x) n true)), .int .i64 0]) (.cell rfl (by repeat first | exact List.Mem.head _ | apply List.Mem.tail) (by assumption) rfl (hsS _ _ _ _) (.tmp rfl .nil)) ?_
        simp [tup, shoV, schV, hok, h, h2]
theorem lawSho {s : Int} {x : Nat} (h8 : -128 ≤ s ∧ s < 128) (hx : x < 2 ^ 64) : Fn Try.prog 11 #[.agg #[.int .i8 s, .int .u64 (x : Int)]] tt (.bool true) := by
  have hsS : ∀ n p f g, Option.map (fun x => x.size) (Try.prog.info? 50) = some (sch n p f g).size := fun n p f g => by rw [sch_size]; exact T.sz50
  have hv : ∃ (p1 p2 : Int) (q1 q2 : Nat → Nat) (c : Int), shoV s x = .tuple #[.agg (sch p1 p2 q1 q2), .int .i64 c] := by
    exact shoV_form s x
  obtain ⟨p1, p2, q1, q2, c, hv⟩ := hv
  have hsW := hsS p1 p2 q1 q2
  have f1 := specSho_fn h8 hx
  have f2 := implSho_fn h8 hx
  rw [hv] at f1 f2
  refine fn_of_W (rs := [.tmp 2]) Try.func11 Try.ntmps11 (by kernel_rfl) rfl rfl rfl ?_
  have hu2 := Try.underlying2
  have hz2 := T.pos2
  have hs2 := T.sz2
  have hu5 := Try.underlying5
  have hz5 := T.pos5
  have hs5 := T.sz5
  have hu22 := Try.underlying22
  have hz22 := T.pos22
  have hs22 := T.sz22
  have hu26 := Try.underlying26
  have hz26 := T.pos26
  have hs26 := T.sz26
  have hu34 := Try.underlying34
  have hz34 := T.pos34
  have hs34 := T.sz34
  have hu35 := Try.underlying35
  have hz35 := T.pos35
  have hs35 := T.sz35
  have hu48 := Try.underlying48
  have hz48 := T.pos48
  have hs48 := T.sz48
  have hu50 := Try.underlying50
  have hz50 := T.pos50
  have hs50 := T.sz50
  intro w hw
  refine W.seq (W.region ?_)
  (first | refine Wl.boxA rfl rfl rfl rfl rfl ?_ | refine Wl.box rfl rfl rfl rfl rfl ?_)
  intro b
  repeat (first | refine W.seq ?_ | refine W.region ?_ | refine W.block ?_ | refine W.skip ?_ | refine W.exit ?_ | refine Wl.nil ?_ | refine Wl.yg rfl rfl rfl (by first | exact Y.move (by conv => lhs; whnf) | exact Y.assign (by conv => lhs; whnf) | exact Y.bin rfl rfl rfl | exact Y.not rfl | exact Y.load rfl (by assumption) rfl (by repeat first | exact List.Mem.head _ | apply List.Mem.tail) rfl | exact Y.loadG rfl (by assumption) rfl (by repeat first | exact List.Mem.head _ | apply List.Mem.tail) (by first | assumption | (simp only [*]; done)) | exact Y.extractL rfl (by conv => lhs; whnf) | exact Y.pick_t rfl (by conv => lhs; whnf) | exact Y.pick_f rfl (by conv => lhs; whnf) | exact Y.neq_b rfl rfl (by assumption)) ?_ | refine Wl.off rfl rfl rfl ?_)
  refine Wl.qt rfl rfl rfl (Qt.call (toFamily_fn s x) rfl (fun _ _ => trivial)) ?_
  refine Wl.qt rfl rfl rfl (Qt.call (f1) rfl (fun _ _ => trivial)) ?_
  repeat (first | refine W.seq ?_ | refine W.region ?_ | refine W.block ?_ | refine W.skip ?_ | refine W.exit ?_ | refine Wl.nil ?_ | refine Wl.yg rfl rfl rfl (by first | exact Y.move (by conv => lhs; whnf) | exact Y.assign (by conv => lhs; whnf) | exact Y.bin rfl rfl rfl | exact Y.not rfl | exact Y.load rfl (by assumption) rfl (by repeat first | exact List.Mem.head _ | apply List.Mem.tail) rfl | exact Y.loadG rfl (by assumption) rfl (by repeat first | exact List.Mem.head _ | apply List.Mem.tail) (by first | assumption | (simp only [*]; done)) | exact Y.extractL rfl (by conv => lhs; whnf) | exact Y.pick_t rfl (by conv => lhs; whnf) | exact Y.pick_f rfl (by conv => lhs; whnf) | exact Y.neq_b rfl rfl (by assumption)) ?_ | refine Wl.off rfl rfl rfl ?_)
  refine Wl.alloc rfl rfl rfl rfl zero50 ?_
  intro b3
  rw [show (Value.agg #[Value.int .i8 0, Value.int .i8 0, .int .u8 0, .int .u8 0, .int .u8 0, .int .u8 0, .int .u8 0, .int .u8 0, .int .u8 0, .int .u8 0, .int .u8 0, .int .u8 0, .int .u8 0, .int .u8 0]).cells = sch 0 0 (fun _ => 0) (fun _ => 0) from sch_zero]
  refine Wl.storeS (cs := sch 0 0 (fun _ => 0) (fun _ => 0)) (vs := sch p1 p2 q1 q2) (cs' := sch p1 p2 q1 q2) rfl rfl rfl rfl rfl sch_one (hsS _ _ _ _) sch_same (by repeat first | exact Repl.here _ | apply Repl.there) (by first | (simp only [sch_size]; rfl) | (unfold bySV; simp only [sch_size]; rfl)) ?_
  repeat (first | refine W.seq ?_ | refine W.region ?_ | refine W.block ?_ | refine W.skip ?_ | refine W.exit ?_ | refine Wl.nil ?_ | refine Wl.yg rfl rfl rfl (by first | exact Y.move (by conv => lhs; whnf) | exact Y.assign (by conv => lhs; whnf) | exact Y.bin rfl rfl rfl | exact Y.not rfl | exact Y.load rfl (by assumption) rfl (by repeat first | exact List.Mem.head _ | apply List.Mem.tail) rfl | exact Y.loadG rfl (by assumption) rfl (by repeat first | exact List.Mem.head _ | apply List.Mem.tail) (by first | assumption | (simp only [*]; done)) | exact Y.extractL rfl (by conv => lhs; whnf) | exact Y.pick_t rfl (by conv => lhs; whnf) | exact Y.pick_f rfl (by conv => lhs; whnf) | exact Y.neq_b rfl rfl (by assumption)) ?_ | refine Wl.off rfl rfl rfl ?_)
  refine Wl.qt rfl rfl rfl (Qt.call (toFamily_fn s x) rfl (fun _ _ => trivial)) ?_
  refine Wl.qt rfl rfl rfl (Qt.call (f2) rfl (fun _ _ => trivial)) ?_
  repeat (first | refine W.seq ?_ | refine W.region ?_ | refine W.block ?_ | refine W.skip ?_ | refine W.exit ?_ | refine Wl.nil ?_ | refine Wl.yg rfl rfl rfl (by first | exact Y.move (by conv => lhs; whnf) | exact Y.assign (by conv => lhs; whnf) | exact Y.bin rfl rfl rfl | exact Y.not rfl | exact Y.load rfl (by assumption) rfl (by repeat first | exact List.Mem.head _ | apply List.Mem.tail) rfl | exact Y.loadG rfl (by assumption) rfl (by repeat first | exact List.Mem.head _ | apply List.Mem.tail) (by first | assumption | (simp only [*]; done)) | exact Y.extractL rfl (by conv => lhs; whnf) | exact Y.pick_t rfl (by conv => lhs; whnf) | exact Y.pick_f rfl (by conv => lhs; whnf) | exact Y.neq_b rfl rfl (by assumption)) ?_ | refine Wl.off rfl rfl rfl ?_)
  refine Wl.alloc rfl rfl rfl rfl zero50 ?_
  intro b4
  rw [show (Value.agg #[Value.int .i8 0, Value.int .i8 0, .int .u8 0, .int .u8 0, .int .u8 0, .int .u8 0, .int .u8 0, .int .u8 0, .int .u8 0, .int .u8 0, .int .u8 0, .int .u8 0, .int .u8 0, .int .u8 0]).cells = sch 0 0 (fun _ => 0) (fun _ => 0) from sch_zero]
  refine Wl.storeS (cs := sch 0 0 (fun _ => 0) (fun _ => 0)) (vs := sch p1 p2 q1 q2) (cs' := sch p1 p2 q1 q2) rfl rfl rfl rfl rfl sch_one (hsS _ _ _ _) sch_same (by repeat first | exact Repl.here _ | apply Repl.there) (by first | (simp only [sch_size]; rfl) | (unfold bySV; simp only [sch_size]; rfl)) ?_
  repeat (first | refine W.seq ?_ | refine W.region ?_ | refine W.block ?_ | refine W.skip ?_ | refine W.exit ?_ | refine Wl.nil ?_ | refine Wl.yg rfl rfl rfl (by first | exact Y.move (by conv => lhs; whnf) | exact Y.assign (by conv => lhs; whnf) | exact Y.bin rfl rfl rfl | exact Y.not rfl | exact Y.load rfl (by assumption) rfl (by repeat first | exact List.Mem.head _ | apply List.Mem.tail) rfl | exact Y.loadG rfl (by assumption) rfl (by repeat first | exact List.Mem.head _ | apply List.Mem.tail) (by first | assumption | (simp only [*]; done)) | exact Y.extractL rfl (by conv => lhs; whnf) | exact Y.pick_t rfl (by conv => lhs; whnf) | exact Y.pick_f rfl (by conv => lhs; whnf) | exact Y.neq_b rfl rfl (by assumption)) ?_ | refine Wl.off rfl rfl rfl ?_)
  refine Wl.qt rfl rfl rfl (Qt.call (eqScheme_fn p1 p2 q1 q2) rfl (fun _ _ => trivial)) ?_
  repeat (first | refine W.seq ?_ | refine W.region ?_ | refine W.block ?_ | refine W.skip ?_ | refine W.exit ?_ | refine Wl.nil ?_ | refine Wl.yg rfl rfl rfl (by first | exact Y.move (by conv => lhs; whnf) | exact Y.assign (by conv => lhs; whnf) | exact Y.bin rfl rfl rfl | exact Y.not rfl | exact Y.load rfl (by assumption) rfl (by repeat first | exact List.Mem.head _ | apply List.Mem.tail) rfl | exact Y.loadG rfl (by assumption) rfl (by repeat first | exact List.Mem.head _ | apply List.Mem.tail) (by first | assumption | (simp only [*]; done)) | exact Y.extractL rfl (by conv => lhs; whnf) | exact Y.pick_t rfl (by conv => lhs; whnf) | exact Y.pick_f rfl (by conv => lhs; whnf) | exact Y.neq_b rfl rfl (by assumption)) ?_ | refine Wl.off rfl rfl rfl ?_)
  rw [show (c == c) = true from by simp]
  repeat (first | refine W.seq ?_ | refine W.region ?_ | refine W.block ?_ | refine W.skip ?_ | refine W.exit ?_ | refine Wl.nil ?_ | refine Wl.yg rfl rfl rfl (by first | exact Y.move (by conv => lhs; whnf) | exact Y.assign (by conv => lhs; whnf) | exact Y.bin rfl rfl rfl | exact Y.not rfl | exact Y.load rfl (by assumption) rfl (by repeat first | exact List.Mem.head _ | apply List.Mem.tail) rfl | exact Y.loadG rfl (by assumption) rfl (by repeat first | exact List.Mem.head _ | apply List.Mem.tail) (by first | assumption | (simp only [*]; done)) | exact Y.extractL rfl (by conv => lhs; whnf) | exact Y.pick_t rfl (by conv => lhs; whnf) | exact Y.pick_f rfl (by conv => lhs; whnf) | exact Y.neq_b rfl rfl (by assumption)) ?_ | refine Wl.off rfl rfl rfl ?_)
  refine W.cond (b := false) rfl (fun h => by cases h) (fun _ => ?_)
  repeat (first | refine W.seq ?_ | refine W.region ?_ | refine W.block ?_ | refine W.skip ?_ | refine W.exit ?_ | refine Wl.nil ?_ | refine Wl.yg rfl rfl rfl (by first | exact Y.move (by conv => lhs; whnf) | exact Y.assign (by conv => lhs; whnf) | exact Y.bin rfl rfl rfl | exact Y.not rfl | exact Y.load rfl (by assumption) rfl (by repeat first | exact List.Mem.head _ | apply List.Mem.tail) rfl | exact Y.loadG rfl (by assumption) rfl (by repeat first | exact List.Mem.head _ | apply List.Mem.tail) (by first | assumption | (simp only [*]; done)) | exact Y.extractL rfl (by conv => lhs; whnf) | exact Y.pick_t rfl (by conv => lhs; whnf) | exact Y.pick_f rfl (by conv => lhs; whnf) | exact Y.neq_b rfl rfl (by assumption)) ?_ | refine Wl.off rfl rfl rfl ?_)
  (refine W.ret ?_; first | refine Rt.b1 rfl ?_ | refine Rt.i1 rfl ?_)
  rfl
end Go.Proofs.Ytfmamihoaklogaa.T
