/- What the types of this seat are: sizes and zero values, by the kernel. -/
import Derived.Test.YtbplifhgpbdmgaaTe
import Derived.Test.YtbplifhgpbdmgaaProg
import Derived.KernelRfl
namespace Go.Proofs.Ytbplifhgpbdmgaa.T
theorem sz2 : (Try.prog.info? 2).map (·.size) = some 1 := by kernel_rfl
theorem pos2 : szPos Try.prog 2 = true := by kernel_rfl
theorem zero2 : ∀ w : World, (zeroValue 2).run Try.prog w = .ok (.int .i64 0) w := fun w => by kernel_rfl
theorem sz3 : (Try.prog.info? 3).map (·.size) = some 1 := by kernel_rfl
theorem pos3 : szPos Try.prog 3 = true := by kernel_rfl
theorem zero3 : ∀ w : World, (zeroValue 3).run Try.prog w = .ok (.int .i64 0) w := fun w => by kernel_rfl
theorem sz4 : (Try.prog.info? 4).map (·.size) = some 1 := by kernel_rfl
theorem pos4 : szPos Try.prog 4 = true := by kernel_rfl
theorem zero4 : ∀ w : World, (zeroValue 4).run Try.prog w = .ok (.bool false) w := fun w => by kernel_rfl
theorem sz5 : (Try.prog.info? 5).map (·.size) = some 1 := by kernel_rfl
theorem pos5 : szPos Try.prog 5 = true := by kernel_rfl
theorem zero5 : ∀ w : World, (zeroValue 5).run Try.prog w = .ok (.int .u8 0) w := fun w => by kernel_rfl
theorem sz9 : (Try.prog.info? 9).map (·.size) = some 1 := by kernel_rfl
theorem pos9 : szPos Try.prog 9 = true := by kernel_rfl
theorem zero9 : ∀ w : World, (zeroValue 9).run Try.prog w = .ok (.string ⟨#[]⟩) w := fun w => by kernel_rfl
theorem sz22 : (Try.prog.info? 22).map (·.size) = some 1 := by kernel_rfl
theorem pos22 : szPos Try.prog 22 = true := by kernel_rfl
theorem zero22 : ∀ w : World, (zeroValue 22).run Try.prog w = .ok (.int .i8 0) w := fun w => by kernel_rfl
theorem sz23 : (Try.prog.info? 23).map (·.size) = some 1 := by kernel_rfl
theorem pos23 : szPos Try.prog 23 = true := by kernel_rfl
theorem zero23 : ∀ w : World, (zeroValue 23).run Try.prog w = .ok (.int .u64 0) w := fun w => by kernel_rfl
theorem sz25 : (Try.prog.info? 25).map (·.size) = some 2 := by kernel_rfl
theorem pos25 : szPos Try.prog 25 = true := by kernel_rfl
theorem zero25 : ∀ w : World, (zeroValue 25).run Try.prog w = .ok (.agg #[(.int .i8 0), (.int .u64 0)]) w := fun w => by kernel_rfl
theorem sz27 : (Try.prog.info? 27).map (·.size) = some 2 := by kernel_rfl
theorem pos27 : szPos Try.prog 27 = true := by kernel_rfl
theorem zero27 : ∀ w : World, (zeroValue 27).run Try.prog w = .ok (.agg #[(.int .i8 0), (.int .u64 0)]) w := fun w => by kernel_rfl
theorem sz44 : (Try.prog.info? 44).map (·.size) = some 1 := by kernel_rfl
theorem pos44 : szPos Try.prog 44 = true := by kernel_rfl
theorem zero44 : ∀ w : World, (zeroValue 44).run Try.prog w = .ok (.slice none 0 0) w := fun w => by kernel_rfl
theorem sz50 : (Try.prog.info? 50).map (·.size) = some 1 := by kernel_rfl
theorem pos50 : szPos Try.prog 50 = true := by kernel_rfl
theorem zero50 : ∀ w : World, (zeroValue 50).run Try.prog w = .ok (.pointer none) w := fun w => by kernel_rfl
theorem sz53 : (Try.prog.info? 53).map (·.size) = some 1 := by kernel_rfl
theorem pos53 : szPos Try.prog 53 = true := by kernel_rfl
theorem zero53 : ∀ w : World, (zeroValue 53).run Try.prog w = .ok .nilFunc w := fun w => by kernel_rfl
theorem sz54 : (Try.prog.info? 54).map (·.size) = some 1 := by kernel_rfl
theorem pos54 : szPos Try.prog 54 = true := by kernel_rfl
theorem zero54 : ∀ w : World, (zeroValue 54).run Try.prog w = .ok (.int .u64 0) w := fun w => by kernel_rfl
theorem sz58 : (Try.prog.info? 58).map (·.size) = some 2 := by kernel_rfl
theorem pos58 : szPos Try.prog 58 = true := by kernel_rfl
theorem zero58 : ∀ w : World, (zeroValue 58).run Try.prog w = .ok (.agg #[(.bool false), (.int .i64 0)]) w := fun w => by kernel_rfl
theorem sz75 : (Try.prog.info? 75).map (·.size) = some 1 := by kernel_rfl
theorem pos75 : szPos Try.prog 75 = true := by kernel_rfl
theorem zero75 : ∀ w : World, (zeroValue 75).run Try.prog w = .ok (.slice none 0 0) w := fun w => by kernel_rfl
theorem sz77 : (Try.prog.info? 77).map (·.size) = some 1 := by kernel_rfl
theorem pos77 : szPos Try.prog 77 = true := by kernel_rfl
theorem zero77 : ∀ w : World, (zeroValue 77).run Try.prog w = .ok (.int .u32 0) w := fun w => by kernel_rfl
theorem mixed : Try.prog.follows .mixedOrders = true := by kernel_rfl
end Go.Proofs.Ytbplifhgpbdmgaa.T
