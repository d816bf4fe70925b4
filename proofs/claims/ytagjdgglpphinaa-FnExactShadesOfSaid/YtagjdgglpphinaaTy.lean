/- What the types of this seat are: sizes and zero values, by the kernel. -/
import Derived.Test.YtagjdgglpphinaaTe
import Derived.Test.YtagjdgglpphinaaProg
import Derived.KernelRfl
namespace Go.Proofs.Ytagjdgglpphinaa.T
theorem sz2 : (Try.prog.info? 2).map (·.size) = some 1 := by kernel_rfl
theorem pos2 : szPos Try.prog 2 = true := by kernel_rfl
theorem zero2 : ∀ w : World, (zeroValue 2).run Try.prog w = .ok (.int .i64 0) w := fun w => by kernel_rfl
theorem sz3 : (Try.prog.info? 3).map (·.size) = some 1 := by kernel_rfl
theorem pos3 : szPos Try.prog 3 = true := by kernel_rfl
theorem zero3 : ∀ w : World, (zeroValue 3).run Try.prog w = .ok (.int .i64 0) w := fun w => by kernel_rfl
theorem sz4 : (Try.prog.info? 4).map (·.size) = some 1 := by kernel_rfl
theorem pos4 : szPos Try.prog 4 = true := by kernel_rfl
theorem zero4 : ∀ w : World, (zeroValue 4).run Try.prog w = .ok (.bool false) w := fun w => by kernel_rfl
theorem sz5 : (Try.prog.info? 5).map (·.size) = some 1 := by kernel_rfl
theorem pos5 : szPos Try.prog 5 = true := by kernel_rfl
theorem zero5 : ∀ w : World, (zeroValue 5).run Try.prog w = .ok (.int .u8 0) w := fun w => by kernel_rfl
theorem sz9 : (Try.prog.info? 9).map (·.size) = some 1 := by kernel_rfl
theorem pos9 : szPos Try.prog 9 = true := by kernel_rfl
theorem zero9 : ∀ w : World, (zeroValue 9).run Try.prog w = .ok (.string ⟨#[]⟩) w := fun w => by kernel_rfl
theorem sz22 : (Try.prog.info? 22).map (·.size) = some 1 := by kernel_rfl
theorem pos22 : szPos Try.prog 22 = true := by kernel_rfl
theorem zero22 : ∀ w : World, (zeroValue 22).run Try.prog w = .ok (.int .u64 0) w := fun w => by kernel_rfl
theorem sz23 : (Try.prog.info? 23).map (·.size) = some 3 := by kernel_rfl
theorem pos23 : szPos Try.prog 23 = true := by kernel_rfl
theorem zero23 : ∀ w : World, (zeroValue 23).run Try.prog w = .ok (.agg #[(.int .u64 0), (.int .u64 0), (.int .u64 0)]) w := fun w => by kernel_rfl
theorem sz24 : (Try.prog.info? 24).map (·.size) = some 64 := by kernel_rfl
theorem pos24 : szPos Try.prog 24 = true := by kernel_rfl
theorem zero24 : ∀ w : World, (zeroValue 24).run Try.prog w = .ok (.agg (Array.replicate 64 (.int .u8 0))) w := fun w => by kernel_rfl
theorem sz26 : (Try.prog.info? 26).map (·.size) = some 1 := by kernel_rfl
theorem pos26 : szPos Try.prog 26 = true := by kernel_rfl
theorem zero26 : ∀ w : World, (zeroValue 26).run Try.prog w = .ok (.int .u64 0) w := fun w => by kernel_rfl
theorem sz27 : (Try.prog.info? 27).map (·.size) = some 3 := by kernel_rfl
theorem pos27 : szPos Try.prog 27 = true := by kernel_rfl
theorem zero27 : ∀ w : World, (zeroValue 27).run Try.prog w = .ok (.agg #[(.int .u64 0), (.int .u64 0), (.int .u64 0)]) w := fun w => by kernel_rfl
theorem sz35 : (Try.prog.info? 35).map (·.size) = some 64 := by kernel_rfl
theorem pos35 : szPos Try.prog 35 = true := by kernel_rfl
theorem zero35 : ∀ w : World, (zeroValue 35).run Try.prog w = .ok (.agg (Array.replicate 64 (.int .u8 0))) w := fun w => by kernel_rfl
theorem sz43 : (Try.prog.info? 43).map (·.size) = some 1 := by kernel_rfl
theorem pos43 : szPos Try.prog 43 = true := by kernel_rfl
theorem zero43 : ∀ w : World, (zeroValue 43).run Try.prog w = .ok (.slice none 0 0) w := fun w => by kernel_rfl
theorem sz46 : (Try.prog.info? 46).map (·.size) = some 1 := by kernel_rfl
theorem pos46 : szPos Try.prog 46 = true := by kernel_rfl
theorem zero46 : ∀ w : World, (zeroValue 46).run Try.prog w = .ok (.slice none 0 0) w := fun w => by kernel_rfl
theorem sz55 : (Try.prog.info? 55).map (·.size) = some 4 := by kernel_rfl
theorem pos55 : szPos Try.prog 55 = true := by kernel_rfl
theorem zero55 : ∀ w : World, (zeroValue 55).run Try.prog w = .ok (.agg #[(.int .u64 0), (.int .u64 0), (.int .u64 0), (.int .u64 0)]) w := fun w => by kernel_rfl
theorem sz61 : (Try.prog.info? 61).map (·.size) = some 1 := by kernel_rfl
theorem pos61 : szPos Try.prog 61 = true := by kernel_rfl
theorem zero61 : ∀ w : World, (zeroValue 61).run Try.prog w = .ok (.int .i8 0) w := fun w => by kernel_rfl
theorem sz63 : (Try.prog.info? 63).map (·.size) = some 65 := by kernel_rfl
theorem pos63 : szPos Try.prog 63 = true := by kernel_rfl
theorem zero63 : ∀ w : World, (zeroValue 63).run Try.prog w = .ok (.agg (#[(.int .i8 0)] ++ Array.replicate 64 (.int .u8 0))) w := fun w => by kernel_rfl
theorem sz64 : (Try.prog.info? 64).map (·.size) = some 65 := by kernel_rfl
theorem pos64 : szPos Try.prog 64 = true := by kernel_rfl
theorem zero64 : ∀ w : World, (zeroValue 64).run Try.prog w = .ok (.agg (#[(.int .i8 0)] ++ Array.replicate 64 (.int .u8 0))) w := fun w => by kernel_rfl
theorem sz70 : (Try.prog.info? 70).map (·.size) = some 1 := by kernel_rfl
theorem pos70 : szPos Try.prog 70 = true := by kernel_rfl
theorem zero70 : ∀ w : World, (zeroValue 70).run Try.prog w = .ok (.int .u64 0) w := fun w => by kernel_rfl
theorem sz73 : (Try.prog.info? 73).map (·.size) = some 1 := by kernel_rfl
theorem pos73 : szPos Try.prog 73 = true := by kernel_rfl
theorem zero73 : ∀ w : World, (zeroValue 73).run Try.prog w = .ok .nilFunc w := fun w => by kernel_rfl
theorem sz76 : (Try.prog.info? 76).map (·.size) = some 1 := by kernel_rfl
theorem pos76 : szPos Try.prog 76 = true := by kernel_rfl
theorem zero76 : ∀ w : World, (zeroValue 76).run Try.prog w = .ok (.pointer none) w := fun w => by kernel_rfl
theorem sz79 : (Try.prog.info? 79).map (·.size) = some 1 := by kernel_rfl
theorem pos79 : szPos Try.prog 79 = true := by kernel_rfl
theorem zero79 : ∀ w : World, (zeroValue 79).run Try.prog w = .ok (.slice none 0 0) w := fun w => by kernel_rfl
theorem sz86 : (Try.prog.info? 86).map (·.size) = some 1 := by kernel_rfl
theorem pos86 : szPos Try.prog 86 = true := by kernel_rfl
theorem zero86 : ∀ w : World, (zeroValue 86).run Try.prog w = .ok (.pointer none) w := fun w => by kernel_rfl
theorem sz88 : (Try.prog.info? 88).map (·.size) = some 1 := by kernel_rfl
theorem pos88 : szPos Try.prog 88 = true := by kernel_rfl
theorem zero88 : ∀ w : World, (zeroValue 88).run Try.prog w = .ok .nilFunc w := fun w => by kernel_rfl
theorem mixed : Try.prog.follows .mixedOrders = true := by kernel_rfl
end Go.Proofs.Ytagjdgglpphinaa.T
