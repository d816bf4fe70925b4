/- What the types of this seat are: sizes and zero values, by the kernel. -/
import Derived.Test.YtfmamihoaklogaaTe
import Derived.Test.YtfmamihoaklogaaProg
import Derived.KernelRfl
namespace Go.Proofs.Ytfmamihoaklogaa.T
theorem sz2 : (Try.prog.info? 2).map (·.size) = some 1 := by kernel_rfl
theorem pos2 : szPos Try.prog 2 = true := by kernel_rfl
theorem zero2 : ∀ w : World, (zeroValue 2).run Try.prog w = .ok (.int .i64 0) w := fun w => by kernel_rfl
theorem sz3 : (Try.prog.info? 3).map (·.size) = some 1 := by kernel_rfl
theorem pos3 : szPos Try.prog 3 = true := by kernel_rfl
theorem zero3 : ∀ w : World, (zeroValue 3).run Try.prog w = .ok (.int .i64 0) w := fun w => by kernel_rfl
theorem sz4 : (Try.prog.info? 4).map (·.size) = some 1 := by kernel_rfl
theorem pos4 : szPos Try.prog 4 = true := by kernel_rfl
theorem zero4 : ∀ w : World, (zeroValue 4).run Try.prog w = .ok (.bool false) w := fun w => by kernel_rfl
theorem sz5 : (Try.prog.info? 5).map (·.size) = some 1 := by kernel_rfl
theorem pos5 : szPos Try.prog 5 = true := by kernel_rfl
theorem zero5 : ∀ w : World, (zeroValue 5).run Try.prog w = .ok (.int .u8 0) w := fun w => by kernel_rfl
theorem sz9 : (Try.prog.info? 9).map (·.size) = some 1 := by kernel_rfl
theorem pos9 : szPos Try.prog 9 = true := by kernel_rfl
theorem zero9 : ∀ w : World, (zeroValue 9).run Try.prog w = .ok (.string ⟨#[]⟩) w := fun w => by kernel_rfl
theorem sz22 : (Try.prog.info? 22).map (·.size) = some 1 := by kernel_rfl
theorem pos22 : szPos Try.prog 22 = true := by kernel_rfl
theorem zero22 : ∀ w : World, (zeroValue 22).run Try.prog w = .ok (.int .i8 0) w := fun w => by kernel_rfl
theorem sz23 : (Try.prog.info? 23).map (·.size) = some 64 := by kernel_rfl
theorem pos23 : szPos Try.prog 23 = true := by kernel_rfl
theorem zero23 : ∀ w : World, (zeroValue 23).run Try.prog w = .ok (.agg (Array.replicate 64 (.int .u8 0))) w := fun w => by kernel_rfl
theorem sz25 : (Try.prog.info? 25).map (·.size) = some 65 := by kernel_rfl
theorem pos25 : szPos Try.prog 25 = true := by kernel_rfl
theorem zero25 : ∀ w : World, (zeroValue 25).run Try.prog w = .ok (.agg (#[(.int .i8 0)] ++ Array.replicate 64 (.int .u8 0))) w := fun w => by kernel_rfl
theorem sz26 : (Try.prog.info? 26).map (·.size) = some 1 := by kernel_rfl
theorem pos26 : szPos Try.prog 26 = true := by kernel_rfl
theorem zero26 : ∀ w : World, (zeroValue 26).run Try.prog w = .ok (.int .u64 0) w := fun w => by kernel_rfl
theorem sz29 : (Try.prog.info? 29).map (·.size) = some 65 := by kernel_rfl
theorem pos29 : szPos Try.prog 29 = true := by kernel_rfl
theorem zero29 : ∀ w : World, (zeroValue 29).run Try.prog w = .ok (.agg (#[(.int .i8 0)] ++ Array.replicate 64 (.int .u8 0))) w := fun w => by kernel_rfl
theorem sz31 : (Try.prog.info? 31).map (·.size) = some 1 := by kernel_rfl
theorem pos31 : szPos Try.prog 31 = true := by kernel_rfl
theorem zero31 : ∀ w : World, (zeroValue 31).run Try.prog w = .ok (.int .u64 0) w := fun w => by kernel_rfl
theorem sz34 : (Try.prog.info? 34).map (·.size) = some 2 := by kernel_rfl
theorem pos34 : szPos Try.prog 34 = true := by kernel_rfl
theorem zero34 : ∀ w : World, (zeroValue 34).run Try.prog w = .ok (.agg #[(.int .i8 0), (.int .u64 0)]) w := fun w => by kernel_rfl
theorem sz35 : (Try.prog.info? 35).map (·.size) = some 2 := by kernel_rfl
theorem pos35 : szPos Try.prog 35 = true := by kernel_rfl
theorem zero35 : ∀ w : World, (zeroValue 35).run Try.prog w = .ok (.agg #[(.int .i8 0), (.int .u64 0)]) w := fun w => by kernel_rfl
theorem sz41 : (Try.prog.info? 41).map (·.size) = some 1 := by kernel_rfl
theorem pos41 : szPos Try.prog 41 = true := by kernel_rfl
theorem zero41 : ∀ w : World, (zeroValue 41).run Try.prog w = .ok (.slice none 0 0) w := fun w => by kernel_rfl
theorem sz48 : (Try.prog.info? 48).map (·.size) = some 6 := by kernel_rfl
theorem pos48 : szPos Try.prog 48 = true := by kernel_rfl
theorem zero48 : ∀ w : World, (zeroValue 48).run Try.prog w = .ok (.agg #[(.int .u8 0), (.int .u8 0), (.int .u8 0), (.int .u8 0), (.int .u8 0), (.int .u8 0)]) w := fun w => by kernel_rfl
theorem sz50 : (Try.prog.info? 50).map (·.size) = some 14 := by kernel_rfl
theorem pos50 : szPos Try.prog 50 = true := by kernel_rfl
theorem zero50 : ∀ w : World, (zeroValue 50).run Try.prog w = .ok (.agg #[(.int .i8 0), (.int .i8 0), (.int .u8 0), (.int .u8 0), (.int .u8 0), (.int .u8 0), (.int .u8 0), (.int .u8 0), (.int .u8 0), (.int .u8 0), (.int .u8 0), (.int .u8 0), (.int .u8 0), (.int .u8 0)]) w := fun w => by kernel_rfl
theorem sz55 : (Try.prog.info? 55).map (·.size) = some 14 := by kernel_rfl
theorem pos55 : szPos Try.prog 55 = true := by kernel_rfl
theorem zero55 : ∀ w : World, (zeroValue 55).run Try.prog w = .ok (.agg #[(.int .i8 0), (.int .i8 0), (.int .u8 0), (.int .u8 0), (.int .u8 0), (.int .u8 0), (.int .u8 0), (.int .u8 0), (.int .u8 0), (.int .u8 0), (.int .u8 0), (.int .u8 0), (.int .u8 0), (.int .u8 0)]) w := fun w => by kernel_rfl
theorem sz56 : (Try.prog.info? 56).map (·.size) = some 1 := by kernel_rfl
theorem pos56 : szPos Try.prog 56 = true := by kernel_rfl
theorem zero56 : ∀ w : World, (zeroValue 56).run Try.prog w = .ok (.int .u32 0) w := fun w => by kernel_rfl
theorem sz57 : (Try.prog.info? 57).map (·.size) = some 1 := by kernel_rfl
theorem pos57 : szPos Try.prog 57 = true := by kernel_rfl
theorem zero57 : ∀ w : World, (zeroValue 57).run Try.prog w = .ok (.slice none 0 0) w := fun w => by kernel_rfl
theorem sz65 : (Try.prog.info? 65).map (·.size) = some 1 := by kernel_rfl
theorem pos65 : szPos Try.prog 65 = true := by kernel_rfl
theorem zero65 : ∀ w : World, (zeroValue 65).run Try.prog w = .ok (.pointer none) w := fun w => by kernel_rfl
theorem sz72 : (Try.prog.info? 72).map (·.size) = some 2 := by kernel_rfl
theorem pos72 : szPos Try.prog 72 = true := by kernel_rfl
theorem zero72 : ∀ w : World, (zeroValue 72).run Try.prog w = .ok (.agg #[(.bool false), (.int .i64 0)]) w := fun w => by kernel_rfl
theorem sz73 : (Try.prog.info? 73).map (·.size) = some 1 := by kernel_rfl
theorem pos73 : szPos Try.prog 73 = true := by kernel_rfl
theorem zero73 : ∀ w : World, (zeroValue 73).run Try.prog w = .ok .nilFunc w := fun w => by kernel_rfl
theorem sz76 : (Try.prog.info? 76).map (·.size) = some 1 := by kernel_rfl
theorem pos76 : szPos Try.prog 76 = true := by kernel_rfl
theorem zero76 : ∀ w : World, (zeroValue 76).run Try.prog w = .ok (.pointer none) w := fun w => by kernel_rfl
theorem sz79 : (Try.prog.info? 79).map (·.size) = some 1 := by kernel_rfl
theorem pos79 : szPos Try.prog 79 = true := by kernel_rfl
theorem zero79 : ∀ w : World, (zeroValue 79).run Try.prog w = .ok (.int .u64 0) w := fun w => by kernel_rfl
theorem sz83 : (Try.prog.info? 83).map (·.size) = some 1 := by kernel_rfl
theorem pos83 : szPos Try.prog 83 = true := by kernel_rfl
theorem zero83 : ∀ w : World, (zeroValue 83).run Try.prog w = .ok .nilFunc w := fun w => by kernel_rfl
theorem sz98 : (Try.prog.info? 98).map (·.size) = some 1 := by kernel_rfl
theorem pos98 : szPos Try.prog 98 = true := by kernel_rfl
theorem zero98 : ∀ w : World, (zeroValue 98).run Try.prog w = .ok (.pointer none) w := fun w => by kernel_rfl
theorem sz101 : (Try.prog.info? 101).map (·.size) = some 1 := by kernel_rfl
theorem pos101 : szPos Try.prog 101 = true := by kernel_rfl
theorem zero101 : ∀ w : World, (zeroValue 101).run Try.prog w = .ok (.pointer none) w := fun w => by kernel_rfl
theorem sz107 : (Try.prog.info? 107).map (·.size) = some 1 := by kernel_rfl
theorem pos107 : szPos Try.prog 107 = true := by kernel_rfl
theorem zero107 : ∀ w : World, (zeroValue 107).run Try.prog w = .ok (.slice none 0 0) w := fun w => by kernel_rfl
theorem sz120 : (Try.prog.info? 120).map (·.size) = some 1 := by kernel_rfl
theorem pos120 : szPos Try.prog 120 = true := by kernel_rfl
theorem zero120 : ∀ w : World, (zeroValue 120).run Try.prog w = .ok (.slice none 0 0) w := fun w => by kernel_rfl
theorem sz123 : (Try.prog.info? 123).map (·.size) = some 1 := by kernel_rfl
theorem pos123 : szPos Try.prog 123 = true := by kernel_rfl
theorem zero123 : ∀ w : World, (zeroValue 123).run Try.prog w = .ok (.slice none 0 0) w := fun w => by kernel_rfl
theorem sz126 : (Try.prog.info? 126).map (·.size) = some 1 := by kernel_rfl
theorem pos126 : szPos Try.prog 126 = true := by kernel_rfl
theorem zero126 : ∀ w : World, (zeroValue 126).run Try.prog w = .ok (.slice none 0 0) w := fun w => by kernel_rfl
theorem mixed : Try.prog.follows .mixedOrders = true := by kernel_rfl
end Go.Proofs.Ytfmamihoaklogaa.T
