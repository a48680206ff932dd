/- The program of this seat, as the abstract machine has it: its functions, its types. Own work. -/
import Derived.Test.YtleefbnanliliaaDoorProg
import Derived.Test.YtleefbnanliliaaDoorAmView
import Derived.Test.YtleefbnanliliaaDoorAmSimp4
import Derived.KernelRfl
namespace Go.AM.X
open Go Go.AM Go.Proofs Go.AM.Sx
noncomputable def F := Fof Tryd.prog
noncomputable def T := tiOf Tryd.prog
theorem hT : TAgree Tryd.prog T := tiOf_agree _
theorem hF : FAgree Tryd.prog F := Fof_agree _
theorem hmix : Tryd.prog.follows .mixedOrders = true := by decide +kernel
noncomputable def tt3 : TI := (T 3).getD ⟨.bool, 0, 0, [], false, [], []⟩
theorem T3 : T 3 = some tt3 := by kernel_rfl
theorem d3 : tt3.desc = .int .i64 := by kernel_rfl
theorem s3 : tt3.size = 1 := by kernel_rfl
theorem b3 : tt3.bytes = 8 := by kernel_rfl
theorem a3 : tt3.agg = false := by kernel_rfl
theorem z3 : tt3.zero = [.int .i64 0] := by kernel_rfl
noncomputable def tt4 : TI := (T 4).getD ⟨.bool, 0, 0, [], false, [], []⟩
theorem T4 : T 4 = some tt4 := by kernel_rfl
theorem d4 : tt4.desc = .bool := by kernel_rfl
theorem s4 : tt4.size = 1 := by kernel_rfl
theorem b4 : tt4.bytes = 1 := by kernel_rfl
theorem a4 : tt4.agg = false := by kernel_rfl
theorem z4 : tt4.zero = [.bool false] := by kernel_rfl
noncomputable def tt23 : TI := (T 23).getD ⟨.bool, 0, 0, [], false, [], []⟩
theorem T23 : T 23 = some tt23 := by kernel_rfl
theorem d23 : tt23.desc = .pointer 73 := by kernel_rfl
theorem s23 : tt23.size = 1 := by kernel_rfl
theorem b23 : tt23.bytes = 8 := by kernel_rfl
theorem a23 : tt23.agg = false := by kernel_rfl
theorem z23 : tt23.zero = [.nilp] := by kernel_rfl
noncomputable def tt36 : TI := (T 36).getD ⟨.bool, 0, 0, [], false, [], []⟩
theorem T36 : T 36 = some tt36 := by kernel_rfl
theorem d36 : tt36.desc = .struct (fieldsD tt36.desc).toArray := by kernel_rfl
theorem s36 : tt36.size = 3 := by kernel_rfl
theorem b36 : tt36.bytes = 24 := by kernel_rfl
theorem a36 : tt36.agg = true := by kernel_rfl
theorem z36 : tt36.zero = [.int .i64 0, .int .i64 0, .int .i64 0] := by kernel_rfl
theorem p36_0 : tt36.places[0]? = some (0, 1, false) := by kernel_rfl
theorem p36_1 : tt36.places[1]? = some (1, 1, false) := by kernel_rfl
theorem p36_2 : tt36.places[2]? = some (2, 1, false) := by kernel_rfl
noncomputable def tt37 : TI := (T 37).getD ⟨.bool, 0, 0, [], false, [], []⟩
theorem T37 : T 37 = some tt37 := by kernel_rfl
theorem d37 : tt37.desc = .pointer 43 := by kernel_rfl
theorem s37 : tt37.size = 1 := by kernel_rfl
theorem b37 : tt37.bytes = 8 := by kernel_rfl
theorem a37 : tt37.agg = false := by kernel_rfl
theorem z37 : tt37.zero = [.nilp] := by kernel_rfl
noncomputable def tt43 : TI := (T 43).getD ⟨.bool, 0, 0, [], false, [], []⟩
theorem T43 : T 43 = some tt43 := by kernel_rfl
theorem d43 : tt43.desc = .struct (fieldsD tt43.desc).toArray := by kernel_rfl
theorem s43 : tt43.size = 5 := by kernel_rfl
theorem b43 : tt43.bytes = 40 := by kernel_rfl
theorem a43 : tt43.agg = true := by kernel_rfl
theorem z43 : tt43.zero = [.nilp, .nilp, .nilp, .nilp, .nilm] := by kernel_rfl
theorem p43_0 : tt43.places[0]? = some (0, 1, false) := by kernel_rfl
theorem p43_1 : tt43.places[1]? = some (1, 1, false) := by kernel_rfl
theorem p43_2 : tt43.places[2]? = some (2, 1, false) := by kernel_rfl
theorem p43_3 : tt43.places[3]? = some (3, 1, false) := by kernel_rfl
theorem p43_4 : tt43.places[4]? = some (4, 1, false) := by kernel_rfl
noncomputable def tt73 : TI := (T 73).getD ⟨.bool, 0, 0, [], false, [], []⟩
theorem T73 : T 73 = some tt73 := by kernel_rfl
theorem d73 : tt73.desc = .struct (fieldsD tt73.desc).toArray := by kernel_rfl
theorem s73 : tt73.size = 6 := by kernel_rfl
theorem b73 : tt73.bytes = 96 := by kernel_rfl
theorem a73 : tt73.agg = true := by kernel_rfl
theorem z73 : tt73.zero = [.int .i64 0, .int .i64 0, .nils, .nils, .nils, .int .i64 0] := by kernel_rfl
theorem p73_0 : tt73.places[0]? = some (0, 1, false) := by kernel_rfl
theorem p73_1 : tt73.places[1]? = some (1, 1, false) := by kernel_rfl
theorem p73_2 : tt73.places[2]? = some (2, 1, false) := by kernel_rfl
theorem p73_3 : tt73.places[3]? = some (3, 1, false) := by kernel_rfl
theorem p73_4 : tt73.places[4]? = some (4, 1, false) := by kernel_rfl
theorem p73_5 : tt73.places[5]? = some (5, 1, false) := by kernel_rfl
noncomputable def tt103 : TI := (T 103).getD ⟨.bool, 0, 0, [], false, [], []⟩
theorem T103 : T 103 = some tt103 := by kernel_rfl
theorem d103 : tt103.desc = .struct (fieldsD tt103.desc).toArray := by kernel_rfl
theorem s103 : tt103.size = 8 := by kernel_rfl
theorem b103 : tt103.bytes = 128 := by kernel_rfl
theorem a103 : tt103.agg = true := by kernel_rfl
theorem z103 : tt103.zero = [.int .i64 0, .int .i64 0, .nils, .nils, .nils, .nils, .int .i64 0, .int .i64 0] := by kernel_rfl
theorem p103_0 : tt103.places[0]? = some (0, 1, false) := by kernel_rfl
theorem p103_1 : tt103.places[1]? = some (1, 1, false) := by kernel_rfl
theorem p103_2 : tt103.places[2]? = some (2, 1, false) := by kernel_rfl
theorem p103_3 : tt103.places[3]? = some (3, 1, false) := by kernel_rfl
theorem p103_4 : tt103.places[4]? = some (4, 1, false) := by kernel_rfl
theorem p103_5 : tt103.places[5]? = some (5, 1, false) := by kernel_rfl
theorem p103_6 : tt103.places[6]? = some (6, 1, false) := by kernel_rfl
theorem p103_7 : tt103.places[7]? = some (7, 1, false) := by kernel_rfl
end Go.AM.X
