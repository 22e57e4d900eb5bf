/-
  The tables of the abstract machine for this seat: printed by tab.py. No condition.
-/
import Derived.Test.YtnfehccnofhmnaaE27
import Derived.KernelRfl
set_option linter.all false
namespace Go.Proofs.Ytnfehccnofhmnaa
namespace E

def fi2 : Fi := { nt := 1, prom := [], lives := [(0, [])] }
noncomputable def F2 : Fn := { fi := fi2, wins := [], body := Try.f2.body.getD .skip, res := Try.f2.results.toList, keep := false }
def fi3 : Fi := { nt := 86, prom := [2, 3, 5, 7], lives := [(0, [2, 3]), (1, [2, 3, 17]), (2, [4]), (3, [2, 3, 5, 6]), (4, [2, 3, 5, 6, 7, 8]), (5, [4])] }
noncomputable def F3 : Fn := { fi := fi3, wins := [(5, [], [(11, 1, 2), (18, 3, 4), (25, 5, 6), (32, 7, 8), (39, 10, 11), (48, 13, 14)])], body := Try.f3.body.getD .skip, res := Try.f3.results.toList, keep := false }
def fi4 : Fi := { nt := 86, prom := [2, 7], lives := [(0, [1, 2]), (1, [1, 2, 17]), (2, [4]), (3, [1, 2, 5]), (4, [1, 2, 5, 6]), (5, [1, 2, 5, 6, 22]), (6, [1, 2, 5, 6]), (7, [1, 2, 5, 6, 7, 8]), (8, [1, 2, 5, 6, 7, 8, 45]), (9, [4]), (10, [1, 2, 5, 6, 7, 8, 57]), (11, [4]), (12, [1, 2, 5, 6, 7, 8, 9]), (13, [1, 2, 5, 6, 7, 8, 9, 61]), (14, [1, 2, 5, 6, 7, 8, 9]), (15, [1, 2, 5, 6, 7, 8, 9]), (16, [1, 2, 5, 6, 7, 83]), (17, [4]), (18, [1, 2, 5, 6]), (19, [4])] }
noncomputable def F4 : Fn := { fi := fi4, wins := [], body := Try.f4.body.getD .skip, res := Try.f4.results.toList, keep := false }
def fi5 : Fi := { nt := 114, prom := [5, 7, 9], lives := [(0, [0, 1]), (1, [0, 1, 12]), (2, [4]), (3, [0, 1, 5]), (4, [0, 1, 5, 6]), (5, [0, 1, 5, 6, 19]), (6, [0, 1, 5, 6]), (7, [0, 1, 5, 6, 7, 8]), (8, [0, 1, 5, 6, 7, 38]), (9, [4]), (10, [0, 1, 5, 6, 7, 54]), (11, [4]), (12, [0, 1, 5, 6, 7, 85]), (13, [4]), (14, [0, 1, 5, 6, 7, 93]), (15, [0, 1, 5, 6, 7, 10]), (16, [0, 1, 5, 6, 7, 111]), (17, [4]), (18, [0, 1, 5, 6]), (19, [4])] }
noncomputable def F5 : Fn := { fi := fi5, wins := [], body := Try.f5.body.getD .skip, res := Try.f5.results.toList, keep := false }
def fi6 : Fi := { nt := 50, prom := [2, 6, 8], lives := [(0, [1, 2]), (1, [1, 2, 17]), (2, [4]), (3, [1, 2, 5]), (4, [1, 2, 5, 6, 7]), (5, [1, 5, 6, 7, 8, 9]), (6, [4])] }
noncomputable def F6 : Fn := { fi := fi6, wins := [], body := Try.f6.body.getD .skip, res := Try.f6.results.toList, keep := false }
def fi7 : Fi := { nt := 121, prom := [5, 7, 12, 14], lives := [(0, [0, 1, 5]), (1, [0, 1, 5, 22]), (2, [6]), (3, [5, 7]), (4, [5, 7, 9]), (5, [5, 7, 9, 10]), (6, [5, 7, 9, 10, 11]), (7, [5, 7, 9, 10, 11, 36]), (8, [5, 7, 9, 10, 11]), (9, [5, 7, 9, 10, 11, 12, 13]), (10, [5, 7, 9, 10, 11, 55]), (11, [6]), (12, [5, 7, 9, 10, 11]), (13, [7, 10, 14, 15]), (14, [6])] }
noncomputable def F7 : Fn := { fi := fi7, wins := [], body := Try.f7.body.getD .skip, res := Try.f7.results.toList, keep := false }
def fi8 : Fi := { nt := 38, prom := [], lives := [(0, [0]), (1, [0, 3]), (2, [0, 3, 4]), (3, [0, 3, 4, 12]), (4, [0, 3, 4]), (5, [0, 3, 4]), (6, [2])] }
noncomputable def F8 : Fn := { fi := fi8, wins := [], body := Try.f8.body.getD .skip, res := Try.f8.results.toList, keep := false }
def fi9 : Fi := { nt := 144, prom := [1, 3, 5, 7, 9], lives := [(0, []), (1, [1, 2]), (2, [1, 2, 3, 4]), (3, [1, 2, 3, 4, 5, 6]), (4, [1, 2, 3, 4, 5, 6, 7, 8]), (5, [1, 2, 3, 4, 5, 6, 7, 8, 9, 10]), (6, [0])] }
noncomputable def F9 : Fn := { fi := fi9, wins := [], body := Try.f9.body.getD .skip, res := Try.f9.results.toList, keep := false }
def fi10 : Fi := { nt := 59, prom := [2, 3, 4, 7], lives := [(0, [2, 3, 4]), (1, [2, 3, 4, 10]), (2, [4, 5]), (3, [2, 3, 4, 14]), (4, [2, 3, 4, 30]), (5, [4, 5]), (6, [2, 4]), (7, [4, 5]), (8, [2, 3, 4, 41, 42, 43]), (9, [2, 3, 4, 41, 42, 43, 44]), (10, [2, 3, 4, 7, 41, 42, 43]), (11, [2, 3, 4, 7, 41, 42, 43, 50]), (12, [4, 5]), (13, [2, 3, 4, 41, 42, 43]), (14, [4, 5])] }
noncomputable def F10 : Fn := { fi := fi10, wins := [(6, [], [(1, 0, 1)]), (7, [], [(0, 0, 2)]), (12, [], [(4, 0, 1)])], body := Try.f10.body.getD .skip, res := Try.f10.results.toList, keep := true }
def fi11 : Fi := { nt := 82, prom := [2, 3, 4, 6, 9], lives := [(0, [2, 3, 4]), (1, [2, 3, 4, 12]), (2, [4, 5]), (3, [2, 3, 4, 16]), (4, [2, 3, 4, 32]), (5, [4, 5]), (6, [4, 6]), (7, [4, 5]), (8, [2, 3, 4, 7]), (9, [2, 3, 4, 7, 8]), (10, [2, 3, 4, 7, 8, 49]), (11, [2, 3, 4, 7, 8]), (12, [2, 3, 4, 7, 8, 59]), (13, [3, 4, 7, 8, 9]), (14, [3, 4, 7, 8, 9]), (15, [3, 4, 7, 8, 9, 71]), (16, [4, 7, 8, 9]), (17, [4, 5]), (18, [4, 5])] }
noncomputable def F11 : Fn := { fi := fi11, wins := [(7, [1, 2, 0, 5, 3, 4, 6], [(0, 0, 1)]), (12, [], [(4, 0, 1)]), (17, [], [(5, 0, 1)])], body := Try.f11.body.getD .skip, res := Try.f11.results.toList, keep := true }
def fi12 : Fi := { nt := 26, prom := [], lives := [(0, [0, 1]), (1, [0, 1, 10]), (2, [4]), (3, [0, 1, 5]), (4, [0, 1, 5, 14]), (5, [0, 1, 5]), (6, [0, 1, 5, 25]), (7, [4]), (8, [4])] }
noncomputable def F12 : Fn := { fi := fi12, wins := [], body := Try.f12.body.getD .skip, res := Try.f12.results.toList, keep := false }
def fi13 : Fi := { nt := 43, prom := [1], lives := [(0, [1]), (1, [1, 11]), (2, [2]), (3, [1, 13]), (4, [1, 13, 14]), (5, [1, 13, 16]), (6, [1, 13, 18]), (7, [1, 13, 18]), (8, [1, 13, 18]), (9, [1, 13, 18]), (10, [1, 18]), (11, [2]), (12, [1, 38]), (13, [2]), (14, [2]), (15, [2])] }
noncomputable def F13 : Fn := { fi := fi13, wins := [(11, [], [(1, 0, 1), (7, 1, 2)])], body := Try.f13.body.getD .skip, res := Try.f13.results.toList, keep := false }
def fi14 : Fi := { nt := 48, prom := [1], lives := [(0, [1]), (1, [1, 12]), (2, [2]), (3, [1, 3]), (4, [1, 3, 18]), (5, [1, 3, 18, 19]), (6, [2]), (7, [1, 3, 18, 27]), (8, [1, 3, 18, 27]), (9, [1, 3, 18, 27]), (10, [1, 3, 18, 27]), (11, [1, 3, 18, 27]), (12, [2]), (13, [1, 34]), (14, [2]), (15, [2])] }
noncomputable def F14 : Fn := { fi := fi14, wins := [(14, [], [(1, 0, 1), (7, 1, 2)])], body := Try.f14.body.getD .skip, res := Try.f14.results.toList, keep := false }
def fi15 : Fi := { nt := 15, prom := [1], lives := [(0, [1]), (1, [2])] }
noncomputable def F15 : Fn := { fi := fi15, wins := [], body := Try.f15.body.getD .skip, res := Try.f15.results.toList, keep := false }
def fi16 : Fi := { nt := 15, prom := [1], lives := [(0, [1]), (1, [2])] }
noncomputable def F16 : Fn := { fi := fi16, wins := [], body := Try.f16.body.getD .skip, res := Try.f16.results.toList, keep := false }
def fi17 : Fi := { nt := 15, prom := [1], lives := [(0, [1]), (1, [2])] }
noncomputable def F17 : Fn := { fi := fi17, wins := [], body := Try.f17.body.getD .skip, res := Try.f17.results.toList, keep := false }
def fi18 : Fi := { nt := 15, prom := [1], lives := [(0, [1]), (1, [2])] }
noncomputable def F18 : Fn := { fi := fi18, wins := [], body := Try.f18.body.getD .skip, res := Try.f18.results.toList, keep := false }
def fi19 : Fi := { nt := 26, prom := [], lives := [(0, [0, 1]), (1, [0, 1, 10]), (2, [4]), (3, [0, 1, 5]), (4, [0, 1, 5, 14]), (5, [0, 1, 5]), (6, [0, 1, 5, 25]), (7, [4]), (8, [4])] }
noncomputable def F19 : Fn := { fi := fi19, wins := [], body := Try.f19.body.getD .skip, res := Try.f19.results.toList, keep := false }
def fi20 : Fi := { nt := 32, prom := [1, 5], lives := [(0, [1]), (1, [1, 8]), (2, [2]), (3, [1, 3]), (4, [1, 3, 10, 11, 12]), (5, [1, 3, 10, 11, 12, 13]), (6, [1, 3, 5, 10, 11, 12]), (7, [1, 3, 5, 10, 11, 12, 17]), (8, [1, 3, 10, 11, 12]), (9, [1, 3, 10, 11, 12]), (10, [1, 3, 10, 11, 12]), (11, [2])] }
noncomputable def F20 : Fn := { fi := fi20, wins := [], body := Try.f20.body.getD .skip, res := Try.f20.results.toList, keep := true }
def fi21 : Fi := { nt := 26, prom := [1], lives := [(0, [1]), (1, [1, 8]), (2, [2]), (3, [1, 3]), (4, [3, 4]), (5, [3, 4, 5]), (6, [3, 4, 5, 14]), (7, [3, 4, 5]), (8, [3, 4, 5]), (9, [2])] }
noncomputable def F21 : Fn := { fi := fi21, wins := [], body := Try.f21.body.getD .skip, res := Try.f21.results.toList, keep := true }
def fi22 : Fi := { nt := 26, prom := [], lives := [(0, [0, 1]), (1, [0, 1, 10]), (2, [4]), (3, [0, 1, 5]), (4, [0, 1, 5, 14]), (5, [0, 1, 5]), (6, [0, 1, 5, 25]), (7, [4]), (8, [4])] }
noncomputable def F22 : Fn := { fi := fi22, wins := [], body := Try.f22.body.getD .skip, res := Try.f22.results.toList, keep := false }
def fi23 : Fi := { nt := 48, prom := [1, 5, 6, 10], lives := [(0, [1]), (1, [1, 3]), (2, [1, 3, 12, 13, 14]), (3, [1, 3, 12, 13, 14, 15]), (4, [1, 3, 5, 12, 13, 14]), (5, [1, 3, 6, 12, 13, 14]), (6, [1, 3, 6, 8, 12, 13, 14]), (7, [1, 3, 6, 8, 12, 13, 14, 27, 28, 29]), (8, [1, 3, 6, 8, 12, 13, 14, 27, 28, 29, 30]), (9, [1, 3, 6, 8, 10, 12, 13, 14, 27, 28, 29]), (10, [1, 3, 6, 8, 12, 13, 14, 27, 28, 29]), (11, [1, 3, 6, 8, 12, 13, 14, 27, 28, 29]), (12, [1, 3, 6, 12, 13, 14, 41]), (13, [1, 3, 12, 13, 14]), (14, [1, 3, 12, 13, 14]), (15, [2])] }
noncomputable def F23 : Fn := { fi := fi23, wins := [], body := Try.f23.body.getD .skip, res := Try.f23.results.toList, keep := true }
def fi24 : Fi := { nt := 52, prom := [1, 6], lives := [(0, [1]), (1, [1, 3]), (2, [1, 3, 4]), (3, [1, 3, 4, 5]), (4, [1, 3, 4, 5, 15]), (5, [1, 3, 4, 5]), (6, [1, 3, 4, 5, 6]), (7, [1, 3, 4, 5, 6, 8]), (8, [1, 3, 4, 5, 6, 8, 9]), (9, [1, 3, 4, 5, 6, 8, 9, 33]), (10, [1, 3, 4, 5, 6, 8, 9]), (11, [1, 3, 4, 5, 6, 8, 9]), (12, [1, 3, 4, 5, 6, 46]), (13, [1, 3, 4, 5]), (14, [2])] }
noncomputable def F24 : Fn := { fi := fi24, wins := [], body := Try.f24.body.getD .skip, res := Try.f24.results.toList, keep := true }
def fi25 : Fi := { nt := 5, prom := [2], lives := [(0, [0, 2]), (1, [2])] }
noncomputable def F25 : Fn := { fi := fi25, wins := [], body := Try.f25.body.getD .skip, res := Try.f25.results.toList, keep := false }
def fi26 : Fi := { nt := 5, prom := [2], lives := [(0, [0, 2]), (1, [2])] }
noncomputable def F26 : Fn := { fi := fi26, wins := [], body := Try.f26.body.getD .skip, res := Try.f26.results.toList, keep := false }
def fi27 : Fi := { nt := 28, prom := [2, 4, 8], lives := [(0, [1, 2, 4]), (1, [1, 2, 4, 6]), (2, [2, 4, 6, 10, 11, 12]), (3, [2, 4, 6, 10, 11, 12, 13]), (4, [2, 4, 6, 8, 10, 11, 12]), (5, [2, 4, 6, 8, 10, 11, 12]), (6, [2, 4, 6, 9, 10, 11, 12]), (7, [2, 4, 6, 10, 11, 12]), (8, [2, 4, 6, 10, 11, 12]), (9, [4, 5])] }
noncomputable def F27 : Fn := { fi := fi27, wins := [], body := Try.f27.body.getD .skip, res := Try.f27.results.toList, keep := true }
def fi28 : Fi := { nt := 31, prom := [2, 4, 8], lives := [(0, [1, 2, 4]), (1, [1, 2, 4, 6]), (2, [1, 2, 4, 6, 7]), (3, [1, 2, 4, 6, 7, 13]), (4, [1, 2, 4, 6, 7]), (5, [1, 2, 4, 6, 7, 8, 9]), (6, [1, 2, 4, 6, 7, 9]), (7, [1, 2, 4, 6, 7]), (8, [4, 5])] }
noncomputable def F28 : Fn := { fi := fi28, wins := [], body := Try.f28.body.getD .skip, res := Try.f28.results.toList, keep := true }
def fi29 : Fi := { nt := 16, prom := [1], lives := [(0, [1]), (1, [1, 4]), (2, [1, 4, 5]), (3, [2]), (4, [1, 4, 7]), (5, [1, 7]), (6, [2]), (7, [2])] }
noncomputable def F29 : Fn := { fi := fi29, wins := [], body := Try.f29.body.getD .skip, res := Try.f29.results.toList, keep := true }
def fi30 : Fi := { nt := 11, prom := [2, 4], lives := [(0, [1, 2, 4]), (1, [4])] }
noncomputable def F30 : Fn := { fi := fi30, wins := [], body := Try.f30.body.getD .skip, res := Try.f30.results.toList, keep := false }
def fi31 : Fi := { nt := 67, prom := [1, 3, 4], lives := [(0, [1]), (1, [1, 3]), (2, [1, 3, 4]), (3, [1, 3, 4, 5]), (4, [1, 3, 4, 5, 15]), (5, [1, 3, 4, 5, 15, 16]), (6, [2]), (7, [1, 3, 4, 5, 15, 26]), (8, [2]), (9, [1, 3, 4, 5, 15, 39]), (10, [2]), (11, [1, 4, 5, 50]), (12, [1, 5]), (13, [5]), (14, [2])] }
noncomputable def F31 : Fn := { fi := fi31, wins := [(6, [], [(2, 0, 1), (5, 0, 2)]), (8, [], [(2, 0, 1), (5, 0, 2), (8, 0, 3)]), (10, [], [(0, 0, 2), (5, 0, 1)]), (13, [], [(4, 0, 1)])], body := Try.f31.body.getD .skip, res := Try.f31.results.toList, keep := true }
def fi32 : Fi := { nt := 29, prom := [3, 4, 5], lives := [(0, [3, 4, 5]), (1, [3, 4, 5, 8]), (2, [6]), (3, [6])] }
noncomputable def F32 : Fn := { fi := fi32, wins := [], body := Try.f32.body.getD .skip, res := Try.f32.results.toList, keep := false }
def fi33 : Fi := { nt := 15, prom := [2, 3, 4], lives := [(0, [2, 3, 4]), (1, [2, 3, 4]), (2, [2, 3, 4, 10]), (3, [3, 4]), (4, [4])] }
noncomputable def F33 : Fn := { fi := fi33, wins := [], body := Try.f33.body.getD .skip, res := Try.f33.results.toList, keep := false }
def fi34 : Fi := { nt := 11, prom := [2, 4], lives := [(0, [1, 2, 4]), (1, [4])] }
noncomputable def F34 : Fn := { fi := fi34, wins := [], body := Try.f34.body.getD .skip, res := Try.f34.results.toList, keep := false }
def fi35 : Fi := { nt := 72, prom := [1, 3], lives := [(0, [1]), (1, [1, 3]), (2, [1, 3, 4]), (3, [1, 3, 4, 13]), (4, [1, 3, 4, 13, 14]), (5, [2]), (6, [1, 3, 4, 13, 26]), (7, [2]), (8, [1, 3, 13, 42]), (9, [2]), (10, [1, 3, 57]), (11, [2]), (12, [2])] }
noncomputable def F35 : Fn := { fi := fi35, wins := [(5, [], [(5, 0, 3), (6, 0, 2)]), (7, [], [(5, 0, 2), (9, 0, 5), (10, 0, 4)]), (9, [], [(0, 0, 5), (4, 0, 1), (8, 0, 3)]), (11, [], [(0, 0, 5), (4, 0, 1), (8, 0, 3)])], body := Try.f35.body.getD .skip, res := Try.f35.results.toList, keep := true }
def fi36 : Fi := { nt := 16, prom := [1, 2], lives := [(0, [1, 2]), (1, [1, 2, 4]), (2, [1, 2, 4, 5]), (3, [2]), (4, [1, 2, 10]), (5, [2]), (6, [2])] }
noncomputable def F36 : Fn := { fi := fi36, wins := [], body := Try.f36.body.getD .skip, res := Try.f36.results.toList, keep := false }
def fi37 : Fi := { nt := 11, prom := [2, 4], lives := [(0, [1, 2, 4]), (1, [4])] }
noncomputable def F37 : Fn := { fi := fi37, wins := [], body := Try.f37.body.getD .skip, res := Try.f37.results.toList, keep := false }
def fi38 : Fi := { nt := 8, prom := [1, 2], lives := [(0, [1, 2]), (1, [2])] }
noncomputable def F38 : Fn := { fi := fi38, wins := [], body := Try.f38.body.getD .skip, res := Try.f38.results.toList, keep := false }
def fi39 : Fi := { nt := 11, prom := [2, 4], lives := [(0, [1, 2, 4]), (1, [4])] }
noncomputable def F39 : Fn := { fi := fi39, wins := [], body := Try.f39.body.getD .skip, res := Try.f39.results.toList, keep := false }
def fi40 : Fi := { nt := 8, prom := [1, 2], lives := [(0, [1, 2]), (1, [2])] }
noncomputable def F40 : Fn := { fi := fi40, wins := [], body := Try.f40.body.getD .skip, res := Try.f40.results.toList, keep := false }
def fi41 : Fi := { nt := 6, prom := [1, 2], lives := [(0, [1, 2]), (1, [2])] }
noncomputable def F41 : Fn := { fi := fi41, wins := [], body := Try.f41.body.getD .skip, res := Try.f41.results.toList, keep := false }
def fi42 : Fi := { nt := 5, prom := [1, 2], lives := [(0, [1, 2]), (1, [2])] }
noncomputable def F42 : Fn := { fi := fi42, wins := [], body := Try.f42.body.getD .skip, res := Try.f42.results.toList, keep := false }
def fi43 : Fi := { nt := 8, prom := [1], lives := [(0, [1]), (1, [2])] }
noncomputable def F43 : Fn := { fi := fi43, wins := [], body := Try.f43.body.getD .skip, res := Try.f43.results.toList, keep := true }
def fi44 : Fi := { nt := 10, prom := [1], lives := [(0, [1]), (1, [2])] }
noncomputable def F44 : Fn := { fi := fi44, wins := [], body := Try.f44.body.getD .skip, res := Try.f44.results.toList, keep := true }
def fi45 : Fi := { nt := 6, prom := [1, 2], lives := [(0, [1, 2]), (1, [2])] }
noncomputable def F45 : Fn := { fi := fi45, wins := [], body := Try.f45.body.getD .skip, res := Try.f45.results.toList, keep := false }
noncomputable def FT (n : Nat) : Option Fn := (cond (Nat.blt n 24) (cond (Nat.blt n 13) (cond (Nat.blt n 7) (cond (Nat.blt n 4) (cond (Nat.blt n 3) (cond (Nat.beq n 2) (some F2) none) (cond (Nat.beq n 3) (some F3) none)) (cond (Nat.blt n 5) (cond (Nat.beq n 4) (some F4) none) (cond (Nat.blt n 6) (cond (Nat.beq n 5) (some F5) none) (cond (Nat.beq n 6) (some F6) none)))) (cond (Nat.blt n 10) (cond (Nat.blt n 8) (cond (Nat.beq n 7) (some F7) none) (cond (Nat.blt n 9) (cond (Nat.beq n 8) (some F8) none) (cond (Nat.beq n 9) (some F9) none))) (cond (Nat.blt n 11) (cond (Nat.beq n 10) (some F10) none) (cond (Nat.blt n 12) (cond (Nat.beq n 11) (some F11) none) (cond (Nat.beq n 12) (some F12) none))))) (cond (Nat.blt n 18) (cond (Nat.blt n 15) (cond (Nat.blt n 14) (cond (Nat.beq n 13) (some F13) none) (cond (Nat.beq n 14) (some F14) none)) (cond (Nat.blt n 16) (cond (Nat.beq n 15) (some F15) none) (cond (Nat.blt n 17) (cond (Nat.beq n 16) (some F16) none) (cond (Nat.beq n 17) (some F17) none)))) (cond (Nat.blt n 21) (cond (Nat.blt n 19) (cond (Nat.beq n 18) (some F18) none) (cond (Nat.blt n 20) (cond (Nat.beq n 19) (some F19) none) (cond (Nat.beq n 20) (some F20) none))) (cond (Nat.blt n 22) (cond (Nat.beq n 21) (some F21) none) (cond (Nat.blt n 23) (cond (Nat.beq n 22) (some F22) none) (cond (Nat.beq n 23) (some F23) none)))))) (cond (Nat.blt n 35) (cond (Nat.blt n 29) (cond (Nat.blt n 26) (cond (Nat.blt n 25) (cond (Nat.beq n 24) (some F24) none) (cond (Nat.beq n 25) (some F25) none)) (cond (Nat.blt n 27) (cond (Nat.beq n 26) (some F26) none) (cond (Nat.blt n 28) (cond (Nat.beq n 27) (some F27) none) (cond (Nat.beq n 28) (some F28) none)))) (cond (Nat.blt n 32) (cond (Nat.blt n 30) (cond (Nat.beq n 29) (some F29) none) (cond (Nat.blt n 31) (cond (Nat.beq n 30) (some F30) none) (cond (Nat.beq n 31) (some F31) none))) (cond (Nat.blt n 33) (cond (Nat.beq n 32) (some F32) none) (cond (Nat.blt n 34) (cond (Nat.beq n 33) (some F33) none) (cond (Nat.beq n 34) (some F34) none))))) (cond (Nat.blt n 40) (cond (Nat.blt n 37) (cond (Nat.blt n 36) (cond (Nat.beq n 35) (some F35) none) (cond (Nat.beq n 36) (some F36) none)) (cond (Nat.blt n 38) (cond (Nat.beq n 37) (some F37) none) (cond (Nat.blt n 39) (cond (Nat.beq n 38) (some F38) none) (cond (Nat.beq n 39) (some F39) none)))) (cond (Nat.blt n 43) (cond (Nat.blt n 41) (cond (Nat.beq n 40) (some F40) none) (cond (Nat.blt n 42) (cond (Nat.beq n 41) (some F41) none) (cond (Nat.beq n 42) (some F42) none))) (cond (Nat.blt n 44) (cond (Nat.beq n 43) (some F43) none) (cond (Nat.blt n 45) (cond (Nat.beq n 44) (some F44) none) (cond (Nat.beq n 45) (some F45) none)))))))
set_option maxRecDepth 100000
theorem ok2 : FnOk Try.prog 2 F2 := ⟨⟨Try.f2, by kernel_rfl, by kernel_rfl, by decide, by kernel_rfl, by kernel_rfl⟩, by kernel_rfl⟩
theorem ok3 : FnOk Try.prog 3 F3 := ⟨⟨Try.f3, by kernel_rfl, by kernel_rfl, by decide, by kernel_rfl, by kernel_rfl⟩, by kernel_rfl⟩
theorem ok4 : FnOk Try.prog 4 F4 := ⟨⟨Try.f4, by kernel_rfl, by kernel_rfl, by decide, by kernel_rfl, by kernel_rfl⟩, by kernel_rfl⟩
theorem ok5 : FnOk Try.prog 5 F5 := ⟨⟨Try.f5, by kernel_rfl, by kernel_rfl, by decide, by kernel_rfl, by kernel_rfl⟩, by kernel_rfl⟩
theorem ok6 : FnOk Try.prog 6 F6 := ⟨⟨Try.f6, by kernel_rfl, by kernel_rfl, by decide, by kernel_rfl, by kernel_rfl⟩, by kernel_rfl⟩
theorem ok7 : FnOk Try.prog 7 F7 := ⟨⟨Try.f7, by kernel_rfl, by kernel_rfl, by decide, by kernel_rfl, by kernel_rfl⟩, by kernel_rfl⟩
theorem ok8 : FnOk Try.prog 8 F8 := ⟨⟨Try.f8, by kernel_rfl, by kernel_rfl, by decide, by kernel_rfl, by kernel_rfl⟩, by kernel_rfl⟩
theorem ok9 : FnOk Try.prog 9 F9 := ⟨⟨Try.f9, by kernel_rfl, by kernel_rfl, by decide, by kernel_rfl, by kernel_rfl⟩, by kernel_rfl⟩
theorem ok10 : FnOk Try.prog 10 F10 := ⟨⟨Try.f10, by kernel_rfl, by kernel_rfl, by decide, by kernel_rfl, by kernel_rfl⟩, by kernel_rfl⟩
theorem ok11 : FnOk Try.prog 11 F11 := ⟨⟨Try.f11, by kernel_rfl, by kernel_rfl, by decide, by kernel_rfl, by kernel_rfl⟩, by kernel_rfl⟩
theorem ok12 : FnOk Try.prog 12 F12 := ⟨⟨Try.f12, by kernel_rfl, by kernel_rfl, by decide, by kernel_rfl, by kernel_rfl⟩, by kernel_rfl⟩
theorem ok13 : FnOk Try.prog 13 F13 := ⟨⟨Try.f13, by kernel_rfl, by kernel_rfl, by decide, by kernel_rfl, by kernel_rfl⟩, by kernel_rfl⟩
theorem ok14 : FnOk Try.prog 14 F14 := ⟨⟨Try.f14, by kernel_rfl, by kernel_rfl, by decide, by kernel_rfl, by kernel_rfl⟩, by kernel_rfl⟩
theorem ok15 : FnOk Try.prog 15 F15 := ⟨⟨Try.f15, by kernel_rfl, by kernel_rfl, by decide, by kernel_rfl, by kernel_rfl⟩, by kernel_rfl⟩
theorem ok16 : FnOk Try.prog 16 F16 := ⟨⟨Try.f16, by kernel_rfl, by kernel_rfl, by decide, by kernel_rfl, by kernel_rfl⟩, by kernel_rfl⟩
theorem ok17 : FnOk Try.prog 17 F17 := ⟨⟨Try.f17, by kernel_rfl, by kernel_rfl, by decide, by kernel_rfl, by kernel_rfl⟩, by kernel_rfl⟩
theorem ok18 : FnOk Try.prog 18 F18 := ⟨⟨Try.f18, by kernel_rfl, by kernel_rfl, by decide, by kernel_rfl, by kernel_rfl⟩, by kernel_rfl⟩
theorem ok19 : FnOk Try.prog 19 F19 := ⟨⟨Try.f19, by kernel_rfl, by kernel_rfl, by decide, by kernel_rfl, by kernel_rfl⟩, by kernel_rfl⟩
theorem ok20 : FnOk Try.prog 20 F20 := ⟨⟨Try.f20, by kernel_rfl, by kernel_rfl, by decide, by kernel_rfl, by kernel_rfl⟩, by kernel_rfl⟩
theorem ok21 : FnOk Try.prog 21 F21 := ⟨⟨Try.f21, by kernel_rfl, by kernel_rfl, by decide, by kernel_rfl, by kernel_rfl⟩, by kernel_rfl⟩
theorem ok22 : FnOk Try.prog 22 F22 := ⟨⟨Try.f22, by kernel_rfl, by kernel_rfl, by decide, by kernel_rfl, by kernel_rfl⟩, by kernel_rfl⟩
theorem ok23 : FnOk Try.prog 23 F23 := ⟨⟨Try.f23, by kernel_rfl, by kernel_rfl, by decide, by kernel_rfl, by kernel_rfl⟩, by kernel_rfl⟩
theorem ok24 : FnOk Try.prog 24 F24 := ⟨⟨Try.f24, by kernel_rfl, by kernel_rfl, by decide, by kernel_rfl, by kernel_rfl⟩, by kernel_rfl⟩
theorem ok25 : FnOk Try.prog 25 F25 := ⟨⟨Try.f25, by kernel_rfl, by kernel_rfl, by decide, by kernel_rfl, by kernel_rfl⟩, by kernel_rfl⟩
theorem ok26 : FnOk Try.prog 26 F26 := ⟨⟨Try.f26, by kernel_rfl, by kernel_rfl, by decide, by kernel_rfl, by kernel_rfl⟩, by kernel_rfl⟩
theorem ok27 : FnOk Try.prog 27 F27 := ⟨⟨Try.f27, by kernel_rfl, by kernel_rfl, by decide, by kernel_rfl, by kernel_rfl⟩, by kernel_rfl⟩
theorem ok28 : FnOk Try.prog 28 F28 := ⟨⟨Try.f28, by kernel_rfl, by kernel_rfl, by decide, by kernel_rfl, by kernel_rfl⟩, by kernel_rfl⟩
theorem ok29 : FnOk Try.prog 29 F29 := ⟨⟨Try.f29, by kernel_rfl, by kernel_rfl, by decide, by kernel_rfl, by kernel_rfl⟩, by kernel_rfl⟩
theorem ok30 : FnOk Try.prog 30 F30 := ⟨⟨Try.f30, by kernel_rfl, by kernel_rfl, by decide, by kernel_rfl, by kernel_rfl⟩, by kernel_rfl⟩
theorem ok31 : FnOk Try.prog 31 F31 := ⟨⟨Try.f31, by kernel_rfl, by kernel_rfl, by decide, by kernel_rfl, by kernel_rfl⟩, by kernel_rfl⟩
theorem ok32 : FnOk Try.prog 32 F32 := ⟨⟨Try.f32, by kernel_rfl, by kernel_rfl, by decide, by kernel_rfl, by kernel_rfl⟩, by kernel_rfl⟩
theorem ok33 : FnOk Try.prog 33 F33 := ⟨⟨Try.f33, by kernel_rfl, by kernel_rfl, by decide, by kernel_rfl, by kernel_rfl⟩, by kernel_rfl⟩
theorem ok34 : FnOk Try.prog 34 F34 := ⟨⟨Try.f34, by kernel_rfl, by kernel_rfl, by decide, by kernel_rfl, by kernel_rfl⟩, by kernel_rfl⟩
theorem ok35 : FnOk Try.prog 35 F35 := ⟨⟨Try.f35, by kernel_rfl, by kernel_rfl, by decide, by kernel_rfl, by kernel_rfl⟩, by kernel_rfl⟩
theorem ok36 : FnOk Try.prog 36 F36 := ⟨⟨Try.f36, by kernel_rfl, by kernel_rfl, by decide, by kernel_rfl, by kernel_rfl⟩, by kernel_rfl⟩
theorem ok37 : FnOk Try.prog 37 F37 := ⟨⟨Try.f37, by kernel_rfl, by kernel_rfl, by decide, by kernel_rfl, by kernel_rfl⟩, by kernel_rfl⟩
theorem ok38 : FnOk Try.prog 38 F38 := ⟨⟨Try.f38, by kernel_rfl, by kernel_rfl, by decide, by kernel_rfl, by kernel_rfl⟩, by kernel_rfl⟩
theorem ok39 : FnOk Try.prog 39 F39 := ⟨⟨Try.f39, by kernel_rfl, by kernel_rfl, by decide, by kernel_rfl, by kernel_rfl⟩, by kernel_rfl⟩
theorem ok40 : FnOk Try.prog 40 F40 := ⟨⟨Try.f40, by kernel_rfl, by kernel_rfl, by decide, by kernel_rfl, by kernel_rfl⟩, by kernel_rfl⟩
theorem ok41 : FnOk Try.prog 41 F41 := ⟨⟨Try.f41, by kernel_rfl, by kernel_rfl, by decide, by kernel_rfl, by kernel_rfl⟩, by kernel_rfl⟩
theorem ok42 : FnOk Try.prog 42 F42 := ⟨⟨Try.f42, by kernel_rfl, by kernel_rfl, by decide, by kernel_rfl, by kernel_rfl⟩, by kernel_rfl⟩
theorem ok43 : FnOk Try.prog 43 F43 := ⟨⟨Try.f43, by kernel_rfl, by kernel_rfl, by decide, by kernel_rfl, by kernel_rfl⟩, by kernel_rfl⟩
theorem ok44 : FnOk Try.prog 44 F44 := ⟨⟨Try.f44, by kernel_rfl, by kernel_rfl, by decide, by kernel_rfl, by kernel_rfl⟩, by kernel_rfl⟩
theorem ok45 : FnOk Try.prog 45 F45 := ⟨⟨Try.f45, by kernel_rfl, by kernel_rfl, by decide, by kernel_rfl, by kernel_rfl⟩, by kernel_rfl⟩
theorem ftOk : ∀ n fn, FT n = some fn → FnOk Try.prog n fn := fun _ _ h => node h (fun h => node h (fun h => node h (fun h => node h (fun h => node h (fun h => leaf h ok2) (fun h => leaf h ok3)) (fun h => node h (fun h => leaf h ok4) (fun h => node h (fun h => leaf h ok5) (fun h => leaf h ok6)))) (fun h => node h (fun h => node h (fun h => leaf h ok7) (fun h => node h (fun h => leaf h ok8) (fun h => leaf h ok9))) (fun h => node h (fun h => leaf h ok10) (fun h => node h (fun h => leaf h ok11) (fun h => leaf h ok12))))) (fun h => node h (fun h => node h (fun h => node h (fun h => leaf h ok13) (fun h => leaf h ok14)) (fun h => node h (fun h => leaf h ok15) (fun h => node h (fun h => leaf h ok16) (fun h => leaf h ok17)))) (fun h => node h (fun h => node h (fun h => leaf h ok18) (fun h => node h (fun h => leaf h ok19) (fun h => leaf h ok20))) (fun h => node h (fun h => leaf h ok21) (fun h => node h (fun h => leaf h ok22) (fun h => leaf h ok23)))))) (fun h => node h (fun h => node h (fun h => node h (fun h => node h (fun h => leaf h ok24) (fun h => leaf h ok25)) (fun h => node h (fun h => leaf h ok26) (fun h => node h (fun h => leaf h ok27) (fun h => leaf h ok28)))) (fun h => node h (fun h => node h (fun h => leaf h ok29) (fun h => node h (fun h => leaf h ok30) (fun h => leaf h ok31))) (fun h => node h (fun h => leaf h ok32) (fun h => node h (fun h => leaf h ok33) (fun h => leaf h ok34))))) (fun h => node h (fun h => node h (fun h => node h (fun h => leaf h ok35) (fun h => leaf h ok36)) (fun h => node h (fun h => leaf h ok37) (fun h => node h (fun h => leaf h ok38) (fun h => leaf h ok39)))) (fun h => node h (fun h => node h (fun h => leaf h ok40) (fun h => node h (fun h => leaf h ok41) (fun h => leaf h ok42))) (fun h => node h (fun h => leaf h ok43) (fun h => node h (fun h => leaf h ok44) (fun h => leaf h ok45))))))
end E
end Go.Proofs.Ytnfehccnofhmnaa
