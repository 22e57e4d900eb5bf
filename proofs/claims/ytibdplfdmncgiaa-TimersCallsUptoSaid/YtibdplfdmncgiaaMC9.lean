/-
  The tables of the abstract machine for this seat: printed by tab.py. No condition.
-/
import Derived.Test.YtibdplfdmncgiaaMC8
import Derived.KernelRfl
import Derived.Test.YtibdplfdmncgiaaRows
import Derived.ProofKit
import Derived.Deep.Slices
import Derived.Lib.SmallJoins
import Derived.JoinedCond
import Derived.OpenShut
set_option linter.all false
namespace Go.Proofs.Ytibdplfdmncgiaa
namespace E

def fi2 : Fi := { nt := 1, prom := [], lives := [(0, [])] }
noncomputable def F2 : Fn := { fi := fi2, wins := [], body := Try.f2.body.getD .skip, res := Try.f2.results.toList, keep := false }
def fi3 : Fi := { nt := 245, prom := [], lives := [(0, [0, 1]), (1, [0, 1, 30]), (2, [4]), (3, [0, 1, 5, 6]), (4, [0, 1, 5, 6, 39]), (5, [4]), (6, [0, 1, 5, 6, 7]), (7, [0, 1, 5, 6, 7, 8]), (8, [0, 1, 5, 6, 7, 8, 43]), (9, [0, 1, 5, 6, 7, 8]), (10, [0, 1, 5, 6, 7, 8, 10]), (11, [0, 1, 5, 6, 7, 8, 10, 12]), (12, [0, 1, 5, 6, 7, 8, 10, 87]), (13, [4]), (14, [0, 1, 5, 6, 7, 8, 90]), (15, [0, 1, 5, 6, 7, 8]), (16, [0, 1, 5, 6, 7, 13]), (17, [0, 1, 5, 6, 7, 13, 14]), (18, [0, 1, 5, 6, 7, 13, 14, 15]), (19, [0, 1, 5, 6, 7, 13, 14, 15, 96]), (20, [0, 1, 5, 6, 7, 13, 14, 15]), (21, [0, 1, 5, 6, 7, 13, 14, 15, 112]), (22, [0, 1, 5, 6, 7, 13, 14, 15]), (23, [0, 1, 5, 6, 7, 13, 14, 15, 16, 17]), (24, [0, 1, 5, 6, 7, 13, 14, 15, 16, 130]), (25, [4]), (26, [0, 1, 5, 6, 7, 13, 14, 15]), (27, [0, 5, 6, 7, 13, 14, 18, 19]), (28, [0, 13, 14, 18, 177]), (29, [4]), (30, [0, 13, 14, 18, 20]), (31, [0, 13, 14, 18, 20, 21]), (32, [0, 13, 14, 18, 20, 21, 181]), (33, [0, 13, 14, 18, 20, 21]), (34, [0, 13, 14, 18, 20, 21, 196]), (35, [0, 13, 14, 18, 20, 21]), (36, [13, 14, 18, 20, 22]), (37, [13, 14, 18, 20, 22, 202]), (38, [13, 14, 18, 20, 22]), (39, [13, 14, 18, 20, 22, 237]), (40, [4]), (41, [4])] }
noncomputable def F3 : Fn := { fi := fi3, wins := [(12, [], [(12, 2, 3)])], body := Try.f3.body.getD .skip, res := Try.f3.results.toList, keep := false }
def fi4 : Fi := { nt := 109, prom := [], lives := [(0, [0]), (1, [0, 17]), (2, [2]), (3, [0, 3]), (4, [0, 3, 21]), (5, [2]), (6, [0, 3, 4]), (7, [0, 3, 4, 25]), (8, [0, 3, 4]), (9, [0, 3, 4, 6]), (10, [0, 3, 4, 50]), (11, [2]), (12, [3, 7, 8]), (13, [3, 69]), (14, [2]), (15, [3, 9, 10, 11]), (16, [2])] }
noncomputable def F4 : Fn := { fi := fi4, wins := [], body := Try.f4.body.getD .skip, res := Try.f4.results.toList, keep := false }
def fi5 : Fi := { nt := 131, prom := [], lives := [(0, [0, 1]), (1, [0, 1, 23]), (2, [4]), (3, [0, 1, 5]), (4, [0, 1, 5, 27]), (5, [4]), (6, [0, 1, 5, 6]), (7, [0, 1, 5, 6, 7]), (8, [0, 1, 5, 6, 7, 31]), (9, [0, 1, 5, 6, 7]), (10, [0, 1, 5, 6, 7, 8, 9]), (11, [0, 1, 5, 6, 7, 8, 46]), (12, [0, 1, 5, 6, 7]), (13, [1, 5, 6, 11]), (14, [1, 5, 6, 11, 13]), (15, [1, 5, 6, 11, 13, 14, 15]), (16, [1, 5, 6, 11, 13, 14, 15, 16]), (17, [1, 5, 6, 11, 13, 14, 15, 16, 17]), (18, [1, 5, 6, 11, 13, 14, 15, 16, 17, 18]), (19, [1, 5, 6, 11, 13, 14, 15, 16, 17, 18, 71]), (20, [1, 5, 6, 11, 13, 14, 15, 16, 17, 18]), (21, [1, 5, 6, 11, 13, 14, 15, 16, 17, 18, 19, 20]), (22, [1, 5, 6, 11, 13, 14, 15, 16, 17, 18, 19, 20, 92]), (23, [1, 5, 6, 11, 13, 14, 15, 16, 17, 18, 20]), (24, [1, 5, 6, 11, 13, 14, 15, 16, 17, 18, 94]), (25, [1, 5, 6, 11, 13, 14, 15, 16, 17, 18]), (26, [4])] }
noncomputable def F5 : Fn := { fi := fi5, wins := [], body := Try.f5.body.getD .skip, res := Try.f5.results.toList, keep := false }
def fi6 : Fi := { nt := 40, prom := [], lives := [(0, [0]), (1, [0, 7]), (2, [2]), (3, [0, 3]), (4, [0, 3, 4]), (5, [0, 3, 4, 13]), (6, [2]), (7, [0, 3, 4, 5]), (8, [0, 3, 4, 5, 17]), (9, [0, 3, 4, 5]), (10, [0, 3, 4, 5, 38]), (11, [2]), (12, [2])] }
noncomputable def F6 : Fn := { fi := fi6, wins := [], body := Try.f6.body.getD .skip, res := Try.f6.results.toList, keep := false }
def fi7 : Fi := { nt := 231, prom := [15], lives := [(0, [0, 2, 4]), (1, [0, 2, 4, 26]), (2, [6]), (3, [0, 2, 4, 7]), (4, [0, 2, 4, 7, 8]), (5, [0, 2, 4, 7, 8, 32]), (6, [6]), (7, [0, 2, 4, 7, 8, 9, 10]), (8, [0, 2, 4, 7, 8, 9, 10, 11]), (9, [0, 2, 4, 7, 8, 9, 10]), (10, [0, 4, 7, 8, 9, 10, 12]), (11, [0, 4, 7, 8, 9, 10, 12, 13]), (12, [0, 4, 7, 8, 9, 10, 12, 13, 41]), (13, [0, 4, 7, 8, 9, 10, 12, 13]), (14, [0, 4, 7, 8, 9, 10, 12, 13]), (15, [0, 4, 7, 8, 9, 10, 12, 13, 55]), (16, [6]), (17, [0, 4, 7, 8, 9, 10, 12, 13, 56]), (18, [0, 4, 7, 8, 9, 10, 12, 13, 14]), (19, [0, 4, 7, 8, 9, 10, 12, 13, 14]), (20, [0, 4, 7, 8, 9, 10, 12, 13, 77]), (21, [0, 4, 7, 8, 9, 10, 12, 13, 14]), (22, [0, 4, 7, 8, 9, 10, 12, 13, 14]), (23, [0, 4, 7, 8, 9, 10, 12, 13, 122]), (24, [0, 4, 7, 8, 9, 10, 12, 13]), (25, [0, 4, 7, 8, 9, 10, 12, 13, 14, 160]), (26, [0, 4, 7, 8, 9, 10, 12, 13, 14, 15]), (27, [0, 4, 7, 8, 9, 10, 12, 13, 14, 15]), (28, [0, 4, 7, 8, 9, 10, 12, 13, 14, 15]), (29, [0, 4, 7, 8, 9, 10, 12, 13, 14]), (30, [0, 4, 7, 8, 9, 10, 12, 13, 14, 191]), (31, [0, 4, 7, 8, 9, 10, 12, 13, 14]), (32, [0, 4, 7, 8, 9, 10, 12, 13, 14]), (33, [0, 4, 7, 8, 9, 10, 12, 13]), (34, [0, 4, 7, 8, 9, 10, 12, 13, 209]), (35, [6]), (36, [9, 10, 214]), (37, [6]), (38, [9, 10, 16]), (39, [9, 10, 16, 218]), (40, [9, 10, 16]), (41, [9, 10, 16, 229]), (42, [6]), (43, [6])] }
noncomputable def F7 : Fn := { fi := fi7, wins := [], body := Try.f7.body.getD .skip, res := Try.f7.results.toList, keep := false }
def fi8 : Fi := { nt := 112, prom := [], lives := [(0, []), (1, [1]), (2, [1, 17]), (3, [0]), (4, [1, 2, 3]), (5, [1, 2, 3, 4, 5]), (6, [1, 2, 3, 4, 5, 6, 7]), (7, [1, 2, 3, 4, 5, 6, 7, 8, 9]), (8, [1, 2, 3, 4, 5, 6, 7, 8, 9, 10, 11]), (9, [1, 2, 3, 4, 5, 6, 7, 8, 9, 10, 11, 12]), (10, [1, 2, 3, 4, 5, 6, 7, 8, 9, 10, 11, 12, 14]), (11, [0])] }
noncomputable def F8 : Fn := { fi := fi8, wins := [], body := Try.f8.body.getD .skip, res := Try.f8.results.toList, keep := false }
def fi9 : Fi := { nt := 7, prom := [], lives := [(0, []), (1, [1]), (2, [0])] }
noncomputable def F9 : Fn := { fi := fi9, wins := [], body := Try.f9.body.getD .skip, res := Try.f9.results.toList, keep := true }
def fi10 : Fi := { nt := 43, prom := [], lives := [(0, [0, 1, 2]), (1, [0, 1, 2, 9]), (2, [6, 7]), (3, [0, 1, 2, 12]), (4, [6, 7]), (5, [0, 1, 2, 19]), (6, [6, 7]), (7, [0, 1, 2, 8]), (8, [0, 1, 2, 8]), (9, [8]), (10, [6, 7])] }
noncomputable def F10 : Fn := { fi := fi10, wins := [], body := Try.f10.body.getD .skip, res := Try.f10.results.toList, keep := true }
def fi11 : Fi := { nt := 4, prom := [], lives := [(0, [0]), (1, [2])] }
noncomputable def F11 : Fn := { fi := fi11, wins := [], body := Try.f11.body.getD .skip, res := Try.f11.results.toList, keep := false }
def fi12 : Fi := { nt := 27, prom := [], lives := [(0, [0, 1]), (1, [0, 1, 7]), (2, [4, 5]), (3, [0, 1, 18]), (4, [4, 5]), (5, [4, 5])] }
noncomputable def F12 : Fn := { fi := fi12, wins := [], body := Try.f12.body.getD .skip, res := Try.f12.results.toList, keep := true }
def fi13 : Fi := { nt := 10, prom := [], lives := [(0, [0]), (1, [0, 4]), (2, [2]), (3, [2])] }
noncomputable def F13 : Fn := { fi := fi13, wins := [], body := Try.f13.body.getD .skip, res := Try.f13.results.toList, keep := true }
def fi14 : Fi := { nt := 9, prom := [], lives := [(0, [0]), (1, [0, 4]), (2, [2]), (3, [2])] }
noncomputable def F14 : Fn := { fi := fi14, wins := [], body := Try.f14.body.getD .skip, res := Try.f14.results.toList, keep := true }
def fi15 : Fi := { nt := 7, prom := [], lives := [(0, []), (1, [1]), (2, [0])] }
noncomputable def F15 : Fn := { fi := fi15, wins := [], body := Try.f15.body.getD .skip, res := Try.f15.results.toList, keep := true }
def fi16 : Fi := { nt := 43, prom := [], lives := [(0, [0, 1, 2]), (1, [0, 1, 2, 9]), (2, [6, 7]), (3, [0, 1, 2, 12]), (4, [6, 7]), (5, [0, 1, 2, 19]), (6, [6, 7]), (7, [0, 1, 2, 8]), (8, [0, 1, 2, 8]), (9, [8]), (10, [6, 7])] }
noncomputable def F16 : Fn := { fi := fi16, wins := [], body := Try.f16.body.getD .skip, res := Try.f16.results.toList, keep := true }
def fi17 : Fi := { nt := 27, prom := [], lives := [(0, [0, 1]), (1, [0, 1, 7]), (2, [4, 5]), (3, [0, 1, 18]), (4, [4, 5]), (5, [4, 5])] }
noncomputable def F17 : Fn := { fi := fi17, wins := [], body := Try.f17.body.getD .skip, res := Try.f17.results.toList, keep := true }
def fi18 : Fi := { nt := 19, prom := [], lives := [(0, [0]), (1, [0, 11]), (2, [2]), (3, [2])] }
noncomputable def F18 : Fn := { fi := fi18, wins := [], body := Try.f18.body.getD .skip, res := Try.f18.results.toList, keep := true }
def fi19 : Fi := { nt := 9, prom := [], lives := [(0, [0]), (1, [0, 4]), (2, [2]), (3, [2])] }
noncomputable def F19 : Fn := { fi := fi19, wins := [], body := Try.f19.body.getD .skip, res := Try.f19.results.toList, keep := true }
def fi20 : Fi := { nt := 27, prom := [6], lives := [(0, [0, 1, 4]), (1, [0, 1, 4, 8]), (2, [4, 5]), (3, [0, 1, 5, 6]), (4, [5, 6]), (5, [4, 5])] }
noncomputable def F20 : Fn := { fi := fi20, wins := [], body := Try.f20.body.getD .skip, res := Try.f20.results.toList, keep := true }
def fi21 : Fi := { nt := 22, prom := [], lives := [(0, [0]), (1, [0, 7]), (2, [2, 3]), (3, [0, 4, 5]), (4, [0, 4, 14]), (5, [2, 3]), (6, [2, 3])] }
noncomputable def F21 : Fn := { fi := fi21, wins := [], body := Try.f21.body.getD .skip, res := Try.f21.results.toList, keep := true }
def fi22 : Fi := { nt := 22, prom := [6], lives := [(0, [0, 1]), (1, [0, 1, 9]), (2, [4, 5]), (3, [6, 7]), (4, [4, 5])] }
noncomputable def F22 : Fn := { fi := fi22, wins := [], body := Try.f22.body.getD .skip, res := Try.f22.results.toList, keep := true }
def fi23 : Fi := { nt := 10, prom := [], lives := [(0, [0]), (1, [0, 4]), (2, [2]), (3, [2])] }
noncomputable def F23 : Fn := { fi := fi23, wins := [], body := Try.f23.body.getD .skip, res := Try.f23.results.toList, keep := true }
def fi24 : Fi := { nt := 30, prom := [], lives := [(0, [0]), (1, [0, 3]), (2, [0, 3, 4]), (3, [0, 3, 4, 12]), (4, [0, 3, 4]), (5, [0, 3, 4]), (6, [2])] }
noncomputable def F24 : Fn := { fi := fi24, wins := [], body := Try.f24.body.getD .skip, res := Try.f24.results.toList, keep := false }
def fi25 : Fi := { nt := 7, prom := [], lives := [(0, []), (1, [1]), (2, [0])] }
noncomputable def F25 : Fn := { fi := fi25, wins := [], body := Try.f25.body.getD .skip, res := Try.f25.results.toList, keep := true }
def fi26 : Fi := { nt := 191, prom := [5], lives := [(0, [0, 1, 5]), (1, [0, 1, 5, 23]), (2, [0, 1, 5, 23, 24]), (3, [1, 5, 7, 8]), (4, [7, 8, 9, 10]), (5, [6]), (6, [0, 1, 5, 23, 53]), (7, [1, 5, 11, 12]), (8, [11, 12, 13, 14]), (9, [6]), (10, [0, 1, 5, 23, 82]), (11, [1, 5, 15, 16]), (12, [15, 16, 17, 18]), (13, [6]), (14, [0, 1, 5, 23, 106]), (15, [6]), (16, [0, 1, 5, 23, 122]), (17, [1, 19]), (18, [1, 19, 130]), (19, [6]), (20, [6]), (21, [0, 1, 5, 144]), (22, [1, 5, 20, 21]), (23, [1, 5, 20, 21, 165]), (24, [6]), (25, [6]), (26, [6])] }
noncomputable def F26 : Fn := { fi := fi26, wins := [(15, [], [(9, 0, 2), (11, 0, 2)])], body := Try.f26.body.getD .skip, res := Try.f26.results.toList, keep := true }
def fi27 : Fi := { nt := 131, prom := [], lives := [(0, [0, 1, 2]), (1, [0, 1, 2, 7, 8]), (2, [0, 1, 7, 8, 9]), (3, [0, 1, 7, 8, 9, 10, 11]), (4, [0, 1, 7, 8, 9, 10, 11, 60]), (5, [6]), (6, [0, 1, 103]), (7, [6]), (8, [0, 1, 12]), (9, [0, 1, 12, 113]), (10, [6]), (11, [0, 1, 12, 13]), (12, [0, 1, 12, 13, 117]), (13, [0, 1, 12, 13]), (14, [0, 1, 12, 13]), (15, [6])] }
noncomputable def F27 : Fn := { fi := fi27, wins := [(4, [], [(5, 0, 1), (13, 1, 2), (14, 1, 2)]), (15, [], [(5, 0, 1)])], body := Try.f27.body.getD .skip, res := Try.f27.results.toList, keep := true }
def fi28 : Fi := { nt := 20, prom := [], lives := [(0, [0, 1, 9]), (1, [])] }
noncomputable def F28 : Fn := { fi := fi28, wins := [], body := Try.f28.body.getD .skip, res := Try.f28.results.toList, keep := true }
def fi29 : Fi := { nt := 23, prom := [], lives := [(0, [3, 4, 5]), (1, [3, 4, 5, 17]), (2, [3, 5]), (3, [])] }
noncomputable def F29 : Fn := { fi := fi29, wins := [(0, [], [(0, 0, 1)])], body := Try.f29.body.getD .skip, res := Try.f29.results.toList, keep := true }
def fi30 : Fi := { nt := 9, prom := [], lives := [(0, [0]), (1, [0, 4]), (2, [2]), (3, [2])] }
noncomputable def F30 : Fn := { fi := fi30, wins := [], body := Try.f30.body.getD .skip, res := Try.f30.results.toList, keep := true }
def fi31 : Fi := { nt := 32, prom := [], lives := [(0, [0, 1, 2]), (1, [0, 1, 2, 9]), (2, [6, 7]), (3, [0, 1, 2, 20]), (4, [6, 7]), (5, [6, 7])] }
noncomputable def F31 : Fn := { fi := fi31, wins := [], body := Try.f31.body.getD .skip, res := Try.f31.results.toList, keep := true }
def fi32 : Fi := { nt := 19, prom := [], lives := [(0, [0]), (1, [0, 11]), (2, [2]), (3, [2])] }
noncomputable def F32 : Fn := { fi := fi32, wins := [], body := Try.f32.body.getD .skip, res := Try.f32.results.toList, keep := true }
def fi33 : Fi := { nt := 27, prom := [], lives := [(0, [0, 1]), (1, [0, 1, 7]), (2, [4, 5]), (3, [0, 1, 18]), (4, [4, 5]), (5, [4, 5])] }
noncomputable def F33 : Fn := { fi := fi33, wins := [], body := Try.f33.body.getD .skip, res := Try.f33.results.toList, keep := true }
def fi34 : Fi := { nt := 30, prom := [], lives := [(0, [0, 1, 2]), (1, [0, 1, 2, 18]), (2, [6, 7]), (3, [6, 7])] }
noncomputable def F34 : Fn := { fi := fi34, wins := [], body := Try.f34.body.getD .skip, res := Try.f34.results.toList, keep := true }
def fi35 : Fi := { nt := 43, prom := [], lives := [(0, [0, 1, 2]), (1, [0, 1, 2, 9]), (2, [6, 7]), (3, [0, 1, 2, 12]), (4, [6, 7]), (5, [0, 1, 2, 19]), (6, [6, 7]), (7, [0, 1, 2, 8]), (8, [0, 1, 2, 8]), (9, [8]), (10, [6, 7])] }
noncomputable def F35 : Fn := { fi := fi35, wins := [], body := Try.f35.body.getD .skip, res := Try.f35.results.toList, keep := true }
def fi36 : Fi := { nt := 22, prom := [], lives := [(0, [0]), (1, [0, 7]), (2, [2, 3]), (3, [0, 4, 5]), (4, [0, 4, 14]), (5, [2, 3]), (6, [2, 3])] }
noncomputable def F36 : Fn := { fi := fi36, wins := [], body := Try.f36.body.getD .skip, res := Try.f36.results.toList, keep := true }
def fi37 : Fi := { nt := 26, prom := [], lives := [(0, [0, 1]), (1, [0, 1, 10]), (2, [4]), (3, [0, 1, 5]), (4, [0, 1, 5, 14]), (5, [0, 1, 5]), (6, [0, 1, 5, 25]), (7, [4]), (8, [4])] }
noncomputable def F37 : Fn := { fi := fi37, wins := [], body := Try.f37.body.getD .skip, res := Try.f37.results.toList, keep := false }
def fi38 : Fi := { nt := 10, prom := [], lives := [(0, [0]), (1, [0, 4]), (2, [2]), (3, [2])] }
noncomputable def F38 : Fn := { fi := fi38, wins := [], body := Try.f38.body.getD .skip, res := Try.f38.results.toList, keep := true }
def fi39 : Fi := { nt := 24, prom := [2, 3], lives := [(0, [2, 3]), (1, [4])] }
noncomputable def F39 : Fn := { fi := fi39, wins := [], body := Try.f39.body.getD .skip, res := Try.f39.results.toList, keep := false }
def fi40 : Fi := { nt := 6, prom := [], lives := [(0, [0]), (1, [2])] }
noncomputable def F40 : Fn := { fi := fi40, wins := [], body := Try.f40.body.getD .skip, res := Try.f40.results.toList, keep := true }
def fi41 : Fi := { nt := 39, prom := [], lives := [(0, [0, 1, 2]), (1, [0]), (2, [])] }
noncomputable def F41 : Fn := { fi := fi41, wins := [], body := Try.f41.body.getD .skip, res := Try.f41.results.toList, keep := true }
def fi42 : Fi := { nt := 70, prom := [8], lives := [(0, [0, 1]), (1, [0, 1, 5]), (2, [0, 1, 5, 6, 7]), (3, [0, 1, 5, 6, 28]), (4, [5]), (5, [4]), (6, [0, 1, 5, 6, 8]), (7, [0, 1, 5, 6, 8]), (8, [0, 1, 5, 6, 8]), (9, [0, 1, 5, 6, 8]), (10, [0, 1, 5, 6, 8, 58, 59, 60]), (11, [0, 1, 5, 6, 8, 58, 59, 60, 61]), (12, [0, 1, 5, 6, 8, 10, 58, 59, 60]), (13, [0, 1, 5, 6, 8, 58, 59, 60]), (14, [0, 1, 5, 6, 8, 58, 59, 60])] }
noncomputable def F42 : Fn := { fi := fi42, wins := [], body := Try.f42.body.getD .skip, res := Try.f42.results.toList, keep := true }
def fi43 : Fi := { nt := 24, prom := [2, 3], lives := [(0, [2, 3]), (1, [4])] }
noncomputable def F43 : Fn := { fi := fi43, wins := [], body := Try.f43.body.getD .skip, res := Try.f43.results.toList, keep := false }
def fi44 : Fi := { nt := 39, prom := [], lives := [(0, [0, 1, 2]), (1, [0]), (2, [])] }
noncomputable def F44 : Fn := { fi := fi44, wins := [], body := Try.f44.body.getD .skip, res := Try.f44.results.toList, keep := true }
def fi45 : Fi := { nt := 70, prom := [8], lives := [(0, [0, 1]), (1, [0, 1, 5]), (2, [0, 1, 5, 6, 7]), (3, [0, 1, 5, 6, 28]), (4, [5]), (5, [4]), (6, [0, 1, 5, 6, 8]), (7, [0, 1, 5, 6, 8]), (8, [0, 1, 5, 6, 8]), (9, [0, 1, 5, 6, 8]), (10, [0, 1, 5, 6, 8, 58, 59, 60]), (11, [0, 1, 5, 6, 8, 58, 59, 60, 61]), (12, [0, 1, 5, 6, 8, 10, 58, 59, 60]), (13, [0, 1, 5, 6, 8, 58, 59, 60]), (14, [0, 1, 5, 6, 8, 58, 59, 60])] }
noncomputable def F45 : Fn := { fi := fi45, wins := [], body := Try.f45.body.getD .skip, res := Try.f45.results.toList, keep := true }
def fi46 : Fi := { nt := 43, prom := [4, 6], lives := [(0, [0]), (1, [0, 4, 5]), (2, [0, 4, 17]), (3, [2, 3]), (4, [0, 4, 6, 7]), (5, [0, 4, 35]), (6, [2, 3]), (7, [0])] }
noncomputable def F46 : Fn := { fi := fi46, wins := [], body := Try.f46.body.getD .skip, res := Try.f46.results.toList, keep := true }
def fi47 : Fi := { nt := 24, prom := [2, 3], lives := [(0, [2, 3]), (1, [4])] }
noncomputable def F47 : Fn := { fi := fi47, wins := [], body := Try.f47.body.getD .skip, res := Try.f47.results.toList, keep := false }
def fi48 : Fi := { nt := 41, prom := [], lives := [(0, [0, 1, 2]), (1, [0, 1, 2, 13]), (2, [6, 7]), (3, [0, 1, 2, 19]), (4, [6, 7]), (5, [0]), (6, [0]), (7, [6, 7])] }
noncomputable def F48 : Fn := { fi := fi48, wins := [], body := Try.f48.body.getD .skip, res := Try.f48.results.toList, keep := true }
def fi49 : Fi := { nt := 27, prom := [6], lives := [(0, [0, 1, 4]), (1, [0, 1, 4, 8]), (2, [4, 5]), (3, [0, 1, 5, 6]), (4, [5, 6]), (5, [4, 5])] }
noncomputable def F49 : Fn := { fi := fi49, wins := [], body := Try.f49.body.getD .skip, res := Try.f49.results.toList, keep := true }
def fi50 : Fi := { nt := 16, prom := [], lives := [(0, [0, 1]), (1, [0, 6]), (2, [0, 6, 11]), (3, [4, 5]), (4, [4, 5])] }
noncomputable def F50 : Fn := { fi := fi50, wins := [], body := Try.f50.body.getD .skip, res := Try.f50.results.toList, keep := true }
def fi51 : Fi := { nt := 34, prom := [7], lives := [(0, [0, 1, 2]), (1, [0, 1, 2, 10]), (2, [6]), (3, [0, 1, 2, 7, 8]), (4, [0, 1, 2, 7, 21]), (5, [6]), (6, [0, 1, 2, 7, 27]), (7, [6]), (8, []), (9, [6])] }
noncomputable def F51 : Fn := { fi := fi51, wins := [], body := Try.f51.body.getD .skip, res := Try.f51.results.toList, keep := true }
def fi52 : Fi := { nt := 28, prom := [8], lives := [(0, [0, 1, 2]), (1, [0, 2, 7]), (2, [0, 2, 7, 13]), (3, [6]), (4, [0, 2, 7, 19]), (5, [6]), (6, [0, 2, 8]), (7, [0, 8]), (8, []), (9, [6])] }
noncomputable def F52 : Fn := { fi := fi52, wins := [], body := Try.f52.body.getD .skip, res := Try.f52.results.toList, keep := true }
def fi53 : Fi := { nt := 20, prom := [], lives := [(0, [0]), (1, [0, 3]), (2, [0, 3, 4]), (3, [0, 3, 4, 8]), (4, [0, 3, 4]), (5, [0, 3, 4]), (6, [2])] }
noncomputable def F53 : Fn := { fi := fi53, wins := [], body := Try.f53.body.getD .skip, res := Try.f53.results.toList, keep := true }
def fi54 : Fi := { nt := 33, prom := [], lives := [(0, [0, 1]), (1, [0, 1, 5]), (2, [0, 1, 5, 22]), (3, [0, 1, 5]), (4, [5]), (5, [4])] }
noncomputable def F54 : Fn := { fi := fi54, wins := [], body := Try.f54.body.getD .skip, res := Try.f54.results.toList, keep := true }
def fi55 : Fi := { nt := 22, prom := [6], lives := [(0, [0, 1]), (1, [0, 1, 9]), (2, [4, 5]), (3, [6, 7]), (4, [4, 5])] }
noncomputable def F55 : Fn := { fi := fi55, wins := [], body := Try.f55.body.getD .skip, res := Try.f55.results.toList, keep := true }
def fi56 : Fi := { nt := 26, prom := [], lives := [(0, [0, 1]), (1, [0, 1, 5]), (2, [0, 1, 5, 12]), (3, [0, 1, 5]), (4, [0, 1, 5, 24]), (5, [4]), (6, [4])] }
noncomputable def F56 : Fn := { fi := fi56, wins := [], body := Try.f56.body.getD .skip, res := Try.f56.results.toList, keep := true }
def fi57 : Fi := { nt := 27, prom := [], lives := [(0, [0]), (1, [0, 7]), (2, [2]), (3, [0, 3]), (4, [0, 3, 9, 10, 11]), (5, [0, 3, 9, 10, 11, 12]), (6, [0, 3, 5, 9, 10, 11]), (7, [0, 3, 9, 10, 11]), (8, [0, 3, 9, 10, 11]), (9, [2])] }
noncomputable def F57 : Fn := { fi := fi57, wins := [], body := Try.f57.body.getD .skip, res := Try.f57.results.toList, keep := true }
def fi58 : Fi := { nt := 70, prom := [8], lives := [(0, [0, 1]), (1, [0, 1, 5]), (2, [0, 1, 5, 6, 7]), (3, [0, 1, 5, 6, 28]), (4, [5]), (5, [4]), (6, [0, 1, 5, 6, 8]), (7, [0, 1, 5, 6, 8]), (8, [0, 1, 5, 6, 8]), (9, [0, 1, 5, 6, 8]), (10, [0, 1, 5, 6, 8, 58, 59, 60]), (11, [0, 1, 5, 6, 8, 58, 59, 60, 61]), (12, [0, 1, 5, 6, 8, 10, 58, 59, 60]), (13, [0, 1, 5, 6, 8, 58, 59, 60]), (14, [0, 1, 5, 6, 8, 58, 59, 60])] }
noncomputable def F58 : Fn := { fi := fi58, wins := [], body := Try.f58.body.getD .skip, res := Try.f58.results.toList, keep := true }
def fi59 : Fi := { nt := 39, prom := [], lives := [(0, [0, 1, 2]), (1, [0]), (2, [])] }
noncomputable def F59 : Fn := { fi := fi59, wins := [], body := Try.f59.body.getD .skip, res := Try.f59.results.toList, keep := true }
def fi60 : Fi := { nt := 43, prom := [4, 6], lives := [(0, [0]), (1, [0, 4, 5]), (2, [0, 4, 17]), (3, [2, 3]), (4, [0, 4, 6, 7]), (5, [0, 4, 35]), (6, [2, 3]), (7, [0])] }
noncomputable def F60 : Fn := { fi := fi60, wins := [], body := Try.f60.body.getD .skip, res := Try.f60.results.toList, keep := true }
def fi61 : Fi := { nt := 78, prom := [3], lives := [(0, [0, 3]), (1, [0, 3, 6]), (2, [0]), (3, [0]), (4, [0, 4]), (5, [0, 4, 44]), (6, [0, 4]), (7, [0, 4])] }
noncomputable def F61 : Fn := { fi := fi61, wins := [], body := Try.f61.body.getD .skip, res := Try.f61.results.toList, keep := true }
def fi62 : Fi := { nt := 43, prom := [4, 6], lives := [(0, [0]), (1, [0, 4, 5]), (2, [0, 4, 17]), (3, [2, 3]), (4, [0, 4, 6, 7]), (5, [0, 4, 35]), (6, [2, 3]), (7, [0])] }
noncomputable def F62 : Fn := { fi := fi62, wins := [], body := Try.f62.body.getD .skip, res := Try.f62.results.toList, keep := true }
def fi63 : Fi := { nt := 22, prom := [2], lives := [(0, [0, 2]), (1, [0, 2, 13]), (2, [2, 3]), (3, [2, 3])] }
noncomputable def F63 : Fn := { fi := fi63, wins := [], body := Try.f63.body.getD .skip, res := Try.f63.results.toList, keep := true }
def fi64 : Fi := { nt := 111, prom := [2], lives := [(0, [0, 2]), (1, [0, 2, 16]), (2, [2, 3]), (3, [0, 2]), (4, [0, 2, 4]), (5, [0, 2, 4]), (6, [0, 2, 4]), (7, [0, 2, 4]), (8, [0, 2, 4, 5]), (9, [0, 2, 4, 5, 6]), (10, [0, 2, 4, 5, 6, 64]), (11, [0, 2, 4, 5, 6, 75]), (12, [0, 2, 4, 5, 6]), (13, [0, 2, 4, 5, 6, 82]), (14, [0, 2, 4, 6]), (15, [0, 2, 4, 5]), (16, [2, 3])] }
noncomputable def F64 : Fn := { fi := fi64, wins := [], body := Try.f64.body.getD .skip, res := Try.f64.results.toList, keep := true }
def fi65 : Fi := { nt := 73, prom := [3], lives := [(0, [0, 3]), (1, [0]), (2, [0, 4]), (3, [0, 4, 42]), (4, [0, 4]), (5, [0, 4])] }
noncomputable def F65 : Fn := { fi := fi65, wins := [], body := Try.f65.body.getD .skip, res := Try.f65.results.toList, keep := true }
def fi66 : Fi := { nt := 33, prom := [4, 5], lives := [(0, [0, 1, 4]), (1, [0, 1, 4, 5]), (2, [4, 5]), (3, [4])] }
noncomputable def F66 : Fn := { fi := fi66, wins := [(2, [], [(5, 0, 0), (7, 0, 0), (12, 0, 1), (15, 0, 1)])], body := Try.f66.body.getD .skip, res := Try.f66.results.toList, keep := true }
def fi67 : Fi := { nt := 22, prom := [], lives := [(0, [1]), (1, [1, 3]), (2, [1, 3, 9]), (3, [1, 3, 9, 11]), (4, [1, 3, 4, 9]), (5, [1, 3, 9]), (6, [3]), (7, [2])] }
noncomputable def F67 : Fn := { fi := fi67, wins := [], body := Try.f67.body.getD .skip, res := Try.f67.results.toList, keep := true }
def fi68 : Fi := { nt := 49, prom := [7, 8], lives := [(0, [0, 1, 2]), (1, [0, 7, 8]), (2, [0, 7, 8, 31]), (3, [6]), (4, [6])] }
noncomputable def F68 : Fn := { fi := fi68, wins := [(1, [], [(10, 0, 1), (13, 0, 1)])], body := Try.f68.body.getD .skip, res := Try.f68.results.toList, keep := true }
def fi69 : Fi := { nt := 14, prom := [], lives := [(0, [0, 1, 4]), (1, [])] }
noncomputable def F69 : Fn := { fi := fi69, wins := [], body := Try.f69.body.getD .skip, res := Try.f69.results.toList, keep := true }
def fi70 : Fi := { nt := 35, prom := [6, 7], lives := [(0, [0, 1, 2]), (1, [6, 7]), (2, [6, 7, 24]), (3, [29]), (4, [5]), (5, [5]), (6, [5])] }
noncomputable def F70 : Fn := { fi := fi70, wins := [(1, [], [(6, 0, 1), (9, 0, 1), (11, 0, 1)])], body := Try.f70.body.getD .skip, res := Try.f70.results.toList, keep := true }
def fi71 : Fi := { nt := 148, prom := [], lives := [(0, [0, 1, 2, 3, 4, 10]), (1, [0, 1, 2, 3, 4, 10, 11]), (2, [0, 1, 2, 3, 4, 10, 11, 12]), (3, [0, 1, 2, 3, 4, 10, 11, 12, 25]), (4, []), (5, [0, 1, 2, 3, 4, 10, 11, 12, 32]), (6, []), (7, [0, 1, 2, 3, 4, 10, 11, 12, 39]), (8, [0, 1, 2, 3, 4, 10, 11, 12]), (9, [0, 1, 2, 3, 4, 10, 11, 12]), (10, [0, 1, 2, 3, 4, 10, 11, 12, 13, 14]), (11, [0, 1, 2, 3, 4, 10, 11, 12, 13, 14, 56]), (12, [0, 1, 2, 3, 4, 10, 11, 12, 13]), (13, [0, 1, 2, 3, 4, 10, 11, 12, 13]), (14, [0, 1, 2, 3, 4, 10, 11, 12, 13, 14]), (15, [0, 1, 2, 3, 4, 10, 11, 12, 13, 75]), (16, [0, 1, 2, 3, 4, 10, 11, 12, 13, 80]), (17, [0, 1, 2, 3, 4, 10, 11, 12, 13, 97]), (18, [0, 2, 3, 4, 10, 11, 15]), (19, [0, 1, 2, 3, 4, 10, 11]), (20, [0, 1, 2, 3, 4, 12, 16, 17]), (21, [0, 1, 2, 3, 4, 11, 12, 16]), (22, [0, 1, 2, 3, 4, 11, 12, 16, 18, 19]), (23, [0, 1, 2, 3, 4, 11, 16, 18, 19, 20]), (24, [0, 1, 2, 3, 4, 11, 16, 18, 19, 20, 125]), (25, [0, 1, 2, 3, 4, 10, 11, 16]), (26, [0, 2, 3, 4, 10, 11, 16]), (27, [0, 1, 2, 3, 4, 10, 11]), (28, [0, 1, 2, 3, 4, 10, 11, 16]), (29, [0, 1, 3, 4, 10, 11, 16]), (30, [0, 1, 2, 3, 4, 10, 11])] }
noncomputable def F71 : Fn := { fi := fi71, wins := [], body := Try.f71.body.getD .skip, res := Try.f71.results.toList, keep := true }
def fi72 : Fi := { nt := 8, prom := [], lives := [(0, [0]), (1, [2]), (2, [2])] }
noncomputable def F72 : Fn := { fi := fi72, wins := [], body := Try.f72.body.getD .skip, res := Try.f72.results.toList, keep := false }
def fi73 : Fi := { nt := 53, prom := [], lives := [(0, [0, 1, 2, 3, 8]), (1, [0, 1, 2, 3, 8, 14]), (2, [0, 1, 2, 3, 8]), (3, [0, 1, 2, 3, 8, 9]), (4, [0, 1, 2, 3, 8, 9, 34]), (5, [0, 1, 2, 3, 8, 9]), (6, [0, 1, 2, 3, 8, 9])] }
noncomputable def F73 : Fn := { fi := fi73, wins := [], body := Try.f73.body.getD .skip, res := Try.f73.results.toList, keep := true }
def fi74 : Fi := { nt := 60, prom := [], lives := [(0, [0, 1, 2, 3, 8]), (1, [0, 1, 2, 3, 8, 9]), (2, [0, 3, 8, 9, 10]), (3, [0, 3, 8, 9, 10, 11]), (4, [0, 3, 8, 9, 10, 11, 21]), (5, [0, 3, 8, 9, 10, 11]), (6, [0, 3, 8, 9, 10, 11]), (7, [0, 3, 8, 9, 12]), (8, [0, 3, 8, 9, 12, 33]), (9, [0, 3, 8, 9, 12]), (10, [0, 3, 8, 9, 12]), (11, [0, 3, 8, 9, 12])] }
noncomputable def F74 : Fn := { fi := fi74, wins := [], body := Try.f74.body.getD .skip, res := Try.f74.results.toList, keep := true }
def fi75 : Fi := { nt := 67, prom := [], lives := [(0, [0, 1, 8]), (1, [0, 1, 8, 17]), (2, [0, 1, 8, 9]), (3, [0, 1, 8, 9, 10]), (4, [0, 1, 8, 9, 10, 11]), (5, [0, 1, 8, 9, 10, 11, 35]), (6, [0, 1, 8, 9, 10, 11]), (7, [0, 1, 8, 9, 10, 11, 12]), (8, [0, 1, 8, 9, 10, 11, 12, 45]), (9, [0, 1, 8, 9, 10, 11, 12]), (10, [0, 1, 8, 9, 10, 11])] }
noncomputable def F75 : Fn := { fi := fi75, wins := [], body := Try.f75.body.getD .skip, res := Try.f75.results.toList, keep := true }
def fi76 : Fi := { nt := 63, prom := [], lives := [(0, [0, 1, 2, 3]), (1, [0, 1, 3, 10]), (2, [0, 1, 3, 10, 11]), (3, [0, 1, 3, 10, 11, 12]), (4, [0, 1, 3, 10, 11, 12, 13]), (5, [0, 3, 10, 11, 12, 13, 14]), (6, [0, 3, 10, 11, 12, 13, 14, 34]), (7, [0, 3, 11, 12, 13, 14, 36]), (8, [0, 3, 11, 12, 13, 14]), (9, [0, 3, 11, 12, 13, 14]), (10, [0, 3, 11, 12, 13, 14]), (11, [11, 13]), (12, [13, 55]), (13, [8, 9]), (14, [13, 55, 57]), (15, [8, 9]), (16, [13, 60]), (17, [8, 9])] }
noncomputable def F76 : Fn := { fi := fi76, wins := [], body := Try.f76.body.getD .skip, res := Try.f76.results.toList, keep := true }
def fi77 : Fi := { nt := 34, prom := [], lives := [(0, [0, 2, 8]), (1, [0, 8, 9]), (2, [0, 8, 9, 15]), (3, [0, 8, 9]), (4, [0, 8, 9]), (5, [0, 8, 9])] }
noncomputable def F77 : Fn := { fi := fi77, wins := [], body := Try.f77.body.getD .skip, res := Try.f77.results.toList, keep := true }
def fi78 : Fi := { nt := 141, prom := [], lives := [(0, [0, 1, 2, 3]), (1, [0, 1, 2, 3, 9]), (2, [0, 1, 2, 3, 9, 10]), (3, [0, 1, 2, 3, 9, 10, 16]), (4, [0, 1, 2, 3, 9, 10]), (5, [0, 1, 2, 3, 9, 10, 36]), (6, [0, 1, 2, 3, 9, 10]), (7, [0, 1, 2, 3, 9, 10, 41]), (8, [8]), (9, [0, 1, 2, 3, 9, 10, 45]), (10, [8]), (11, [0, 1, 2, 3, 9, 10]), (12, [0, 1, 2, 3, 9, 10, 65]), (13, [0, 1, 2, 3, 9, 10, 11]), (14, [0, 1, 2, 3, 9, 10, 11, 69]), (15, [0, 1, 2, 3, 9, 10, 11]), (16, [0, 1, 2, 3, 9, 10, 11, 84]), (17, [0, 1, 2, 3, 9, 10, 11]), (18, [0, 1, 2, 3, 9, 10, 104]), (19, [0, 1, 2, 3, 9, 10, 12]), (20, [0, 1, 2, 3, 9, 10, 12, 109]), (21, [0, 1, 2, 3, 9, 10, 12]), (22, [0, 1, 2, 3, 9, 10, 12, 124]), (23, [0, 1, 2, 3, 9, 10, 12]), (24, [8])] }
noncomputable def F78 : Fn := { fi := fi78, wins := [], body := Try.f78.body.getD .skip, res := Try.f78.results.toList, keep := true }
def fi79 : Fi := { nt := 90, prom := [], lives := [(0, [0, 1, 2, 3, 4]), (1, [0, 1, 2, 4]), (2, [0, 1, 4, 11, 12]), (3, [0, 1, 4, 11, 12, 47]), (4, [0, 1, 4, 11, 12]), (5, [0, 1, 4, 11, 12, 65]), (6, [0, 1, 4, 11, 12]), (7, [0, 1, 4, 11, 12, 70]), (8, [0, 1, 4, 11, 12]), (9, [0, 1, 4, 11, 12]), (10, [0, 1, 4, 11, 12]), (11, [10])] }
noncomputable def F79 : Fn := { fi := fi79, wins := [], body := Try.f79.body.getD .skip, res := Try.f79.results.toList, keep := true }
def fi80 : Fi := { nt := 178, prom := [], lives := [(0, [0, 1, 2, 3, 4]), (1, [0, 1, 2, 4]), (2, [0, 1, 4, 12, 13]), (3, [0, 1, 4, 12, 13, 47]), (4, [0, 1, 4, 12, 13]), (5, [0, 1, 4, 12, 13, 66]), (6, [0, 1, 4, 12, 13]), (7, [0, 1, 4, 12, 13, 71]), (8, [13]), (9, [10, 11]), (10, [0, 1, 4, 12, 13]), (11, [0, 1, 4, 12, 13]), (12, [0, 1, 4, 12, 13]), (13, [0, 1, 4, 12, 13, 120]), (14, [0, 1, 4, 12, 13]), (15, [0, 1, 4, 12, 13, 139]), (16, [0, 1, 4, 12, 13]), (17, [0, 1, 4, 12, 13, 144]), (18, [0, 1, 4, 12, 13]), (19, [0, 1, 4, 12, 13]), (20, [0, 1, 4, 12, 13]), (21, [13]), (22, [10, 11])] }
noncomputable def F80 : Fn := { fi := fi80, wins := [], body := Try.f80.body.getD .skip, res := Try.f80.results.toList, keep := true }
def fi81 : Fi := { nt := 19, prom := [], lives := [(0, [0, 2]), (1, [0, 2, 4]), (2, [0]), (3, [0, 2]), (4, [0, 2, 8]), (5, [0, 2]), (6, [0, 2]), (7, [2])] }
noncomputable def F81 : Fn := { fi := fi81, wins := [], body := Try.f81.body.getD .skip, res := Try.f81.results.toList, keep := false }
def fi82 : Fi := { nt := 25, prom := [], lives := [(0, [0, 2]), (1, [0, 2, 4]), (2, [0]), (3, [0, 2]), (4, [0, 2, 8]), (5, [0, 2]), (6, [0, 2]), (7, [0, 2, 14]), (8, [0, 2]), (9, [0, 2]), (10, [2])] }
noncomputable def F82 : Fn := { fi := fi82, wins := [], body := Try.f82.body.getD .skip, res := Try.f82.results.toList, keep := false }
def fi83 : Fi := { nt := 82, prom := [], lives := [(0, [0, 2, 3, 4, 10]), (1, [0, 2, 3, 4, 10, 11]), (2, [0, 2, 3, 4, 10, 11, 18]), (3, [0, 2, 3, 4, 10, 11, 40]), (4, [0, 2, 3, 4, 10, 11]), (5, [0, 2, 3, 4, 10, 11, 58]), (6, [0, 2, 3, 4, 11]), (7, [0, 2, 3, 4, 10])] }
noncomputable def F83 : Fn := { fi := fi83, wins := [], body := Try.f83.body.getD .skip, res := Try.f83.results.toList, keep := true }
def fi84 : Fi := { nt := 7, prom := [], lives := [(0, [0]), (1, [2])] }
noncomputable def F84 : Fn := { fi := fi84, wins := [], body := Try.f84.body.getD .skip, res := Try.f84.results.toList, keep := false }
def fi85 : Fi := { nt := 33, prom := [], lives := [(0, [0]), (1, [0]), (2, [0]), (3, [0]), (4, [2])] }
noncomputable def F85 : Fn := { fi := fi85, wins := [], body := Try.f85.body.getD .skip, res := Try.f85.results.toList, keep := true }
def fi86 : Fi := { nt := 18, prom := [], lives := [(0, [0, 1, 2, 3]), (1, [8])] }
noncomputable def F86 : Fn := { fi := fi86, wins := [], body := Try.f86.body.getD .skip, res := Try.f86.results.toList, keep := true }
def fi87 : Fi := { nt := 41, prom := [], lives := [(0, [0, 1, 2, 3, 4, 5]), (1, [0, 1, 2, 3, 4, 5]), (2, [0, 1, 2, 4, 5]), (3, [2]), (4, [12])] }
noncomputable def F87 : Fn := { fi := fi87, wins := [], body := Try.f87.body.getD .skip, res := Try.f87.results.toList, keep := true }
def fi88 : Fi := { nt := 32, prom := [], lives := [(0, [0, 1, 2, 3, 4]), (1, [1, 2, 3, 22]), (2, [1, 2]), (3, [10, 11]), (4, [10, 11])] }
noncomputable def F88 : Fn := { fi := fi88, wins := [], body := Try.f88.body.getD .skip, res := Try.f88.results.toList, keep := true }
noncomputable def FT (n : Nat) : Option Fn := (cond (Nat.blt n 45) (cond (Nat.blt n 23) (cond (Nat.blt n 12) (cond (Nat.blt n 7) (cond (Nat.blt n 4) (cond (Nat.blt n 3) (cond (Nat.beq n 2) (some F2) none) (cond (Nat.beq n 3) (some F3) none)) (cond (Nat.blt n 5) (cond (Nat.beq n 4) (some F4) none) (cond (Nat.blt n 6) (cond (Nat.beq n 5) (some F5) none) (cond (Nat.beq n 6) (some F6) none)))) (cond (Nat.blt n 9) (cond (Nat.blt n 8) (cond (Nat.beq n 7) (some F7) none) (cond (Nat.beq n 8) (some F8) none)) (cond (Nat.blt n 10) (cond (Nat.beq n 9) (some F9) none) (cond (Nat.blt n 11) (cond (Nat.beq n 10) (some F10) none) (cond (Nat.beq n 11) (some F11) none))))) (cond (Nat.blt n 17) (cond (Nat.blt n 14) (cond (Nat.blt n 13) (cond (Nat.beq n 12) (some F12) none) (cond (Nat.beq n 13) (some F13) none)) (cond (Nat.blt n 15) (cond (Nat.beq n 14) (some F14) none) (cond (Nat.blt n 16) (cond (Nat.beq n 15) (some F15) none) (cond (Nat.beq n 16) (some F16) none)))) (cond (Nat.blt n 20) (cond (Nat.blt n 18) (cond (Nat.beq n 17) (some F17) none) (cond (Nat.blt n 19) (cond (Nat.beq n 18) (some F18) none) (cond (Nat.beq n 19) (some F19) none))) (cond (Nat.blt n 21) (cond (Nat.beq n 20) (some F20) none) (cond (Nat.blt n 22) (cond (Nat.beq n 21) (some F21) none) (cond (Nat.beq n 22) (some F22) none)))))) (cond (Nat.blt n 34) (cond (Nat.blt n 28) (cond (Nat.blt n 25) (cond (Nat.blt n 24) (cond (Nat.beq n 23) (some F23) none) (cond (Nat.beq n 24) (some F24) none)) (cond (Nat.blt n 26) (cond (Nat.beq n 25) (some F25) none) (cond (Nat.blt n 27) (cond (Nat.beq n 26) (some F26) none) (cond (Nat.beq n 27) (some F27) none)))) (cond (Nat.blt n 31) (cond (Nat.blt n 29) (cond (Nat.beq n 28) (some F28) none) (cond (Nat.blt n 30) (cond (Nat.beq n 29) (some F29) none) (cond (Nat.beq n 30) (some F30) none))) (cond (Nat.blt n 32) (cond (Nat.beq n 31) (some F31) none) (cond (Nat.blt n 33) (cond (Nat.beq n 32) (some F32) none) (cond (Nat.beq n 33) (some F33) none))))) (cond (Nat.blt n 39) (cond (Nat.blt n 36) (cond (Nat.blt n 35) (cond (Nat.beq n 34) (some F34) none) (cond (Nat.beq n 35) (some F35) none)) (cond (Nat.blt n 37) (cond (Nat.beq n 36) (some F36) none) (cond (Nat.blt n 38) (cond (Nat.beq n 37) (some F37) none) (cond (Nat.beq n 38) (some F38) none)))) (cond (Nat.blt n 42) (cond (Nat.blt n 40) (cond (Nat.beq n 39) (some F39) none) (cond (Nat.blt n 41) (cond (Nat.beq n 40) (some F40) none) (cond (Nat.beq n 41) (some F41) none))) (cond (Nat.blt n 43) (cond (Nat.beq n 42) (some F42) none) (cond (Nat.blt n 44) (cond (Nat.beq n 43) (some F43) none) (cond (Nat.beq n 44) (some F44) none))))))) (cond (Nat.blt n 67) (cond (Nat.blt n 56) (cond (Nat.blt n 50) (cond (Nat.blt n 47) (cond (Nat.blt n 46) (cond (Nat.beq n 45) (some F45) none) (cond (Nat.beq n 46) (some F46) none)) (cond (Nat.blt n 48) (cond (Nat.beq n 47) (some F47) none) (cond (Nat.blt n 49) (cond (Nat.beq n 48) (some F48) none) (cond (Nat.beq n 49) (some F49) none)))) (cond (Nat.blt n 53) (cond (Nat.blt n 51) (cond (Nat.beq n 50) (some F50) none) (cond (Nat.blt n 52) (cond (Nat.beq n 51) (some F51) none) (cond (Nat.beq n 52) (some F52) none))) (cond (Nat.blt n 54) (cond (Nat.beq n 53) (some F53) none) (cond (Nat.blt n 55) (cond (Nat.beq n 54) (some F54) none) (cond (Nat.beq n 55) (some F55) none))))) (cond (Nat.blt n 61) (cond (Nat.blt n 58) (cond (Nat.blt n 57) (cond (Nat.beq n 56) (some F56) none) (cond (Nat.beq n 57) (some F57) none)) (cond (Nat.blt n 59) (cond (Nat.beq n 58) (some F58) none) (cond (Nat.blt n 60) (cond (Nat.beq n 59) (some F59) none) (cond (Nat.beq n 60) (some F60) none)))) (cond (Nat.blt n 64) (cond (Nat.blt n 62) (cond (Nat.beq n 61) (some F61) none) (cond (Nat.blt n 63) (cond (Nat.beq n 62) (some F62) none) (cond (Nat.beq n 63) (some F63) none))) (cond (Nat.blt n 65) (cond (Nat.beq n 64) (some F64) none) (cond (Nat.blt n 66) (cond (Nat.beq n 65) (some F65) none) (cond (Nat.beq n 66) (some F66) none)))))) (cond (Nat.blt n 78) (cond (Nat.blt n 72) (cond (Nat.blt n 69) (cond (Nat.blt n 68) (cond (Nat.beq n 67) (some F67) none) (cond (Nat.beq n 68) (some F68) none)) (cond (Nat.blt n 70) (cond (Nat.beq n 69) (some F69) none) (cond (Nat.blt n 71) (cond (Nat.beq n 70) (some F70) none) (cond (Nat.beq n 71) (some F71) none)))) (cond (Nat.blt n 75) (cond (Nat.blt n 73) (cond (Nat.beq n 72) (some F72) none) (cond (Nat.blt n 74) (cond (Nat.beq n 73) (some F73) none) (cond (Nat.beq n 74) (some F74) none))) (cond (Nat.blt n 76) (cond (Nat.beq n 75) (some F75) none) (cond (Nat.blt n 77) (cond (Nat.beq n 76) (some F76) none) (cond (Nat.beq n 77) (some F77) none))))) (cond (Nat.blt n 83) (cond (Nat.blt n 80) (cond (Nat.blt n 79) (cond (Nat.beq n 78) (some F78) none) (cond (Nat.beq n 79) (some F79) none)) (cond (Nat.blt n 81) (cond (Nat.beq n 80) (some F80) none) (cond (Nat.blt n 82) (cond (Nat.beq n 81) (some F81) none) (cond (Nat.beq n 82) (some F82) none)))) (cond (Nat.blt n 86) (cond (Nat.blt n 84) (cond (Nat.beq n 83) (some F83) none) (cond (Nat.blt n 85) (cond (Nat.beq n 84) (some F84) none) (cond (Nat.beq n 85) (some F85) none))) (cond (Nat.blt n 87) (cond (Nat.beq n 86) (some F86) none) (cond (Nat.blt n 88) (cond (Nat.beq n 87) (some F87) none) (cond (Nat.beq n 88) (some F88) none))))))))
set_option maxRecDepth 100000
theorem ok2 : FnOk Try.prog 2 F2 := ⟨⟨Try.f2, by kernel_rfl, by kernel_rfl, by decide, by kernel_rfl, by kernel_rfl⟩, by kernel_rfl⟩
theorem ok3 : FnOk Try.prog 3 F3 := ⟨⟨Try.f3, by kernel_rfl, by kernel_rfl, by decide, by kernel_rfl, by kernel_rfl⟩, by kernel_rfl⟩
theorem ok4 : FnOk Try.prog 4 F4 := ⟨⟨Try.f4, by kernel_rfl, by kernel_rfl, by decide, by kernel_rfl, by kernel_rfl⟩, by kernel_rfl⟩
theorem ok5 : FnOk Try.prog 5 F5 := ⟨⟨Try.f5, by kernel_rfl, by kernel_rfl, by decide, by kernel_rfl, by kernel_rfl⟩, by kernel_rfl⟩
theorem ok6 : FnOk Try.prog 6 F6 := ⟨⟨Try.f6, by kernel_rfl, by kernel_rfl, by decide, by kernel_rfl, by kernel_rfl⟩, by kernel_rfl⟩
theorem ok7 : FnOk Try.prog 7 F7 := ⟨⟨Try.f7, by kernel_rfl, by kernel_rfl, by decide, by kernel_rfl, by kernel_rfl⟩, by kernel_rfl⟩
theorem ok8 : FnOk Try.prog 8 F8 := ⟨⟨Try.f8, by kernel_rfl, by kernel_rfl, by decide, by kernel_rfl, by kernel_rfl⟩, by kernel_rfl⟩
theorem ok9 : FnOk Try.prog 9 F9 := ⟨⟨Try.f9, by kernel_rfl, by kernel_rfl, by decide, by kernel_rfl, by kernel_rfl⟩, by kernel_rfl⟩
theorem ok10 : FnOk Try.prog 10 F10 := ⟨⟨Try.f10, by kernel_rfl, by kernel_rfl, by decide, by kernel_rfl, by kernel_rfl⟩, by kernel_rfl⟩
theorem ok11 : FnOk Try.prog 11 F11 := ⟨⟨Try.f11, by kernel_rfl, by kernel_rfl, by decide, by kernel_rfl, by kernel_rfl⟩, by kernel_rfl⟩
theorem ok12 : FnOk Try.prog 12 F12 := ⟨⟨Try.f12, by kernel_rfl, by kernel_rfl, by decide, by kernel_rfl, by kernel_rfl⟩, by kernel_rfl⟩
theorem ok13 : FnOk Try.prog 13 F13 := ⟨⟨Try.f13, by kernel_rfl, by kernel_rfl, by decide, by kernel_rfl, by kernel_rfl⟩, by kernel_rfl⟩
theorem ok14 : FnOk Try.prog 14 F14 := ⟨⟨Try.f14, by kernel_rfl, by kernel_rfl, by decide, by kernel_rfl, by kernel_rfl⟩, by kernel_rfl⟩
theorem ok15 : FnOk Try.prog 15 F15 := ⟨⟨Try.f15, by kernel_rfl, by kernel_rfl, by decide, by kernel_rfl, by kernel_rfl⟩, by kernel_rfl⟩
theorem ok16 : FnOk Try.prog 16 F16 := ⟨⟨Try.f16, by kernel_rfl, by kernel_rfl, by decide, by kernel_rfl, by kernel_rfl⟩, by kernel_rfl⟩
theorem ok17 : FnOk Try.prog 17 F17 := ⟨⟨Try.f17, by kernel_rfl, by kernel_rfl, by decide, by kernel_rfl, by kernel_rfl⟩, by kernel_rfl⟩
theorem ok18 : FnOk Try.prog 18 F18 := ⟨⟨Try.f18, by kernel_rfl, by kernel_rfl, by decide, by kernel_rfl, by kernel_rfl⟩, by kernel_rfl⟩
theorem ok19 : FnOk Try.prog 19 F19 := ⟨⟨Try.f19, by kernel_rfl, by kernel_rfl, by decide, by kernel_rfl, by kernel_rfl⟩, by kernel_rfl⟩
theorem ok20 : FnOk Try.prog 20 F20 := ⟨⟨Try.f20, by kernel_rfl, by kernel_rfl, by decide, by kernel_rfl, by kernel_rfl⟩, by kernel_rfl⟩
theorem ok21 : FnOk Try.prog 21 F21 := ⟨⟨Try.f21, by kernel_rfl, by kernel_rfl, by decide, by kernel_rfl, by kernel_rfl⟩, by kernel_rfl⟩
theorem ok22 : FnOk Try.prog 22 F22 := ⟨⟨Try.f22, by kernel_rfl, by kernel_rfl, by decide, by kernel_rfl, by kernel_rfl⟩, by kernel_rfl⟩
theorem ok23 : FnOk Try.prog 23 F23 := ⟨⟨Try.f23, by kernel_rfl, by kernel_rfl, by decide, by kernel_rfl, by kernel_rfl⟩, by kernel_rfl⟩
theorem ok24 : FnOk Try.prog 24 F24 := ⟨⟨Try.f24, by kernel_rfl, by kernel_rfl, by decide, by kernel_rfl, by kernel_rfl⟩, by kernel_rfl⟩
theorem ok25 : FnOk Try.prog 25 F25 := ⟨⟨Try.f25, by kernel_rfl, by kernel_rfl, by decide, by kernel_rfl, by kernel_rfl⟩, by kernel_rfl⟩
theorem ok26 : FnOk Try.prog 26 F26 := ⟨⟨Try.f26, by kernel_rfl, by kernel_rfl, by decide, by kernel_rfl, by kernel_rfl⟩, by kernel_rfl⟩
theorem ok27 : FnOk Try.prog 27 F27 := ⟨⟨Try.f27, by kernel_rfl, by kernel_rfl, by decide, by kernel_rfl, by kernel_rfl⟩, by kernel_rfl⟩
theorem ok28 : FnOk Try.prog 28 F28 := ⟨⟨Try.f28, by kernel_rfl, by kernel_rfl, by decide, by kernel_rfl, by kernel_rfl⟩, by kernel_rfl⟩
theorem ok29 : FnOk Try.prog 29 F29 := ⟨⟨Try.f29, by kernel_rfl, by kernel_rfl, by decide, by kernel_rfl, by kernel_rfl⟩, by kernel_rfl⟩
theorem ok30 : FnOk Try.prog 30 F30 := ⟨⟨Try.f30, by kernel_rfl, by kernel_rfl, by decide, by kernel_rfl, by kernel_rfl⟩, by kernel_rfl⟩
theorem ok31 : FnOk Try.prog 31 F31 := ⟨⟨Try.f31, by kernel_rfl, by kernel_rfl, by decide, by kernel_rfl, by kernel_rfl⟩, by kernel_rfl⟩
theorem ok32 : FnOk Try.prog 32 F32 := ⟨⟨Try.f32, by kernel_rfl, by kernel_rfl, by decide, by kernel_rfl, by kernel_rfl⟩, by kernel_rfl⟩
theorem ok33 : FnOk Try.prog 33 F33 := ⟨⟨Try.f33, by kernel_rfl, by kernel_rfl, by decide, by kernel_rfl, by kernel_rfl⟩, by kernel_rfl⟩
theorem ok34 : FnOk Try.prog 34 F34 := ⟨⟨Try.f34, by kernel_rfl, by kernel_rfl, by decide, by kernel_rfl, by kernel_rfl⟩, by kernel_rfl⟩
theorem ok35 : FnOk Try.prog 35 F35 := ⟨⟨Try.f35, by kernel_rfl, by kernel_rfl, by decide, by kernel_rfl, by kernel_rfl⟩, by kernel_rfl⟩
theorem ok36 : FnOk Try.prog 36 F36 := ⟨⟨Try.f36, by kernel_rfl, by kernel_rfl, by decide, by kernel_rfl, by kernel_rfl⟩, by kernel_rfl⟩
theorem ok37 : FnOk Try.prog 37 F37 := ⟨⟨Try.f37, by kernel_rfl, by kernel_rfl, by decide, by kernel_rfl, by kernel_rfl⟩, by kernel_rfl⟩
theorem ok38 : FnOk Try.prog 38 F38 := ⟨⟨Try.f38, by kernel_rfl, by kernel_rfl, by decide, by kernel_rfl, by kernel_rfl⟩, by kernel_rfl⟩
theorem ok39 : FnOk Try.prog 39 F39 := ⟨⟨Try.f39, by kernel_rfl, by kernel_rfl, by decide, by kernel_rfl, by kernel_rfl⟩, by kernel_rfl⟩
theorem ok40 : FnOk Try.prog 40 F40 := ⟨⟨Try.f40, by kernel_rfl, by kernel_rfl, by decide, by kernel_rfl, by kernel_rfl⟩, by kernel_rfl⟩
theorem ok41 : FnOk Try.prog 41 F41 := ⟨⟨Try.f41, by kernel_rfl, by kernel_rfl, by decide, by kernel_rfl, by kernel_rfl⟩, by kernel_rfl⟩
theorem ok42 : FnOk Try.prog 42 F42 := ⟨⟨Try.f42, by kernel_rfl, by kernel_rfl, by decide, by kernel_rfl, by kernel_rfl⟩, by kernel_rfl⟩
theorem ok43 : FnOk Try.prog 43 F43 := ⟨⟨Try.f43, by kernel_rfl, by kernel_rfl, by decide, by kernel_rfl, by kernel_rfl⟩, by kernel_rfl⟩
theorem ok44 : FnOk Try.prog 44 F44 := ⟨⟨Try.f44, by kernel_rfl, by kernel_rfl, by decide, by kernel_rfl, by kernel_rfl⟩, by kernel_rfl⟩
theorem ok45 : FnOk Try.prog 45 F45 := ⟨⟨Try.f45, by kernel_rfl, by kernel_rfl, by decide, by kernel_rfl, by kernel_rfl⟩, by kernel_rfl⟩
theorem ok46 : FnOk Try.prog 46 F46 := ⟨⟨Try.f46, by kernel_rfl, by kernel_rfl, by decide, by kernel_rfl, by kernel_rfl⟩, by kernel_rfl⟩
theorem ok47 : FnOk Try.prog 47 F47 := ⟨⟨Try.f47, by kernel_rfl, by kernel_rfl, by decide, by kernel_rfl, by kernel_rfl⟩, by kernel_rfl⟩
theorem ok48 : FnOk Try.prog 48 F48 := ⟨⟨Try.f48, by kernel_rfl, by kernel_rfl, by decide, by kernel_rfl, by kernel_rfl⟩, by kernel_rfl⟩
theorem ok49 : FnOk Try.prog 49 F49 := ⟨⟨Try.f49, by kernel_rfl, by kernel_rfl, by decide, by kernel_rfl, by kernel_rfl⟩, by kernel_rfl⟩
theorem ok50 : FnOk Try.prog 50 F50 := ⟨⟨Try.f50, by kernel_rfl, by kernel_rfl, by decide, by kernel_rfl, by kernel_rfl⟩, by kernel_rfl⟩
theorem ok51 : FnOk Try.prog 51 F51 := ⟨⟨Try.f51, by kernel_rfl, by kernel_rfl, by decide, by kernel_rfl, by kernel_rfl⟩, by kernel_rfl⟩
theorem ok52 : FnOk Try.prog 52 F52 := ⟨⟨Try.f52, by kernel_rfl, by kernel_rfl, by decide, by kernel_rfl, by kernel_rfl⟩, by kernel_rfl⟩
theorem ok53 : FnOk Try.prog 53 F53 := ⟨⟨Try.f53, by kernel_rfl, by kernel_rfl, by decide, by kernel_rfl, by kernel_rfl⟩, by kernel_rfl⟩
theorem ok54 : FnOk Try.prog 54 F54 := ⟨⟨Try.f54, by kernel_rfl, by kernel_rfl, by decide, by kernel_rfl, by kernel_rfl⟩, by kernel_rfl⟩
theorem ok55 : FnOk Try.prog 55 F55 := ⟨⟨Try.f55, by kernel_rfl, by kernel_rfl, by decide, by kernel_rfl, by kernel_rfl⟩, by kernel_rfl⟩
theorem ok56 : FnOk Try.prog 56 F56 := ⟨⟨Try.f56, by kernel_rfl, by kernel_rfl, by decide, by kernel_rfl, by kernel_rfl⟩, by kernel_rfl⟩
theorem ok57 : FnOk Try.prog 57 F57 := ⟨⟨Try.f57, by kernel_rfl, by kernel_rfl, by decide, by kernel_rfl, by kernel_rfl⟩, by kernel_rfl⟩
theorem ok58 : FnOk Try.prog 58 F58 := ⟨⟨Try.f58, by kernel_rfl, by kernel_rfl, by decide, by kernel_rfl, by kernel_rfl⟩, by kernel_rfl⟩
theorem ok59 : FnOk Try.prog 59 F59 := ⟨⟨Try.f59, by kernel_rfl, by kernel_rfl, by decide, by kernel_rfl, by kernel_rfl⟩, by kernel_rfl⟩
theorem ok60 : FnOk Try.prog 60 F60 := ⟨⟨Try.f60, by kernel_rfl, by kernel_rfl, by decide, by kernel_rfl, by kernel_rfl⟩, by kernel_rfl⟩
theorem ok61 : FnOk Try.prog 61 F61 := ⟨⟨Try.f61, by kernel_rfl, by kernel_rfl, by decide, by kernel_rfl, by kernel_rfl⟩, by kernel_rfl⟩
theorem ok62 : FnOk Try.prog 62 F62 := ⟨⟨Try.f62, by kernel_rfl, by kernel_rfl, by decide, by kernel_rfl, by kernel_rfl⟩, by kernel_rfl⟩
theorem ok63 : FnOk Try.prog 63 F63 := ⟨⟨Try.f63, by kernel_rfl, by kernel_rfl, by decide, by kernel_rfl, by kernel_rfl⟩, by kernel_rfl⟩
theorem ok64 : FnOk Try.prog 64 F64 := ⟨⟨Try.f64, by kernel_rfl, by kernel_rfl, by decide, by kernel_rfl, by kernel_rfl⟩, by kernel_rfl⟩
theorem ok65 : FnOk Try.prog 65 F65 := ⟨⟨Try.f65, by kernel_rfl, by kernel_rfl, by decide, by kernel_rfl, by kernel_rfl⟩, by kernel_rfl⟩
theorem ok66 : FnOk Try.prog 66 F66 := ⟨⟨Try.f66, by kernel_rfl, by kernel_rfl, by decide, by kernel_rfl, by kernel_rfl⟩, by kernel_rfl⟩
theorem ok67 : FnOk Try.prog 67 F67 := ⟨⟨Try.f67, by kernel_rfl, by kernel_rfl, by decide, by kernel_rfl, by kernel_rfl⟩, by kernel_rfl⟩
theorem ok68 : FnOk Try.prog 68 F68 := ⟨⟨Try.f68, by kernel_rfl, by kernel_rfl, by decide, by kernel_rfl, by kernel_rfl⟩, by kernel_rfl⟩
theorem ok69 : FnOk Try.prog 69 F69 := ⟨⟨Try.f69, by kernel_rfl, by kernel_rfl, by decide, by kernel_rfl, by kernel_rfl⟩, by kernel_rfl⟩
theorem ok70 : FnOk Try.prog 70 F70 := ⟨⟨Try.f70, by kernel_rfl, by kernel_rfl, by decide, by kernel_rfl, by kernel_rfl⟩, by kernel_rfl⟩
theorem ok71 : FnOk Try.prog 71 F71 := ⟨⟨Try.f71, by kernel_rfl, by kernel_rfl, by decide, by kernel_rfl, by kernel_rfl⟩, by kernel_rfl⟩
theorem ok72 : FnOk Try.prog 72 F72 := ⟨⟨Try.f72, by kernel_rfl, by kernel_rfl, by decide, by kernel_rfl, by kernel_rfl⟩, by kernel_rfl⟩
theorem ok73 : FnOk Try.prog 73 F73 := ⟨⟨Try.f73, by kernel_rfl, by kernel_rfl, by decide, by kernel_rfl, by kernel_rfl⟩, by kernel_rfl⟩
theorem ok74 : FnOk Try.prog 74 F74 := ⟨⟨Try.f74, by kernel_rfl, by kernel_rfl, by decide, by kernel_rfl, by kernel_rfl⟩, by kernel_rfl⟩
theorem ok75 : FnOk Try.prog 75 F75 := ⟨⟨Try.f75, by kernel_rfl, by kernel_rfl, by decide, by kernel_rfl, by kernel_rfl⟩, by kernel_rfl⟩
theorem ok76 : FnOk Try.prog 76 F76 := ⟨⟨Try.f76, by kernel_rfl, by kernel_rfl, by decide, by kernel_rfl, by kernel_rfl⟩, by kernel_rfl⟩
theorem ok77 : FnOk Try.prog 77 F77 := ⟨⟨Try.f77, by kernel_rfl, by kernel_rfl, by decide, by kernel_rfl, by kernel_rfl⟩, by kernel_rfl⟩
theorem ok78 : FnOk Try.prog 78 F78 := ⟨⟨Try.f78, by kernel_rfl, by kernel_rfl, by decide, by kernel_rfl, by kernel_rfl⟩, by kernel_rfl⟩
theorem ok79 : FnOk Try.prog 79 F79 := ⟨⟨Try.f79, by kernel_rfl, by kernel_rfl, by decide, by kernel_rfl, by kernel_rfl⟩, by kernel_rfl⟩
theorem ok80 : FnOk Try.prog 80 F80 := ⟨⟨Try.f80, by kernel_rfl, by kernel_rfl, by decide, by kernel_rfl, by kernel_rfl⟩, by kernel_rfl⟩
theorem ok81 : FnOk Try.prog 81 F81 := ⟨⟨Try.f81, by kernel_rfl, by kernel_rfl, by decide, by kernel_rfl, by kernel_rfl⟩, by kernel_rfl⟩
theorem ok82 : FnOk Try.prog 82 F82 := ⟨⟨Try.f82, by kernel_rfl, by kernel_rfl, by decide, by kernel_rfl, by kernel_rfl⟩, by kernel_rfl⟩
theorem ok83 : FnOk Try.prog 83 F83 := ⟨⟨Try.f83, by kernel_rfl, by kernel_rfl, by decide, by kernel_rfl, by kernel_rfl⟩, by kernel_rfl⟩
theorem ok84 : FnOk Try.prog 84 F84 := ⟨⟨Try.f84, by kernel_rfl, by kernel_rfl, by decide, by kernel_rfl, by kernel_rfl⟩, by kernel_rfl⟩
theorem ok85 : FnOk Try.prog 85 F85 := ⟨⟨Try.f85, by kernel_rfl, by kernel_rfl, by decide, by kernel_rfl, by kernel_rfl⟩, by kernel_rfl⟩
theorem ok86 : FnOk Try.prog 86 F86 := ⟨⟨Try.f86, by kernel_rfl, by kernel_rfl, by decide, by kernel_rfl, by kernel_rfl⟩, by kernel_rfl⟩
theorem ok87 : FnOk Try.prog 87 F87 := ⟨⟨Try.f87, by kernel_rfl, by kernel_rfl, by decide, by kernel_rfl, by kernel_rfl⟩, by kernel_rfl⟩
theorem ok88 : FnOk Try.prog 88 F88 := ⟨⟨Try.f88, by kernel_rfl, by kernel_rfl, by decide, by kernel_rfl, by kernel_rfl⟩, by kernel_rfl⟩
theorem ftOk : ∀ n fn, FT n = some fn → FnOk Try.prog n fn := fun _ _ h => node h (fun h => node h (fun h => node h (fun h => node h (fun h => node h (fun h => node h (fun h => leaf h ok2) (fun h => leaf h ok3)) (fun h => node h (fun h => leaf h ok4) (fun h => node h (fun h => leaf h ok5) (fun h => leaf h ok6)))) (fun h => node h (fun h => node h (fun h => leaf h ok7) (fun h => leaf h ok8)) (fun h => node h (fun h => leaf h ok9) (fun h => node h (fun h => leaf h ok10) (fun h => leaf h ok11))))) (fun h => node h (fun h => node h (fun h => node h (fun h => leaf h ok12) (fun h => leaf h ok13)) (fun h => node h (fun h => leaf h ok14) (fun h => node h (fun h => leaf h ok15) (fun h => leaf h ok16)))) (fun h => node h (fun h => node h (fun h => leaf h ok17) (fun h => node h (fun h => leaf h ok18) (fun h => leaf h ok19))) (fun h => node h (fun h => leaf h ok20) (fun h => node h (fun h => leaf h ok21) (fun h => leaf h ok22)))))) (fun h => node h (fun h => node h (fun h => node h (fun h => node h (fun h => leaf h ok23) (fun h => leaf h ok24)) (fun h => node h (fun h => leaf h ok25) (fun h => node h (fun h => leaf h ok26) (fun h => leaf h ok27)))) (fun h => node h (fun h => node h (fun h => leaf h ok28) (fun h => node h (fun h => leaf h ok29) (fun h => leaf h ok30))) (fun h => node h (fun h => leaf h ok31) (fun h => node h (fun h => leaf h ok32) (fun h => leaf h ok33))))) (fun h => node h (fun h => node h (fun h => node h (fun h => leaf h ok34) (fun h => leaf h ok35)) (fun h => node h (fun h => leaf h ok36) (fun h => node h (fun h => leaf h ok37) (fun h => leaf h ok38)))) (fun h => node h (fun h => node h (fun h => leaf h ok39) (fun h => node h (fun h => leaf h ok40) (fun h => leaf h ok41))) (fun h => node h (fun h => leaf h ok42) (fun h => node h (fun h => leaf h ok43) (fun h => leaf h ok44))))))) (fun h => node h (fun h => node h (fun h => node h (fun h => node h (fun h => node h (fun h => leaf h ok45) (fun h => leaf h ok46)) (fun h => node h (fun h => leaf h ok47) (fun h => node h (fun h => leaf h ok48) (fun h => leaf h ok49)))) (fun h => node h (fun h => node h (fun h => leaf h ok50) (fun h => node h (fun h => leaf h ok51) (fun h => leaf h ok52))) (fun h => node h (fun h => leaf h ok53) (fun h => node h (fun h => leaf h ok54) (fun h => leaf h ok55))))) (fun h => node h (fun h => node h (fun h => node h (fun h => leaf h ok56) (fun h => leaf h ok57)) (fun h => node h (fun h => leaf h ok58) (fun h => node h (fun h => leaf h ok59) (fun h => leaf h ok60)))) (fun h => node h (fun h => node h (fun h => leaf h ok61) (fun h => node h (fun h => leaf h ok62) (fun h => leaf h ok63))) (fun h => node h (fun h => leaf h ok64) (fun h => node h (fun h => leaf h ok65) (fun h => leaf h ok66)))))) (fun h => node h (fun h => node h (fun h => node h (fun h => node h (fun h => leaf h ok67) (fun h => leaf h ok68)) (fun h => node h (fun h => leaf h ok69) (fun h => node h (fun h => leaf h ok70) (fun h => leaf h ok71)))) (fun h => node h (fun h => node h (fun h => leaf h ok72) (fun h => node h (fun h => leaf h ok73) (fun h => leaf h ok74))) (fun h => node h (fun h => leaf h ok75) (fun h => node h (fun h => leaf h ok76) (fun h => leaf h ok77))))) (fun h => node h (fun h => node h (fun h => node h (fun h => leaf h ok78) (fun h => leaf h ok79)) (fun h => node h (fun h => leaf h ok80) (fun h => node h (fun h => leaf h ok81) (fun h => leaf h ok82)))) (fun h => node h (fun h => node h (fun h => leaf h ok83) (fun h => node h (fun h => leaf h ok84) (fun h => leaf h ok85))) (fun h => node h (fun h => leaf h ok86) (fun h => node h (fun h => leaf h ok87) (fun h => leaf h ok88)))))))
end E
end Go.Proofs.Ytibdplfdmncgiaa

/-
  An abstract machine of this place's own: the row's last step, for a law whose call only extends the world. No condition.
-/
namespace Go.Proofs.Ytibdplfdmncgiaa
open Go.ChangeShapes Go.WideShapes Go.ChangeAt Go.RowKit Go.Deep
namespace E

theorem prog_own : ownKnob Try.prog.godebug = none := by kernel_rfl
theorem prog_laid : laidOutB Try.prog = true := by kernel_rfl
theorem mixed : Try.prog.follows .mixedOrders = true := by kernel_rfl
noncomputable def X0 : Ctx := ctxOf Try.prog
theorem gok (loops n : Nat) : GOk Try.prog (callN Try.prog X0 FT loops n) := callN_ok ttOk flatOk mixed ftOk loops n

def isTrue (r : Option (V × Heap)) : Bool := match r with | some (.one (.lit (.bool b)), _) => b | _ => false

theorem isTrue_some {r : Option (V × Heap)} (h : isTrue r = true) : ∃ h', r = some (.one (.lit (.bool true)), h') := by
  unfold isTrue at h
  split at h
  · rename_i b h'
    subst h
    exact ⟨h', rfl⟩
  · cases h

/-- A call that hands nothing back that may be written only extends the world. -/
theorem step_below {β β' : Pls} {w w' : World} {h h' : Heap} (hro : ∀ b x, h.get b = some x → x.rw = false) (hst : Step β noF ⟨[], [], h⟩ w β' noF ⟨[], [], h'⟩ w') : Below w.heap.size w w' :=
  ⟨hst.os, hst.tape, hst.output, hst.size, fun k hk => hst.fr k hk fun hm => by
    rcases hm with ⟨b, x, p, e1, e2, _⟩ | ⟨t, cs, e1, _⟩
    · rw [hro b x e1] at e2; cases e2
    · cases e1⟩

/-- A law without arguments that the machine runs to true. -/
theorem calls_true {f : FuncId} {loops n : Nat} (h : isTrue (callN Try.prog X0 FT loops n f [] ⟨0, []⟩) = true) (W : World) :
    Calls Try.prog f #[] W fun e w' => e = .returned (.bool true) ∧ Below W.heap.size W w' := by
  obtain ⟨h', hr⟩ := isTrue_some h
  obtain ⟨_, _, hc⟩ := gok loops n _ _ _ _ _ hr
  refine (hc (fun _ => none) W [] ⟨fun _ _ => rfl, (fun b x e => by cases e), (fun b b' x x' p p' _ e => by cases e)⟩ trivial).mono fun e w' he => ?_
  obtain ⟨x, β', rfl, hv, _, hst, _⟩ := he
  have hx : x = .bool true := hv
  exact ⟨by rw [hx], step_below (h := ⟨0, []⟩) (fun b x e => by cases e) hst⟩

section
variable {H : Type} {enc : TypeId × Value → H} {P : Program}
/-- Behind a call that extends the world and hands back what the specification says, each argument reads as it did. -/
theorem post_ext {f : Func} {s : ChangeSpec} {apart fresh handsOn again : Bool} {W W' : World} {args : Array Value} {v : Value} {ds gs : List (DataW H)} {before pa pv : List MemPlace}
    (hW : DataW.Whole enc P f.params.toList s.vars apart W args.toList ds gs before)
    (hres : ∀ (b : Nat) (sp : Nat → Bool) (hd : Bool), DataW.TrodAll enc P W' b sp hd f.resultTypes.toList (v.resultList f.resultTypes.size) (s.fn H (ds ++ gs)).results [])
    (hargs : ∀ sp : Nat → Bool, (∀ p ∈ before, sp p.block = true) → DataW.TrodAll enc P W' 0 sp true f.params.toList args.toList (s.fn H (ds ++ gs)).args pa)
    (hvars : ∀ sp : Nat → Bool, (∀ p ∈ before, sp p.block = true) → DataW.TrodVars enc P W' sp s.vars (s.fn H (ds ++ gs)).vars pv)
    (hps : before = pa ++ pv) (hb : Below W.heap.size W W')
    (hok : ∀ (j : Nat) (t : TypeId) (r : Value), f.resultTypes[j]? = some t → (v.resultList f.resultTypes.size)[j]? = some r → Value.okWide P W' .any 0 t r) :
    s.post enc P f apart fresh handsOn again W args v W' := by
  have hlt : ∀ p ∈ before, p.block < W.heap.size := fun p hp => hW.lt p hp
  have hold : ∀ p ∈ before, (fun b => decide (b < W.heap.size)) p.block = true := fun p hp => by simpa using hlt p hp
  refine ⟨ds, gs, before, [], pa, pv, hW, hres _ _ _, hargs _ hold, hvars _ hold, World.keptBut_mono (fun p hp => ⟨hp, ?_⟩) (Below.frame hb (· ∈ before)), fun _ => ?_⟩
  · rw [hps, List.mem_append] at hp
    exact Or.inr hp
  · obtain ⟨_, _, _, _, _, hz, hn⟩ := hW
    refine ⟨hok, _, _, ([] ++ pa) ++ pv, ⟨[] ++ pa, pv, trodAll_append (hargs _ (fun _ _ => rfl)) (hres _ _ _), hvars _ (fun _ _ => rfl), rfl, ?_, ?_⟩, ?_⟩
    · intro b off hp
      have hin : MemPlace.cell b off ∈ before := by rw [hps]; simpa using hp
      rw [Below.frozen hb (hlt _ hin)]
      exact hz b off hin
    · intro ha
      have := hn ha
      rw [hps] at this
      simpa using this
    · intro p hp _
      rw [hps]
      simpa using hp

theorem trod_ext {t : TypeId} (hl : laidOutB P = true) (hr : P.readableRec t = true) (hrow : t < P.types.size) {W W' : World} {sp : Nat → Bool} {v : Value} {d : DataW H} {ps : List MemPlace}
    (h : DataW.Trod enc P W 0 (fun _ => true) true t v d ps) (hb : Below W.heap.size W W') (hlt : ∀ x ∈ ps, x.block < W.heap.size) (hs : ∀ p ∈ ps, sp p.block = true) : DataW.Trod enc P W' 0 sp true t v d ps :=
  WideElems.Trod_stays hl hr hrow h (fun x hx => Below.same hb (hlt x hx)) hs

end
end E
end Go.Proofs.Ytibdplfdmncgiaa
