/-
  The tables of the abstract machine for this seat: printed by tab.py. No condition.
-/
import Derived.Test.YtodnfbfhdloogaaMS8
import Derived.KernelRfl
import Derived.Test.YtodnfbfhdloogaaRows
import Derived.ProofKit
import Derived.Deep.Slices
import Derived.Lib.SmallJoins
import Derived.JoinedCond
import Derived.OpenShut
import Derived.Test.YtodnfbfhdloogaaProg
import Derived.WalkKit
import Derived.WalkSpells
import Derived.WalkLawsBesides
import Derived.Deep.QuietTactic
import Derived.BigQuiet
import Derived.Lib.Hide
set_option linter.all false
namespace Go.Proofs.Ytodnfbfhdloogaa
namespace E

def fi2 : Fi := { nt := 1, prom := [], lives := [(0, [])] }
noncomputable def F2 : Fn := { fi := fi2, wins := [], body := Try.f2.body.getD .skip, res := Try.f2.results.toList, keep := false }
def fi3 : Fi := { nt := 148, prom := [5, 7, 11], lives := [(0, [0, 1]), (1, [0, 1, 15]), (2, [4]), (3, [1, 5]), (4, [1, 5, 6]), (5, [1, 5, 6, 22]), (6, [1, 5, 6]), (7, [1, 5, 6, 7, 8]), (8, [1, 5, 6, 7, 52]), (9, [4]), (10, [1, 5, 6, 7, 9]), (11, [1, 5, 6, 7, 9, 54]), (12, [1, 5, 6, 7, 9]), (13, [1, 5, 6, 7, 9, 70]), (14, [4]), (15, [1, 5, 6, 7, 9, 10]), (16, [1, 5, 6, 7, 9, 10, 75]), (17, [1, 5, 6, 7, 9, 10]), (18, [1, 5, 6, 7, 9, 10, 11]), (19, [1, 5, 6, 7, 9, 10, 11, 12]), (20, [1, 5, 6, 7, 9, 10, 119]), (21, [4]), (22, [1, 5, 6, 7, 13]), (23, [1, 5, 6, 7, 13, 124]), (24, [1, 5, 6, 7, 13]), (25, [1, 5, 6, 7, 13, 134]), (26, [4]), (27, [1, 5, 6, 7, 145]), (28, [4]), (29, [1, 5, 6]), (30, [4])] }
noncomputable def F3 : Fn := { fi := fi3, wins := [], body := Try.f3.body.getD .skip, res := Try.f3.results.toList, keep := false }
def fi4 : Fi := { nt := 38, prom := [], lives := [(0, [0]), (1, [0, 3]), (2, [0, 3, 4]), (3, [0, 3, 4, 12]), (4, [0, 3, 4]), (5, [0, 3, 4]), (6, [2])] }
noncomputable def F4 : Fn := { fi := fi4, wins := [], body := Try.f4.body.getD .skip, res := Try.f4.results.toList, keep := false }
def fi5 : Fi := { nt := 119, prom := [1, 5, 7], lives := [(0, []), (1, [1]), (2, [1, 2]), (3, [1, 2, 3]), (4, [1, 2, 3, 4]), (5, [1, 2, 3, 4, 6]), (6, [1, 2, 3, 4, 6, 7, 8]), (7, [0])] }
noncomputable def F5 : Fn := { fi := fi5, wins := [], body := Try.f5.body.getD .skip, res := Try.f5.results.toList, keep := false }
def fi6 : Fi := { nt := 10, prom := [2], lives := [(0, [0, 2]), (1, [2])] }
noncomputable def F6 : Fn := { fi := fi6, wins := [], body := Try.f6.body.getD .skip, res := Try.f6.results.toList, keep := true }
def fi7 : Fi := { nt := 113, prom := [2, 3, 4, 7, 8, 11], lives := [(0, [2, 3, 4]), (1, [2, 3, 4, 6]), (2, [2, 3, 4, 6]), (3, [2, 3, 4, 6, 7]), (4, [2, 3, 4, 6, 7, 21]), (5, [2, 3, 4, 6, 7, 21, 22]), (6, [3, 4, 6, 28]), (7, [4, 5]), (8, [4, 6]), (9, [4, 5]), (10, [2, 3, 4, 6, 7, 33]), (11, [4, 6]), (12, [4, 5]), (13, [2, 3, 4, 6, 7, 44]), (14, [4, 5]), (15, [2, 3, 4, 6, 7, 47]), (16, [4, 5]), (17, [2, 3, 4, 6, 7, 47, 49]), (18, [4, 6]), (19, [4, 5]), (20, [2, 3, 4, 6, 7, 47, 56]), (21, [2, 3, 4, 6, 7]), (22, [2, 3, 4, 6, 7, 47, 62]), (23, [2, 3, 4, 6, 7, 68]), (24, [4, 5]), (25, [2, 3, 4, 6, 7]), (26, [2, 3, 4, 6, 7, 74]), (27, [2, 3, 4, 6, 7]), (28, [2, 3, 4, 6, 7, 81]), (29, [4, 5]), (30, [3, 4, 6, 8, 9]), (31, [3, 4, 6, 9]), (32, [3, 4, 6, 100, 101, 102]), (33, [3, 4, 6, 100, 101, 102, 103]), (34, [3, 4, 6, 11, 100, 101, 102]), (35, [3, 4, 6, 100, 101, 102]), (36, [3, 4, 6, 100, 101, 102]), (37, [4, 5])] }
noncomputable def F7 : Fn := { fi := fi7, wins := [(21, [], [(1, 0, 1)]), (25, [], [(1, 0, 1)])], body := Try.f7.body.getD .skip, res := Try.f7.results.toList, keep := true }
def fi8 : Fi := { nt := 131, prom := [1, 3, 4, 6, 7, 12, 13, 14], lives := [(0, [1]), (1, [1, 3]), (2, [1, 3, 4]), (3, [1, 3, 4, 19, 20]), (4, [1, 3, 4, 19, 20, 21]), (5, [1, 3, 4, 5, 6, 19, 20]), (6, [1, 3, 4, 5, 6, 19, 20]), (7, [1, 3, 4, 5, 6, 19, 20, 31]), (8, [1, 3, 4, 6, 19, 20, 41]), (9, [1, 3, 4, 6, 19, 20]), (10, [1, 3, 4, 19, 20, 52]), (11, [1, 3, 4, 19, 20]), (12, [1, 3, 4, 19, 20]), (13, [1, 3, 4, 7]), (14, [1, 3, 4, 7, 9, 10]), (15, [1, 3, 4, 7, 9, 10, 62, 63, 64]), (16, [1, 3, 4, 7, 9, 10, 62, 63, 64, 65]), (17, [1, 3, 4, 7, 9, 10, 12, 62, 63, 64]), (18, [1, 3, 4, 7, 9, 10, 12, 62, 63, 64, 75]), (19, [1, 3, 4, 7, 9, 10, 12, 62, 63, 64]), (20, [1, 3, 4, 7, 9, 10, 12, 62, 63, 64]), (21, [1, 3, 4, 7, 9, 10, 62, 63, 64]), (22, [1, 3, 4, 7, 9, 10, 62, 63, 64]), (23, [1, 3, 4]), (24, [1, 3, 4, 13]), (25, [1, 3, 4, 13, 14]), (26, [3]), (27, [3, 15]), (28, [15, 119, 120]), (29, [15, 119, 120, 121]), (30, [15, 16, 17, 119, 120]), (31, [15, 16, 119, 120, 124]), (32, [15, 119, 120]), (33, [15, 119, 120]), (34, [2])] }
noncomputable def F8 : Fn := { fi := fi8, wins := [], body := Try.f8.body.getD .skip, res := Try.f8.results.toList, keep := true }
def fi9 : Fi := { nt := 86, prom := [1, 3, 6], lives := [(0, [1]), (1, [1, 36]), (2, [2]), (3, [1, 4]), (4, [1, 58]), (5, [2]), (6, [1, 60, 61, 62]), (7, [1, 60, 61, 62, 63]), (8, [1, 5, 6, 60, 61, 62]), (9, [1, 60, 61, 62, 84]), (10, [2]), (11, [1, 60, 61, 62]), (12, [2])] }
noncomputable def F9 : Fn := { fi := fi9, wins := [], body := Try.f9.body.getD .skip, res := Try.f9.results.toList, keep := false }
def fi10 : Fi := { nt := 95, prom := [2, 3], lives := [(0, [2, 3]), (1, [2, 3, 69]), (2, [4]), (3, [2, 3, 5]), (4, [2, 3, 5, 74]), (5, [2, 3, 5]), (6, [2, 3, 5, 94]), (7, [4]), (8, [4])] }
noncomputable def F10 : Fn := { fi := fi10, wins := [], body := Try.f10.body.getD .skip, res := Try.f10.results.toList, keep := false }
def fi11 : Fi := { nt := 18, prom := [2], lives := [(0, [1, 2]), (1, [2, 5]), (2, [2, 5, 6]), (3, [4]), (4, [2, 12]), (5, [4]), (6, [4])] }
noncomputable def F11 : Fn := { fi := fi11, wins := [], body := Try.f11.body.getD .skip, res := Try.f11.results.toList, keep := false }
def fi12 : Fi := { nt := 20, prom := [2, 3], lives := [(0, [2, 3]), (1, [2, 3, 5]), (2, [2, 3, 5, 10]), (3, [2, 3, 5]), (4, [2, 3, 5, 19]), (5, [4]), (6, [4])] }
noncomputable def F12 : Fn := { fi := fi12, wins := [], body := Try.f12.body.getD .skip, res := Try.f12.results.toList, keep := false }
def fi13 : Fi := { nt := 83, prom := [7, 8], lives := [(0, [2, 3]), (1, [2, 3, 18]), (2, [4]), (3, [2, 3, 22]), (4, [4]), (5, [2, 3, 5]), (6, [2, 3, 5, 25]), (7, [2, 3, 5, 25, 26]), (8, [2, 3, 5, 6]), (9, [2, 5, 6, 31]), (10, [2, 5, 6]), (11, [4]), (12, [2, 3, 25, 42]), (13, [4]), (14, [2, 3, 25, 49]), (15, [4]), (16, [2, 3, 54]), (17, [2, 3, 7]), (18, [2, 3, 7, 8]), (19, [2, 3, 7, 8]), (20, [4]), (21, [4])] }
noncomputable def F13 : Fn := { fi := fi13, wins := [], body := Try.f13.body.getD .skip, res := Try.f13.results.toList, keep := false }
def fi14 : Fi := { nt := 27, prom := [8], lives := [(0, [1, 2]), (1, [1, 2, 5]), (2, [1, 2, 5, 6]), (3, [5, 6, 12, 13, 14]), (4, [5, 6, 12, 13, 14, 15]), (5, [5, 6, 8, 12, 13, 14]), (6, [5, 6, 8, 12, 13, 14, 20]), (7, [5, 6, 8, 12, 13, 14]), (8, [5, 6, 12, 13, 14]), (9, [5, 6, 12, 13, 14]), (10, [4])] }
noncomputable def F14 : Fn := { fi := fi14, wins := [], body := Try.f14.body.getD .skip, res := Try.f14.results.toList, keep := true }
def fi15 : Fi := { nt := 72, prom := [2, 3, 7], lives := [(0, [2, 3]), (1, [2, 3, 50]), (2, [4]), (3, [2, 5]), (4, [5, 55, 56, 57]), (5, [5, 55, 56, 57, 58]), (6, [5, 7, 55, 56, 57]), (7, [5, 8, 55, 56, 57]), (8, [5, 8, 55, 56, 57, 65]), (9, [4]), (10, [5, 55, 56, 57]), (11, [5, 55, 56, 57]), (12, [4])] }
noncomputable def F15 : Fn := { fi := fi15, wins := [], body := Try.f15.body.getD .skip, res := Try.f15.results.toList, keep := false }
def fi16 : Fi := { nt := 5, prom := [2], lives := [(0, [0, 2]), (1, [2])] }
noncomputable def F16 : Fn := { fi := fi16, wins := [], body := Try.f16.body.getD .skip, res := Try.f16.results.toList, keep := false }
def fi17 : Fi := { nt := 5, prom := [2], lives := [(0, [0, 2]), (1, [2])] }
noncomputable def F17 : Fn := { fi := fi17, wins := [], body := Try.f17.body.getD .skip, res := Try.f17.results.toList, keep := false }
def fi18 : Fi := { nt := 8, prom := [], lives := [(0, [0]), (1, [0, 4]), (2, [2]), (3, [2])] }
noncomputable def F18 : Fn := { fi := fi18, wins := [], body := Try.f18.body.getD .skip, res := Try.f18.results.toList, keep := true }
def fi19 : Fi := { nt := 69, prom := [3, 4, 5, 6], lives := [(0, [0, 3]), (1, [0, 3, 4]), (2, [0, 3, 4, 5]), (3, [0, 3, 4, 5, 15]), (4, [0, 3, 5]), (5, [0, 3, 5, 28]), (6, [0, 3, 5, 44]), (7, [0, 3]), (8, [0, 3, 6, 7]), (9, [0, 3, 6, 58]), (10, [0, 3, 6]), (11, [])] }
noncomputable def F19 : Fn := { fi := fi19, wins := [(4, [], [(1, 0, 1)])], body := Try.f19.body.getD .skip, res := Try.f19.results.toList, keep := true }
def fi20 : Fi := { nt := 20, prom := [4, 5, 6], lives := [(0, [0, 4, 5, 6]), (1, [4, 5, 6, 9]), (2, [6, 7]), (3, [6, 7])] }
noncomputable def F20 : Fn := { fi := fi20, wins := [], body := Try.f20.body.getD .skip, res := Try.f20.results.toList, keep := true }
def fi21 : Fi := { nt := 37, prom := [4, 7], lives := [(0, [0, 2, 4]), (1, [0, 4, 8, 9, 10]), (2, [0, 4, 8, 9, 10, 11]), (3, [0, 4, 7, 8, 9, 10]), (4, [0, 4, 7, 8, 9, 10, 25]), (5, [0, 4, 8, 9, 10]), (6, [0, 4, 8, 9, 10])] }
noncomputable def F21 : Fn := { fi := fi21, wins := [], body := Try.f21.body.getD .skip, res := Try.f21.results.toList, keep := true }
def fi22 : Fi := { nt := 35, prom := [2, 7], lives := [(0, [1, 2]), (1, [1, 2, 5]), (2, [1, 5, 9, 10, 11]), (3, [1, 5, 9, 10, 11, 12]), (4, [1, 5, 7, 9, 10, 11]), (5, [1, 5, 7, 9, 10, 11, 28]), (6, [1, 5, 9, 10, 11]), (7, [1, 5, 9, 10, 11]), (8, [4])] }
noncomputable def F22 : Fn := { fi := fi22, wins := [], body := Try.f22.body.getD .skip, res := Try.f22.results.toList, keep := true }
def fi23 : Fi := { nt := 32, prom := [1, 2], lives := [(0, [1, 2]), (1, [1, 2, 4]), (2, [2, 3]), (3, [1, 2, 16]), (4, [2, 3]), (5, [2, 3])] }
noncomputable def F23 : Fn := { fi := fi23, wins := [], body := Try.f23.body.getD .skip, res := Try.f23.results.toList, keep := false }
def fi24 : Fi := { nt := 43, prom := [1], lives := [(0, [1]), (1, [1, 11]), (2, [2]), (3, [1, 13]), (4, [1, 13, 14]), (5, [1, 13, 16]), (6, [1, 13, 18]), (7, [1, 13, 18]), (8, [1, 13, 18]), (9, [1, 13, 18]), (10, [1, 18]), (11, [2]), (12, [1, 38]), (13, [2]), (14, [2]), (15, [2])] }
noncomputable def F24 : Fn := { fi := fi24, wins := [(11, [], [(1, 0, 1), (7, 1, 2)])], body := Try.f24.body.getD .skip, res := Try.f24.results.toList, keep := false }
def fi25 : Fi := { nt := 48, prom := [1], lives := [(0, [1]), (1, [1, 11]), (2, [2]), (3, [1, 13]), (4, [1, 13, 14]), (5, [2]), (6, [1, 13, 25]), (7, [1, 13, 25]), (8, [1, 13, 25]), (9, [1, 13, 25]), (10, [2]), (11, [1, 34]), (12, [2]), (13, [2])] }
noncomputable def F25 : Fn := { fi := fi25, wins := [(12, [], [(1, 0, 1), (7, 1, 2)])], body := Try.f25.body.getD .skip, res := Try.f25.results.toList, keep := false }
def fi26 : Fi := { nt := 53, prom := [1, 3], lives := [(0, [1]), (1, [1, 11]), (2, [2]), (3, [1, 3]), (4, [1, 3, 16]), (5, [1, 3, 16]), (6, [1, 3, 16]), (7, [1, 16]), (8, [2]), (9, [48]), (10, [2]), (11, [2])] }
noncomputable def F26 : Fn := { fi := fi26, wins := [(3, [], [(2, 0, 1)])], body := Try.f26.body.getD .skip, res := Try.f26.results.toList, keep := false }
def fi27 : Fi := { nt := 9, prom := [3], lives := [(0, [0, 3]), (1, [4])] }
noncomputable def F27 : Fn := { fi := fi27, wins := [], body := Try.f27.body.getD .skip, res := Try.f27.results.toList, keep := false }
def fi28 : Fi := { nt := 15, prom := [1], lives := [(0, [1]), (1, [2])] }
noncomputable def F28 : Fn := { fi := fi28, wins := [], body := Try.f28.body.getD .skip, res := Try.f28.results.toList, keep := false }
def fi29 : Fi := { nt := 15, prom := [1], lives := [(0, [1]), (1, [2])] }
noncomputable def F29 : Fn := { fi := fi29, wins := [], body := Try.f29.body.getD .skip, res := Try.f29.results.toList, keep := false }
def fi30 : Fi := { nt := 7, prom := [], lives := [(0, [0, 1]), (1, [2])] }
noncomputable def F30 : Fn := { fi := fi30, wins := [], body := Try.f30.body.getD .skip, res := Try.f30.results.toList, keep := true }
def fi31 : Fi := { nt := 9, prom := [], lives := [(0, [0, 1]), (1, [4])] }
noncomputable def F31 : Fn := { fi := fi31, wins := [], body := Try.f31.body.getD .skip, res := Try.f31.results.toList, keep := true }
def fi32 : Fi := { nt := 21, prom := [2], lives := [(0, [1, 2]), (1, [3])] }
noncomputable def F32 : Fn := { fi := fi32, wins := [], body := Try.f32.body.getD .skip, res := Try.f32.results.toList, keep := true }
def fi33 : Fi := { nt := 40, prom := [3, 5], lives := [(0, [1, 2, 3]), (1, [1, 2, 3, 5, 6]), (2, [1, 2, 3, 5, 6, 25]), (3, [1, 5, 6]), (4, [4])] }
noncomputable def F33 : Fn := { fi := fi33, wins := [], body := Try.f33.body.getD .skip, res := Try.f33.results.toList, keep := true }
def fi34 : Fi := { nt := 9, prom := [3], lives := [(0, [0, 3]), (1, [4])] }
noncomputable def F34 : Fn := { fi := fi34, wins := [], body := Try.f34.body.getD .skip, res := Try.f34.results.toList, keep := false }
def fi35 : Fi := { nt := 87, prom := [2, 10], lives := [(0, [1, 2]), (1, [1, 2, 5]), (2, [1, 2, 5, 14]), (3, [1, 2, 5, 14, 15]), (4, [1, 2, 5, 6, 14]), (5, [1, 2, 5, 6, 14, 20]), (6, [1, 2, 5, 6, 14, 21, 22, 23]), (7, [1, 2, 5, 6, 14, 21, 22, 23, 24]), (8, [1, 2, 5, 6, 8, 14, 21, 22, 23]), (9, [1, 2, 5, 6, 14, 21, 22, 23]), (10, [1, 2, 5, 6, 14, 21, 22, 23]), (11, [1, 2, 5, 6, 14, 36, 37, 38]), (12, [1, 2, 5, 6, 14, 36, 37, 38, 39]), (13, [1, 2, 5, 6, 10, 14, 36, 37, 38]), (14, [1, 2, 5, 6, 14, 36, 37, 38]), (15, [1, 2, 5, 6, 14, 36, 37, 38]), (16, [1, 2, 5, 14]), (17, [1, 2, 5, 14]), (18, [1, 2, 5]), (19, [1, 2, 5, 62]), (20, [1, 2, 5, 62, 63]), (21, [1, 2, 5, 11, 62]), (22, [1, 2, 5, 11, 62, 65, 66, 67]), (23, [1, 2, 5, 11, 62, 65, 66, 67, 68]), (24, [1, 2, 5, 11, 13, 62, 65, 66, 67]), (25, [1, 2, 5, 11, 62, 65, 66, 67]), (26, [1, 2, 5, 11, 62, 65, 66, 67]), (27, [1, 2, 5, 62]), (28, [4])] }
noncomputable def F35 : Fn := { fi := fi35, wins := [], body := Try.f35.body.getD .skip, res := Try.f35.results.toList, keep := true }
def fi36 : Fi := { nt := 19, prom := [3], lives := [(0, [0, 3]), (1, [0, 3, 7, 8]), (2, [0, 3, 7, 8, 9]), (3, [0, 3, 5, 7, 8]), (4, [0, 3, 5, 7, 8, 16]), (5, [4]), (6, [0, 3, 7, 8]), (7, [4])] }
noncomputable def F36 : Fn := { fi := fi36, wins := [], body := Try.f36.body.getD .skip, res := Try.f36.results.toList, keep := false }
def fi37 : Fi := { nt := 33, prom := [], lives := [(0, [0, 1, 2]), (1, [0, 1, 2]), (2, [0, 1, 2, 16]), (3, [6]), (4, [0, 1, 2, 7]), (5, [0, 7]), (6, [0]), (7, [6])] }
noncomputable def F37 : Fn := { fi := fi37, wins := [], body := Try.f37.body.getD .skip, res := Try.f37.results.toList, keep := true }
def fi38 : Fi := { nt := 59, prom := [2, 3, 4, 7], lives := [(0, [2, 3, 4]), (1, [2, 3, 4, 10]), (2, [4, 5]), (3, [2, 3, 4, 14]), (4, [2, 3, 4, 30]), (5, [4, 5]), (6, [2, 4]), (7, [4, 5]), (8, [2, 3, 4, 41, 42, 43]), (9, [2, 3, 4, 41, 42, 43, 44]), (10, [2, 3, 4, 7, 41, 42, 43]), (11, [2, 3, 4, 7, 41, 42, 43, 50]), (12, [4, 5]), (13, [2, 3, 4, 41, 42, 43]), (14, [4, 5])] }
noncomputable def F38 : Fn := { fi := fi38, wins := [(6, [], [(1, 0, 1)]), (7, [], [(0, 0, 2)]), (12, [], [(4, 0, 1)])], body := Try.f38.body.getD .skip, res := Try.f38.results.toList, keep := true }
def fi39 : Fi := { nt := 54, prom := [2, 3, 4], lives := [(0, [2, 3, 4]), (1, [2, 3, 4, 6]), (2, [2, 3, 4, 10]), (3, [4, 5]), (4, [2, 3, 4, 20]), (5, [2, 3, 4, 26]), (6, [4, 5]), (7, [2, 3, 4, 34]), (8, [2, 4]), (9, [4, 5])] }
noncomputable def F39 : Fn := { fi := fi39, wins := [], body := Try.f39.body.getD .skip, res := Try.f39.results.toList, keep := true }
def fi40 : Fi := { nt := 11, prom := [2, 4], lives := [(0, [1, 2, 4]), (1, [4])] }
noncomputable def F40 : Fn := { fi := fi40, wins := [], body := Try.f40.body.getD .skip, res := Try.f40.results.toList, keep := false }
def fi41 : Fi := { nt := 8, prom := [1, 2], lives := [(0, [1, 2]), (1, [2])] }
noncomputable def F41 : Fn := { fi := fi41, wins := [], body := Try.f41.body.getD .skip, res := Try.f41.results.toList, keep := false }
def fi42 : Fi := { nt := 11, prom := [2, 4], lives := [(0, [1, 2, 4]), (1, [4])] }
noncomputable def F42 : Fn := { fi := fi42, wins := [], body := Try.f42.body.getD .skip, res := Try.f42.results.toList, keep := false }
def fi43 : Fi := { nt := 8, prom := [1, 2], lives := [(0, [1, 2]), (1, [2])] }
noncomputable def F43 : Fn := { fi := fi43, wins := [], body := Try.f43.body.getD .skip, res := Try.f43.results.toList, keep := false }
def fi44 : Fi := { nt := 9, prom := [0], lives := [(0, [0]), (1, [0])] }
noncomputable def F44 : Fn := { fi := fi44, wins := [], body := Try.f44.body.getD .skip, res := Try.f44.results.toList, keep := false }
def fi45 : Fi := { nt := 19, prom := [], lives := [(0, [0, 1]), (1, [0, 1, 7, 8]), (2, [0, 1, 7, 8, 9]), (3, [0, 1, 5, 7, 8]), (4, [0, 1, 5, 7, 8, 16]), (5, [4]), (6, [0, 1, 7, 8]), (7, [4])] }
noncomputable def F45 : Fn := { fi := fi45, wins := [], body := Try.f45.body.getD .skip, res := Try.f45.results.toList, keep := true }
def fi46 : Fi := { nt := 19, prom := [3], lives := [(0, [0, 3]), (1, [0, 3, 7, 8]), (2, [0, 3, 7, 8, 9]), (3, [0, 3, 5, 7, 8]), (4, [0, 3, 5, 7, 8, 16]), (5, [4]), (6, [0, 3, 7, 8]), (7, [4])] }
noncomputable def F46 : Fn := { fi := fi46, wins := [], body := Try.f46.body.getD .skip, res := Try.f46.results.toList, keep := false }
def fi47 : Fi := { nt := 56, prom := [2, 6, 8, 11], lives := [(0, [1, 2]), (1, [1, 2, 5]), (2, [1, 5, 6]), (3, [5, 6, 17]), (4, [5, 19, 20, 21]), (5, [5, 19, 20, 21, 22]), (6, [5, 8, 19, 20, 21]), (7, [5, 8, 19, 20, 21, 27]), (8, [5, 19, 20, 21]), (9, [5, 19, 20, 21]), (10, [4]), (11, [5, 6, 35, 36, 37]), (12, [5, 6, 35, 36, 37, 38]), (13, [5, 6, 10, 35, 36, 37]), (14, [5, 6, 10, 11, 35, 36, 37]), (15, [5, 6, 11, 35, 36, 37, 48]), (16, [5, 6, 11, 35, 36, 37]), (17, [5, 6, 35, 36, 37]), (18, [5, 6, 35, 36, 37]), (19, [4])] }
noncomputable def F47 : Fn := { fi := fi47, wins := [], body := Try.f47.body.getD .skip, res := Try.f47.results.toList, keep := true }
def fi48 : Fi := { nt := 16, prom := [1], lives := [(0, [1]), (1, [1, 4]), (2, [1, 4, 5]), (3, [2]), (4, [1, 4, 7]), (5, [1, 7]), (6, [2]), (7, [2])] }
noncomputable def F48 : Fn := { fi := fi48, wins := [], body := Try.f48.body.getD .skip, res := Try.f48.results.toList, keep := true }
def fi49 : Fi := { nt := 11, prom := [2, 4], lives := [(0, [1, 2, 4]), (1, [4])] }
noncomputable def F49 : Fn := { fi := fi49, wins := [], body := Try.f49.body.getD .skip, res := Try.f49.results.toList, keep := false }
def fi50 : Fi := { nt := 67, prom := [1, 3, 4], lives := [(0, [1]), (1, [1, 3]), (2, [1, 3, 4]), (3, [1, 3, 4, 5]), (4, [1, 3, 4, 5, 15]), (5, [1, 3, 4, 5, 15, 16]), (6, [2]), (7, [1, 3, 4, 5, 15, 26]), (8, [2]), (9, [1, 3, 4, 5, 15, 39]), (10, [2]), (11, [1, 4, 5, 50]), (12, [1, 5]), (13, [5]), (14, [2])] }
noncomputable def F50 : Fn := { fi := fi50, wins := [(6, [], [(2, 0, 1), (5, 0, 2)]), (8, [], [(2, 0, 1), (5, 0, 2), (8, 0, 3)]), (10, [], [(0, 0, 2), (5, 0, 1)]), (13, [], [(4, 0, 1)])], body := Try.f50.body.getD .skip, res := Try.f50.results.toList, keep := true }
def fi51 : Fi := { nt := 29, prom := [3, 4, 5], lives := [(0, [3, 4, 5]), (1, [3, 4, 5, 8]), (2, [6]), (3, [6])] }
noncomputable def F51 : Fn := { fi := fi51, wins := [], body := Try.f51.body.getD .skip, res := Try.f51.results.toList, keep := false }
def fi52 : Fi := { nt := 15, prom := [2, 3, 4], lives := [(0, [2, 3, 4]), (1, [2, 3, 4]), (2, [2, 3, 4, 10]), (3, [3, 4]), (4, [4])] }
noncomputable def F52 : Fn := { fi := fi52, wins := [], body := Try.f52.body.getD .skip, res := Try.f52.results.toList, keep := false }
def fi53 : Fi := { nt := 65, prom := [2, 3, 4], lives := [(0, [2, 3, 4]), (1, [2, 3, 4, 6]), (2, [2, 3, 4, 6, 11]), (3, [2, 3, 4, 6, 11, 12]), (4, [2, 3, 4, 6, 11, 14]), (5, [2, 3, 4, 6, 11, 16]), (6, [2, 4, 6, 18]), (7, [2, 4, 21]), (8, [4, 5]), (9, [2, 3, 4, 6, 27]), (10, [2, 3, 4, 6, 27, 28]), (11, [4, 5]), (12, [2, 3, 4, 6, 33]), (13, [4, 5]), (14, [2, 3, 4, 6, 37]), (15, [4, 5]), (16, [2, 4, 46]), (17, [4, 5]), (18, [2, 4, 59]), (19, [4, 5]), (20, [4, 5])] }
noncomputable def F53 : Fn := { fi := fi53, wins := [(8, [], [(2, 0, 1)]), (15, [], [(3, 0, 1)]), (17, [], [(0, 0, 2)]), (19, [], [(0, 0, 2)])], body := Try.f53.body.getD .skip, res := Try.f53.results.toList, keep := true }
def fi54 : Fi := { nt := 22, prom := [1, 2], lives := [(0, [1, 2]), (1, [1, 2, 5]), (2, [1, 2, 5, 6]), (3, [2, 3]), (4, [1, 2, 5, 10]), (5, [1, 2, 10]), (6, [2, 3]), (7, [2, 3])] }
noncomputable def F54 : Fn := { fi := fi54, wins := [(6, [], [(3, 0, 1), (5, 0, 1)])], body := Try.f54.body.getD .skip, res := Try.f54.results.toList, keep := true }
def fi55 : Fi := { nt := 32, prom := [1, 5], lives := [(0, [1]), (1, [1, 8]), (2, [2]), (3, [1, 3]), (4, [1, 3, 10, 11, 12]), (5, [1, 3, 10, 11, 12, 13]), (6, [1, 3, 5, 10, 11, 12]), (7, [1, 3, 5, 10, 11, 12, 17]), (8, [1, 3, 10, 11, 12]), (9, [1, 3, 10, 11, 12]), (10, [1, 3, 10, 11, 12]), (11, [2])] }
noncomputable def F55 : Fn := { fi := fi55, wins := [], body := Try.f55.body.getD .skip, res := Try.f55.results.toList, keep := true }
def fi56 : Fi := { nt := 6, prom := [1, 2], lives := [(0, [1, 2]), (1, [2])] }
noncomputable def F56 : Fn := { fi := fi56, wins := [], body := Try.f56.body.getD .skip, res := Try.f56.results.toList, keep := false }
def fi57 : Fi := { nt := 36, prom := [2, 3], lives := [(0, [2, 3]), (1, [2, 3, 18]), (2, [4]), (3, [2, 3, 19]), (4, [2, 3, 19, 20]), (5, [2, 3, 19, 20]), (6, [2, 3, 19, 20]), (7, [3, 20]), (8, [4]), (9, [4])] }
noncomputable def F57 : Fn := { fi := fi57, wins := [], body := Try.f57.body.getD .skip, res := Try.f57.results.toList, keep := false }
def fi58 : Fi := { nt := 8, prom := [2, 4], lives := [(0, [1, 2, 4]), (1, [2, 4]), (2, [4])] }
noncomputable def F58 : Fn := { fi := fi58, wins := [], body := Try.f58.body.getD .skip, res := Try.f58.results.toList, keep := false }
def fi59 : Fi := { nt := 9, prom := [3], lives := [(0, [0, 3]), (1, [4])] }
noncomputable def F59 : Fn := { fi := fi59, wins := [], body := Try.f59.body.getD .skip, res := Try.f59.results.toList, keep := true }
def fi60 : Fi := { nt := 11, prom := [2, 4], lives := [(0, [1, 2, 4]), (1, [4])] }
noncomputable def F60 : Fn := { fi := fi60, wins := [], body := Try.f60.body.getD .skip, res := Try.f60.results.toList, keep := false }
def fi61 : Fi := { nt := 9, prom := [2, 3, 4], lives := [(0, [2, 3, 4]), (1, [2, 4]), (2, [4])] }
noncomputable def F61 : Fn := { fi := fi61, wins := [(1, [], [(0, 0, 1)])], body := Try.f61.body.getD .skip, res := Try.f61.results.toList, keep := false }
def fi62 : Fi := { nt := 15, prom := [1], lives := [(0, [1]), (1, [2])] }
noncomputable def F62 : Fn := { fi := fi62, wins := [], body := Try.f62.body.getD .skip, res := Try.f62.results.toList, keep := false }
noncomputable def FT (n : Nat) : Option Fn := (cond (Nat.blt n 32) (cond (Nat.blt n 17) (cond (Nat.blt n 9) (cond (Nat.blt n 5) (cond (Nat.blt n 3) (cond (Nat.beq n 2) (some F2) none) (cond (Nat.blt n 4) (cond (Nat.beq n 3) (some F3) none) (cond (Nat.beq n 4) (some F4) none))) (cond (Nat.blt n 7) (cond (Nat.blt n 6) (cond (Nat.beq n 5) (some F5) none) (cond (Nat.beq n 6) (some F6) none)) (cond (Nat.blt n 8) (cond (Nat.beq n 7) (some F7) none) (cond (Nat.beq n 8) (some F8) none)))) (cond (Nat.blt n 13) (cond (Nat.blt n 11) (cond (Nat.blt n 10) (cond (Nat.beq n 9) (some F9) none) (cond (Nat.beq n 10) (some F10) none)) (cond (Nat.blt n 12) (cond (Nat.beq n 11) (some F11) none) (cond (Nat.beq n 12) (some F12) none))) (cond (Nat.blt n 15) (cond (Nat.blt n 14) (cond (Nat.beq n 13) (some F13) none) (cond (Nat.beq n 14) (some F14) none)) (cond (Nat.blt n 16) (cond (Nat.beq n 15) (some F15) none) (cond (Nat.beq n 16) (some F16) none))))) (cond (Nat.blt n 24) (cond (Nat.blt n 20) (cond (Nat.blt n 18) (cond (Nat.beq n 17) (some F17) none) (cond (Nat.blt n 19) (cond (Nat.beq n 18) (some F18) none) (cond (Nat.beq n 19) (some F19) none))) (cond (Nat.blt n 22) (cond (Nat.blt n 21) (cond (Nat.beq n 20) (some F20) none) (cond (Nat.beq n 21) (some F21) none)) (cond (Nat.blt n 23) (cond (Nat.beq n 22) (some F22) none) (cond (Nat.beq n 23) (some F23) none)))) (cond (Nat.blt n 28) (cond (Nat.blt n 26) (cond (Nat.blt n 25) (cond (Nat.beq n 24) (some F24) none) (cond (Nat.beq n 25) (some F25) none)) (cond (Nat.blt n 27) (cond (Nat.beq n 26) (some F26) none) (cond (Nat.beq n 27) (some F27) none))) (cond (Nat.blt n 30) (cond (Nat.blt n 29) (cond (Nat.beq n 28) (some F28) none) (cond (Nat.beq n 29) (some F29) none)) (cond (Nat.blt n 31) (cond (Nat.beq n 30) (some F30) none) (cond (Nat.beq n 31) (some F31) none)))))) (cond (Nat.blt n 47) (cond (Nat.blt n 39) (cond (Nat.blt n 35) (cond (Nat.blt n 33) (cond (Nat.beq n 32) (some F32) none) (cond (Nat.blt n 34) (cond (Nat.beq n 33) (some F33) none) (cond (Nat.beq n 34) (some F34) none))) (cond (Nat.blt n 37) (cond (Nat.blt n 36) (cond (Nat.beq n 35) (some F35) none) (cond (Nat.beq n 36) (some F36) none)) (cond (Nat.blt n 38) (cond (Nat.beq n 37) (some F37) none) (cond (Nat.beq n 38) (some F38) none)))) (cond (Nat.blt n 43) (cond (Nat.blt n 41) (cond (Nat.blt n 40) (cond (Nat.beq n 39) (some F39) none) (cond (Nat.beq n 40) (some F40) none)) (cond (Nat.blt n 42) (cond (Nat.beq n 41) (some F41) none) (cond (Nat.beq n 42) (some F42) none))) (cond (Nat.blt n 45) (cond (Nat.blt n 44) (cond (Nat.beq n 43) (some F43) none) (cond (Nat.beq n 44) (some F44) none)) (cond (Nat.blt n 46) (cond (Nat.beq n 45) (some F45) none) (cond (Nat.beq n 46) (some F46) none))))) (cond (Nat.blt n 55) (cond (Nat.blt n 51) (cond (Nat.blt n 49) (cond (Nat.blt n 48) (cond (Nat.beq n 47) (some F47) none) (cond (Nat.beq n 48) (some F48) none)) (cond (Nat.blt n 50) (cond (Nat.beq n 49) (some F49) none) (cond (Nat.beq n 50) (some F50) none))) (cond (Nat.blt n 53) (cond (Nat.blt n 52) (cond (Nat.beq n 51) (some F51) none) (cond (Nat.beq n 52) (some F52) none)) (cond (Nat.blt n 54) (cond (Nat.beq n 53) (some F53) none) (cond (Nat.beq n 54) (some F54) none)))) (cond (Nat.blt n 59) (cond (Nat.blt n 57) (cond (Nat.blt n 56) (cond (Nat.beq n 55) (some F55) none) (cond (Nat.beq n 56) (some F56) none)) (cond (Nat.blt n 58) (cond (Nat.beq n 57) (some F57) none) (cond (Nat.beq n 58) (some F58) none))) (cond (Nat.blt n 61) (cond (Nat.blt n 60) (cond (Nat.beq n 59) (some F59) none) (cond (Nat.beq n 60) (some F60) none)) (cond (Nat.blt n 62) (cond (Nat.beq n 61) (some F61) none) (cond (Nat.beq n 62) (some F62) none)))))))
set_option maxRecDepth 100000
theorem ok2 : FnOk Try.prog 2 F2 := ⟨⟨Try.f2, by kernel_rfl, by kernel_rfl, by decide, by kernel_rfl, by kernel_rfl⟩, by kernel_rfl⟩
theorem ok3 : FnOk Try.prog 3 F3 := ⟨⟨Try.f3, by kernel_rfl, by kernel_rfl, by decide, by kernel_rfl, by kernel_rfl⟩, by kernel_rfl⟩
theorem ok4 : FnOk Try.prog 4 F4 := ⟨⟨Try.f4, by kernel_rfl, by kernel_rfl, by decide, by kernel_rfl, by kernel_rfl⟩, by kernel_rfl⟩
theorem ok5 : FnOk Try.prog 5 F5 := ⟨⟨Try.f5, by kernel_rfl, by kernel_rfl, by decide, by kernel_rfl, by kernel_rfl⟩, by kernel_rfl⟩
theorem ok6 : FnOk Try.prog 6 F6 := ⟨⟨Try.f6, by kernel_rfl, by kernel_rfl, by decide, by kernel_rfl, by kernel_rfl⟩, by kernel_rfl⟩
theorem ok7 : FnOk Try.prog 7 F7 := ⟨⟨Try.f7, by kernel_rfl, by kernel_rfl, by decide, by kernel_rfl, by kernel_rfl⟩, by kernel_rfl⟩
theorem ok8 : FnOk Try.prog 8 F8 := ⟨⟨Try.f8, by kernel_rfl, by kernel_rfl, by decide, by kernel_rfl, by kernel_rfl⟩, by kernel_rfl⟩
theorem ok9 : FnOk Try.prog 9 F9 := ⟨⟨Try.f9, by kernel_rfl, by kernel_rfl, by decide, by kernel_rfl, by kernel_rfl⟩, by kernel_rfl⟩
theorem ok10 : FnOk Try.prog 10 F10 := ⟨⟨Try.f10, by kernel_rfl, by kernel_rfl, by decide, by kernel_rfl, by kernel_rfl⟩, by kernel_rfl⟩
theorem ok11 : FnOk Try.prog 11 F11 := ⟨⟨Try.f11, by kernel_rfl, by kernel_rfl, by decide, by kernel_rfl, by kernel_rfl⟩, by kernel_rfl⟩
theorem ok12 : FnOk Try.prog 12 F12 := ⟨⟨Try.f12, by kernel_rfl, by kernel_rfl, by decide, by kernel_rfl, by kernel_rfl⟩, by kernel_rfl⟩
theorem ok13 : FnOk Try.prog 13 F13 := ⟨⟨Try.f13, by kernel_rfl, by kernel_rfl, by decide, by kernel_rfl, by kernel_rfl⟩, by kernel_rfl⟩
theorem ok14 : FnOk Try.prog 14 F14 := ⟨⟨Try.f14, by kernel_rfl, by kernel_rfl, by decide, by kernel_rfl, by kernel_rfl⟩, by kernel_rfl⟩
theorem ok15 : FnOk Try.prog 15 F15 := ⟨⟨Try.f15, by kernel_rfl, by kernel_rfl, by decide, by kernel_rfl, by kernel_rfl⟩, by kernel_rfl⟩
theorem ok16 : FnOk Try.prog 16 F16 := ⟨⟨Try.f16, by kernel_rfl, by kernel_rfl, by decide, by kernel_rfl, by kernel_rfl⟩, by kernel_rfl⟩
theorem ok17 : FnOk Try.prog 17 F17 := ⟨⟨Try.f17, by kernel_rfl, by kernel_rfl, by decide, by kernel_rfl, by kernel_rfl⟩, by kernel_rfl⟩
theorem ok18 : FnOk Try.prog 18 F18 := ⟨⟨Try.f18, by kernel_rfl, by kernel_rfl, by decide, by kernel_rfl, by kernel_rfl⟩, by kernel_rfl⟩
theorem ok19 : FnOk Try.prog 19 F19 := ⟨⟨Try.f19, by kernel_rfl, by kernel_rfl, by decide, by kernel_rfl, by kernel_rfl⟩, by kernel_rfl⟩
theorem ok20 : FnOk Try.prog 20 F20 := ⟨⟨Try.f20, by kernel_rfl, by kernel_rfl, by decide, by kernel_rfl, by kernel_rfl⟩, by kernel_rfl⟩
theorem ok21 : FnOk Try.prog 21 F21 := ⟨⟨Try.f21, by kernel_rfl, by kernel_rfl, by decide, by kernel_rfl, by kernel_rfl⟩, by kernel_rfl⟩
theorem ok22 : FnOk Try.prog 22 F22 := ⟨⟨Try.f22, by kernel_rfl, by kernel_rfl, by decide, by kernel_rfl, by kernel_rfl⟩, by kernel_rfl⟩
theorem ok23 : FnOk Try.prog 23 F23 := ⟨⟨Try.f23, by kernel_rfl, by kernel_rfl, by decide, by kernel_rfl, by kernel_rfl⟩, by kernel_rfl⟩
theorem ok24 : FnOk Try.prog 24 F24 := ⟨⟨Try.f24, by kernel_rfl, by kernel_rfl, by decide, by kernel_rfl, by kernel_rfl⟩, by kernel_rfl⟩
theorem ok25 : FnOk Try.prog 25 F25 := ⟨⟨Try.f25, by kernel_rfl, by kernel_rfl, by decide, by kernel_rfl, by kernel_rfl⟩, by kernel_rfl⟩
theorem ok26 : FnOk Try.prog 26 F26 := ⟨⟨Try.f26, by kernel_rfl, by kernel_rfl, by decide, by kernel_rfl, by kernel_rfl⟩, by kernel_rfl⟩
theorem ok27 : FnOk Try.prog 27 F27 := ⟨⟨Try.f27, by kernel_rfl, by kernel_rfl, by decide, by kernel_rfl, by kernel_rfl⟩, by kernel_rfl⟩
theorem ok28 : FnOk Try.prog 28 F28 := ⟨⟨Try.f28, by kernel_rfl, by kernel_rfl, by decide, by kernel_rfl, by kernel_rfl⟩, by kernel_rfl⟩
theorem ok29 : FnOk Try.prog 29 F29 := ⟨⟨Try.f29, by kernel_rfl, by kernel_rfl, by decide, by kernel_rfl, by kernel_rfl⟩, by kernel_rfl⟩
theorem ok30 : FnOk Try.prog 30 F30 := ⟨⟨Try.f30, by kernel_rfl, by kernel_rfl, by decide, by kernel_rfl, by kernel_rfl⟩, by kernel_rfl⟩
theorem ok31 : FnOk Try.prog 31 F31 := ⟨⟨Try.f31, by kernel_rfl, by kernel_rfl, by decide, by kernel_rfl, by kernel_rfl⟩, by kernel_rfl⟩
theorem ok32 : FnOk Try.prog 32 F32 := ⟨⟨Try.f32, by kernel_rfl, by kernel_rfl, by decide, by kernel_rfl, by kernel_rfl⟩, by kernel_rfl⟩
theorem ok33 : FnOk Try.prog 33 F33 := ⟨⟨Try.f33, by kernel_rfl, by kernel_rfl, by decide, by kernel_rfl, by kernel_rfl⟩, by kernel_rfl⟩
theorem ok34 : FnOk Try.prog 34 F34 := ⟨⟨Try.f34, by kernel_rfl, by kernel_rfl, by decide, by kernel_rfl, by kernel_rfl⟩, by kernel_rfl⟩
theorem ok35 : FnOk Try.prog 35 F35 := ⟨⟨Try.f35, by kernel_rfl, by kernel_rfl, by decide, by kernel_rfl, by kernel_rfl⟩, by kernel_rfl⟩
theorem ok36 : FnOk Try.prog 36 F36 := ⟨⟨Try.f36, by kernel_rfl, by kernel_rfl, by decide, by kernel_rfl, by kernel_rfl⟩, by kernel_rfl⟩
theorem ok37 : FnOk Try.prog 37 F37 := ⟨⟨Try.f37, by kernel_rfl, by kernel_rfl, by decide, by kernel_rfl, by kernel_rfl⟩, by kernel_rfl⟩
theorem ok38 : FnOk Try.prog 38 F38 := ⟨⟨Try.f38, by kernel_rfl, by kernel_rfl, by decide, by kernel_rfl, by kernel_rfl⟩, by kernel_rfl⟩
theorem ok39 : FnOk Try.prog 39 F39 := ⟨⟨Try.f39, by kernel_rfl, by kernel_rfl, by decide, by kernel_rfl, by kernel_rfl⟩, by kernel_rfl⟩
theorem ok40 : FnOk Try.prog 40 F40 := ⟨⟨Try.f40, by kernel_rfl, by kernel_rfl, by decide, by kernel_rfl, by kernel_rfl⟩, by kernel_rfl⟩
theorem ok41 : FnOk Try.prog 41 F41 := ⟨⟨Try.f41, by kernel_rfl, by kernel_rfl, by decide, by kernel_rfl, by kernel_rfl⟩, by kernel_rfl⟩
theorem ok42 : FnOk Try.prog 42 F42 := ⟨⟨Try.f42, by kernel_rfl, by kernel_rfl, by decide, by kernel_rfl, by kernel_rfl⟩, by kernel_rfl⟩
theorem ok43 : FnOk Try.prog 43 F43 := ⟨⟨Try.f43, by kernel_rfl, by kernel_rfl, by decide, by kernel_rfl, by kernel_rfl⟩, by kernel_rfl⟩
theorem ok44 : FnOk Try.prog 44 F44 := ⟨⟨Try.f44, by kernel_rfl, by kernel_rfl, by decide, by kernel_rfl, by kernel_rfl⟩, by kernel_rfl⟩
theorem ok45 : FnOk Try.prog 45 F45 := ⟨⟨Try.f45, by kernel_rfl, by kernel_rfl, by decide, by kernel_rfl, by kernel_rfl⟩, by kernel_rfl⟩
theorem ok46 : FnOk Try.prog 46 F46 := ⟨⟨Try.f46, by kernel_rfl, by kernel_rfl, by decide, by kernel_rfl, by kernel_rfl⟩, by kernel_rfl⟩
theorem ok47 : FnOk Try.prog 47 F47 := ⟨⟨Try.f47, by kernel_rfl, by kernel_rfl, by decide, by kernel_rfl, by kernel_rfl⟩, by kernel_rfl⟩
theorem ok48 : FnOk Try.prog 48 F48 := ⟨⟨Try.f48, by kernel_rfl, by kernel_rfl, by decide, by kernel_rfl, by kernel_rfl⟩, by kernel_rfl⟩
theorem ok49 : FnOk Try.prog 49 F49 := ⟨⟨Try.f49, by kernel_rfl, by kernel_rfl, by decide, by kernel_rfl, by kernel_rfl⟩, by kernel_rfl⟩
theorem ok50 : FnOk Try.prog 50 F50 := ⟨⟨Try.f50, by kernel_rfl, by kernel_rfl, by decide, by kernel_rfl, by kernel_rfl⟩, by kernel_rfl⟩
theorem ok51 : FnOk Try.prog 51 F51 := ⟨⟨Try.f51, by kernel_rfl, by kernel_rfl, by decide, by kernel_rfl, by kernel_rfl⟩, by kernel_rfl⟩
theorem ok52 : FnOk Try.prog 52 F52 := ⟨⟨Try.f52, by kernel_rfl, by kernel_rfl, by decide, by kernel_rfl, by kernel_rfl⟩, by kernel_rfl⟩
theorem ok53 : FnOk Try.prog 53 F53 := ⟨⟨Try.f53, by kernel_rfl, by kernel_rfl, by decide, by kernel_rfl, by kernel_rfl⟩, by kernel_rfl⟩
theorem ok54 : FnOk Try.prog 54 F54 := ⟨⟨Try.f54, by kernel_rfl, by kernel_rfl, by decide, by kernel_rfl, by kernel_rfl⟩, by kernel_rfl⟩
theorem ok55 : FnOk Try.prog 55 F55 := ⟨⟨Try.f55, by kernel_rfl, by kernel_rfl, by decide, by kernel_rfl, by kernel_rfl⟩, by kernel_rfl⟩
theorem ok56 : FnOk Try.prog 56 F56 := ⟨⟨Try.f56, by kernel_rfl, by kernel_rfl, by decide, by kernel_rfl, by kernel_rfl⟩, by kernel_rfl⟩
theorem ok57 : FnOk Try.prog 57 F57 := ⟨⟨Try.f57, by kernel_rfl, by kernel_rfl, by decide, by kernel_rfl, by kernel_rfl⟩, by kernel_rfl⟩
theorem ok58 : FnOk Try.prog 58 F58 := ⟨⟨Try.f58, by kernel_rfl, by kernel_rfl, by decide, by kernel_rfl, by kernel_rfl⟩, by kernel_rfl⟩
theorem ok59 : FnOk Try.prog 59 F59 := ⟨⟨Try.f59, by kernel_rfl, by kernel_rfl, by decide, by kernel_rfl, by kernel_rfl⟩, by kernel_rfl⟩
theorem ok60 : FnOk Try.prog 60 F60 := ⟨⟨Try.f60, by kernel_rfl, by kernel_rfl, by decide, by kernel_rfl, by kernel_rfl⟩, by kernel_rfl⟩
theorem ok61 : FnOk Try.prog 61 F61 := ⟨⟨Try.f61, by kernel_rfl, by kernel_rfl, by decide, by kernel_rfl, by kernel_rfl⟩, by kernel_rfl⟩
theorem ok62 : FnOk Try.prog 62 F62 := ⟨⟨Try.f62, by kernel_rfl, by kernel_rfl, by decide, by kernel_rfl, by kernel_rfl⟩, by kernel_rfl⟩
theorem ftOk : ∀ n fn, FT n = some fn → FnOk Try.prog n fn := fun _ _ h => node h (fun h => node h (fun h => node h (fun h => node h (fun h => node h (fun h => leaf h ok2) (fun h => node h (fun h => leaf h ok3) (fun h => leaf h ok4))) (fun h => node h (fun h => node h (fun h => leaf h ok5) (fun h => leaf h ok6)) (fun h => node h (fun h => leaf h ok7) (fun h => leaf h ok8)))) (fun h => node h (fun h => node h (fun h => node h (fun h => leaf h ok9) (fun h => leaf h ok10)) (fun h => node h (fun h => leaf h ok11) (fun h => leaf h ok12))) (fun h => node h (fun h => node h (fun h => leaf h ok13) (fun h => leaf h ok14)) (fun h => node h (fun h => leaf h ok15) (fun h => leaf h ok16))))) (fun h => node h (fun h => node h (fun h => node h (fun h => leaf h ok17) (fun h => node h (fun h => leaf h ok18) (fun h => leaf h ok19))) (fun h => node h (fun h => node h (fun h => leaf h ok20) (fun h => leaf h ok21)) (fun h => node h (fun h => leaf h ok22) (fun h => leaf h ok23)))) (fun h => node h (fun h => node h (fun h => node h (fun h => leaf h ok24) (fun h => leaf h ok25)) (fun h => node h (fun h => leaf h ok26) (fun h => leaf h ok27))) (fun h => node h (fun h => node h (fun h => leaf h ok28) (fun h => leaf h ok29)) (fun h => node h (fun h => leaf h ok30) (fun h => leaf h ok31)))))) (fun h => node h (fun h => node h (fun h => node h (fun h => node h (fun h => leaf h ok32) (fun h => node h (fun h => leaf h ok33) (fun h => leaf h ok34))) (fun h => node h (fun h => node h (fun h => leaf h ok35) (fun h => leaf h ok36)) (fun h => node h (fun h => leaf h ok37) (fun h => leaf h ok38)))) (fun h => node h (fun h => node h (fun h => node h (fun h => leaf h ok39) (fun h => leaf h ok40)) (fun h => node h (fun h => leaf h ok41) (fun h => leaf h ok42))) (fun h => node h (fun h => node h (fun h => leaf h ok43) (fun h => leaf h ok44)) (fun h => node h (fun h => leaf h ok45) (fun h => leaf h ok46))))) (fun h => node h (fun h => node h (fun h => node h (fun h => node h (fun h => leaf h ok47) (fun h => leaf h ok48)) (fun h => node h (fun h => leaf h ok49) (fun h => leaf h ok50))) (fun h => node h (fun h => node h (fun h => leaf h ok51) (fun h => leaf h ok52)) (fun h => node h (fun h => leaf h ok53) (fun h => leaf h ok54)))) (fun h => node h (fun h => node h (fun h => node h (fun h => leaf h ok55) (fun h => leaf h ok56)) (fun h => node h (fun h => leaf h ok57) (fun h => leaf h ok58))) (fun h => node h (fun h => node h (fun h => leaf h ok59) (fun h => leaf h ok60)) (fun h => node h (fun h => leaf h ok61) (fun h => leaf h ok62))))))
end E
end Go.Proofs.Ytodnfbfhdloogaa

/-
  An abstract machine of this place's own: the row's last step, for a law whose call only extends the world. No condition.
-/
namespace Go.Proofs.Ytodnfbfhdloogaa
open Go.ChangeShapes Go.WideShapes Go.ChangeAt Go.RowKit Go.Deep
namespace E

theorem prog_own : ownKnob Try.prog.godebug = none := by kernel_rfl
theorem prog_laid : laidOutB Try.prog = true := by kernel_rfl
theorem mixed : Try.prog.follows .mixedOrders = true := by kernel_rfl
noncomputable def X0 : Ctx := ctxOf Try.prog
theorem gok (loops n : Nat) : GOk Try.prog (callN Try.prog X0 FT loops n) := callN_ok ttOk flatOk mixed ftOk loops n

def isTrue (r : Option (V × Heap)) : Bool := match r with | some (.one (.lit (.bool b)), _) => b | _ => false

theorem isTrue_some {r : Option (V × Heap)} (h : isTrue r = true) : ∃ h', r = some (.one (.lit (.bool true)), h') := by
  unfold isTrue at h
  split at h
  · rename_i b h'
    subst h
    exact ⟨h', rfl⟩
  · cases h

/-- A call that hands nothing back that may be written only extends the world. -/
theorem step_below {β β' : Pls} {w w' : World} {h h' : Heap} (hro : ∀ b x, h.get b = some x → x.rw = false) (hst : Step β noF ⟨[], [], h⟩ w β' noF ⟨[], [], h'⟩ w') : Below w.heap.size w w' :=
  ⟨hst.os, hst.tape, hst.output, hst.size, fun k hk => hst.fr k hk fun hm => by
    rcases hm with ⟨b, x, p, e1, e2, _⟩ | ⟨t, cs, e1, _⟩
    · rw [hro b x e1] at e2; cases e2
    · cases e1⟩

/-- A law without arguments that the machine runs to true. -/
theorem calls_true {f : FuncId} {loops n : Nat} (h : isTrue (callN Try.prog X0 FT loops n f [] ⟨0, []⟩) = true) (W : World) :
    Calls Try.prog f #[] W fun e w' => e = .returned (.bool true) ∧ Below W.heap.size W w' := by
  obtain ⟨h', hr⟩ := isTrue_some h
  obtain ⟨_, _, hc⟩ := gok loops n _ _ _ _ _ hr
  refine (hc (fun _ => none) W [] ⟨fun _ _ => rfl, (fun b x e => by cases e), (fun b b' x x' p p' _ e => by cases e)⟩ trivial).mono fun e w' he => ?_
  obtain ⟨x, β', rfl, hv, _, hst, _⟩ := he
  have hx : x = .bool true := hv
  exact ⟨by rw [hx], step_below (h := ⟨0, []⟩) (fun b x e => by cases e) hst⟩

section
variable {H : Type} {enc : TypeId × Value → H} {P : Program}
/-- Behind a call that extends the world and hands back what the specification says, each argument reads as it did. -/
theorem post_ext {f : Func} {s : ChangeSpec} {apart fresh handsOn again : Bool} {W W' : World} {args : Array Value} {v : Value} {ds gs : List (DataW H)} {before pa pv : List MemPlace}
    (hW : DataW.Whole enc P f.params.toList s.vars apart W args.toList ds gs before)
    (hres : ∀ (b : Nat) (sp : Nat → Bool) (hd : Bool), DataW.TrodAll enc P W' b sp hd f.resultTypes.toList (v.resultList f.resultTypes.size) (s.fn H (ds ++ gs)).results [])
    (hargs : ∀ sp : Nat → Bool, (∀ p ∈ before, sp p.block = true) → DataW.TrodAll enc P W' 0 sp true f.params.toList args.toList (s.fn H (ds ++ gs)).args pa)
    (hvars : ∀ sp : Nat → Bool, (∀ p ∈ before, sp p.block = true) → DataW.TrodVars enc P W' sp s.vars (s.fn H (ds ++ gs)).vars pv)
    (hps : before = pa ++ pv) (hb : Below W.heap.size W W')
    (hok : ∀ (j : Nat) (t : TypeId) (r : Value), f.resultTypes[j]? = some t → (v.resultList f.resultTypes.size)[j]? = some r → Value.okWide P W' .any 0 t r) :
    s.post enc P f apart fresh handsOn again W args v W' := by
  have hlt : ∀ p ∈ before, p.block < W.heap.size := fun p hp => hW.lt p hp
  have hold : ∀ p ∈ before, (fun b => decide (b < W.heap.size)) p.block = true := fun p hp => by simpa using hlt p hp
  refine ⟨ds, gs, before, [], pa, pv, hW, hres _ _ _, hargs _ hold, hvars _ hold, World.keptBut_mono (fun p hp => ⟨hp, ?_⟩) (Below.frame hb (· ∈ before)), fun _ => ?_⟩
  · rw [hps, List.mem_append] at hp
    exact Or.inr hp
  · obtain ⟨_, _, _, _, _, hz, hn⟩ := hW
    refine ⟨hok, _, _, ([] ++ pa) ++ pv, ⟨[] ++ pa, pv, trodAll_append (hargs _ (fun _ _ => rfl)) (hres _ _ _), hvars _ (fun _ _ => rfl), rfl, ?_, ?_⟩, ?_⟩
    · intro b off hp
      have hin : MemPlace.cell b off ∈ before := by rw [hps]; simpa using hp
      rw [Below.frozen hb (hlt _ hin)]
      exact hz b off hin
    · intro ha
      have := hn ha
      rw [hps] at this
      simpa using this
    · intro p hp _
      rw [hps]
      simpa using hp

theorem trod_ext {t : TypeId} (hl : laidOutB P = true) (hr : P.readableRec t = true) (hrow : t < P.types.size) {W W' : World} {sp : Nat → Bool} {v : Value} {d : DataW H} {ps : List MemPlace}
    (h : DataW.Trod enc P W 0 (fun _ => true) true t v d ps) (hb : Below W.heap.size W W') (hlt : ∀ x ∈ ps, x.block < W.heap.size) (hs : ∀ p ∈ ps, sp p.block = true) : DataW.Trod enc P W' 0 sp true t v d ps :=
  WideElems.Trod_stays hl hr hrow h (fun x hx => Below.same hb (hlt x hx)) hs

end
end E
end Go.Proofs.Ytodnfbfhdloogaa

/-
  Plain lemmas of this place's own: a world that extends another one; a region that draws its order and whose operations only extend the world. No condition.
-/
namespace Go.Proofs.Ytodnfbfhdloogaa
open Go.RowKit

/-- The world w' holds all the blocks of w as they were, and perhaps more. -/
def Ext (w w' : World) : Prop := Below w.heap.size w w'

theorem Ext.refl (w : World) : Ext w w := Below.refl _ _
theorem Ext.trans {a b c : World} (h : Ext a b) (k : Ext b c) : Ext a c := Below.trans h (Below.mono k h.size)
/-- .. then whatever leaves the blocks below as they are. -/
theorem Ext.trans' {a b c : World} (h : Ext a b) (k : Below a.heap.size b c) : Ext a c := Below.trans h k
theorem Ext.drew {a w : World} (h : Ext a w) : Ext a w.drew := Below.drew h
theorem Ext.drewN {a w : World} (h : Ext a w) (n : Nat) : Ext a (w.drewN n) := ⟨h.os, h.tape, h.output, h.size, h.block⟩
theorem Ext.alloc {a w : World} (h : Ext a w) (o : Obj) : Ext a (w.alloc o) := Below.alloc h h.size o
theorem Ext.setCell {a w : World} (h : Ext a w) {p : Addr} (hp : a.heap.size ≤ p.block) (u : Value) : Ext a (w.setCell p u) := Below.setCell h hp u
theorem Ext.size {a w : World} (h : Ext a w) : a.heap.size ≤ w.heap.size := Below.size h

/-- A world that extends w. -/
structure ExtOf (w : World) where
  val : World
  ext : Ext w val

instance (w : World) : Nonempty (ExtOf w) := ⟨⟨w, Ext.refl w⟩⟩

theorem ext_of {w w' : World} (h : Ext w w') : ∃ x : ExtOf w, w' = x.val := ⟨⟨w', h⟩, rfl⟩
theorem Ext.val {a w : World} (h : Ext a w) (x : ExtOf w) : Ext a x.val := h.trans x.ext

theorem ExtOf.cell {w : World} (x : ExtOf w) {a : Addr} (h : a.block < w.heap.size) : x.val.cell? a = w.cell? a := Below.cell x.ext h
theorem ExtOf.frozen {w : World} (x : ExtOf w) {a : Addr} (h : a.block < w.heap.size) : x.val.frozen? a = w.frozen? a := Below.frozen x.ext h
theorem ExtOf.lt {w : World} (x : ExtOf w) {n : Nat} (h : n < w.heap.size) : (n < x.val.heap.size) = True := by
  have := x.ext.size
  exact eq_true (by omega)
theorem ExtOf.le {w : World} (x : ExtOf w) {n : Nat} (h : n ≤ w.heap.size) : (n ≤ x.val.heap.size) = True := by
  have := x.ext.size
  exact eq_true (by omega)

theorem ExtOf.cell2 {w : World} {x : ExtOf w} (y : ExtOf x.val) {a : Addr} (h : a.block < w.heap.size) : y.val.cell? a = w.cell? a := Below.cell (x.ext.trans y.ext) h
theorem ExtOf.frozen2 {w : World} {x : ExtOf w} (y : ExtOf x.val) {a : Addr} (h : a.block < w.heap.size) : y.val.frozen? a = w.frozen? a := Below.frozen (x.ext.trans y.ext) h
theorem ExtOf.lt2 {w : World} {x : ExtOf w} (y : ExtOf x.val) {n : Nat} (h : n < w.heap.size) : (n < y.val.heap.size) = True := by
  have := (x.ext.trans y.ext).size
  exact eq_true (by omega)

theorem ExtOf.cell3 {w : World} {x : ExtOf w} {y : ExtOf x.val} (z : ExtOf y.val) {a : Addr} (h : a.block < w.heap.size) : z.val.cell? a = w.cell? a := Below.cell ((x.ext.trans y.ext).trans z.ext) h
theorem ExtOf.frozen3 {w : World} {x : ExtOf w} {y : ExtOf x.val} (z : ExtOf y.val) {a : Addr} (h : a.block < w.heap.size) : z.val.frozen? a = w.frozen? a := Below.frozen ((x.ext.trans y.ext).trans z.ext) h
theorem ExtOf.lt3 {w : World} {x : ExtOf w} {y : ExtOf x.val} (z : ExtOf y.val) {n : Nat} (h : n < w.heap.size) : (n < z.val.heap.size) = True := by
  have := ((x.ext.trans y.ext).trans z.ext).size
  exact eq_true (by omega)

/-- A world that has, below block B, the blocks of w as they were. -/
structure BelOf (B : Nat) (w : World) where
  val : World
  bel : Below B w val

instance (B : Nat) (w : World) : Nonempty (BelOf B w) := ⟨⟨w, Below.refl B w⟩⟩

theorem bel_of {B : Nat} {w w' : World} (h : Below B w w') : ∃ x : BelOf B w, w' = x.val := ⟨⟨w', h⟩, rfl⟩
theorem bel_ext {B : Nat} {a w w' : World} (h : Below B a w) (e : Ext w w') (hB : B ≤ a.heap.size) : Below B a w' := Below.trans h (Below.mono e (Nat.le_trans hB h.size))

theorem BelOf.cell {B : Nat} {w : World} (x : BelOf B w) {a : Addr} (h : a.block < B) : x.val.cell? a = w.cell? a := Below.cell x.bel h
theorem BelOf.frozen {B : Nat} {w : World} (x : BelOf B w) {a : Addr} (h : a.block < B) : x.val.frozen? a = w.frozen? a := Below.frozen x.bel h
theorem BelOf.lt {B : Nat} {w : World} (x : BelOf B w) {n : Nat} (h : n < w.heap.size) : (n < x.val.heap.size) = True := by
  have := x.bel.size
  exact eq_true (by omega)

theorem ExtOf.cellB {B : Nat} {w : World} {x : BelOf B w} (y : ExtOf x.val) {a : Addr} (h : a.block < B) (hB : B ≤ w.heap.size) : y.val.cell? a = w.cell? a :=
  Below.cell (bel_ext x.bel y.ext hB) h
theorem ExtOf.frozenB {B : Nat} {w : World} {x : BelOf B w} (y : ExtOf x.val) {a : Addr} (h : a.block < B) (hB : B ≤ w.heap.size) : y.val.frozen? a = w.frozen? a :=
  Below.frozen (bel_ext x.bel y.ext hB) h

/-- A world that has the blocks of w as they were, but for block X. -/
structure ButOf (X : Nat) (w : World) where
  val : World
  but : w.grownBy val (some X)

theorem but_refl (X : Nat) (w : World) : w.grownBy w (some X) := ⟨rfl, rfl, rfl, Nat.le_refl _, fun _ _ _ => rfl⟩
theorem but_ext {X : Nat} {a w w' : World} (h : a.grownBy w (some X)) (e : Ext w w') : a.grownBy w' (some X) :=
  ⟨e.os.trans h.os, e.tape.trans h.tape, e.output.trans h.output, Nat.le_trans h.size e.size, fun k hk hn => (e.block k (Nat.lt_of_lt_of_le hk h.size)).trans (h.block k hk hn)⟩
theorem but_setRow {X : Nat} {a w : World} (h : a.grownBy w (some X)) (cs : Array Value) : a.grownBy (w.setRow X cs) (some X) :=
  ⟨h.os, h.tape, h.output, by simpa using h.size, fun k hk hn => (setRow_other w X k cs (fun e => hn (by rw [e]))).trans (h.block k hk hn)⟩
instance (X : Nat) (w : World) : Nonempty (ButOf X w) := ⟨⟨w, but_refl X w⟩⟩

theorem ButOf.cell0 {X : Nat} {w : World} (x : ButOf X w) {a : Addr} (h : a.block < w.heap.size) (hn : a.block ≠ X) : x.val.cell? a = w.cell? a :=
  World.cell?_of_block (x.but.block a.block h (by simpa using hn))
theorem ButOf.frozen0 {X : Nat} {w : World} (x : ButOf X w) {a : Addr} (h : a.block < w.heap.size) (hn : a.block ≠ X) : x.val.frozen? a = w.frozen? a :=
  World.frozen?_of_block (x.but.block a.block h (by simpa using hn))
theorem ExtOf.cellX {X : Nat} {w : World} {x : ButOf X w} (y : ExtOf x.val) {a : Addr} (h : a.block < w.heap.size) (hn : a.block < X) : y.val.cell? a = w.cell? a :=
  ButOf.cell0 ⟨y.val, but_ext x.but y.ext⟩ h (Nat.ne_of_lt hn)
theorem ExtOf.frozenX {X : Nat} {w : World} {x : ButOf X w} (y : ExtOf x.val) {a : Addr} (h : a.block < w.heap.size) (hn : a.block < X) : y.val.frozen? a = w.frozen? a :=
  ButOf.frozen0 ⟨y.val, but_ext x.but y.ext⟩ h (Nat.ne_of_lt hn)
theorem ExtOf.cellX' {X : Nat} {w : World} {x : ButOf X w} (y : ExtOf x.val) {a : Addr} (h : a.block < w.heap.size) (hn : X < a.block) : y.val.cell? a = w.cell? a :=
  ButOf.cell0 ⟨y.val, but_ext x.but y.ext⟩ h (Nat.ne_of_gt hn)
theorem ExtOf.frozenX' {X : Nat} {w : World} {x : ButOf X w} (y : ExtOf x.val) {a : Addr} (h : a.block < w.heap.size) (hn : X < a.block) : y.val.frozen? a = w.frozen? a :=
  ButOf.frozen0 ⟨y.val, but_ext x.but y.ext⟩ h (Nat.ne_of_gt hn)
theorem Ext.setRow {a w : World} (h : Ext a w) {g : Nat} (hg : a.heap.size ≤ g) (cs : Array Value) : Ext a (w.setRow g cs) :=
  ⟨h.os, h.tape, h.output, by simpa using h.size, fun k hk => (setRow_other w g k cs (by omega)).trans (h.block k hk)⟩

theorem heap_ext {w w' : World} {G : Nat} {o : Obj} (h : w.heap[G]? = some o) (e : Ext w w') : w'.heap[G]? = some o := by
  rw [Below.block e G (Array.getElem?_eq_some_iff.1 h).1]; exact h

section
variable {P : Program}
/-- A region that draws its order; each operation gives one value in every world that extends w, and leaves such a world. -/
theorem wp_region_ext {id : Nat} {Q : Exit → Act → World → Prop} {a : Act} {w : World} {l : List Oper} (hm : P.follows .mixedOrders = true) (hB : Region.lexB .any l.toArray = true)
    (h : wpQuiet P l.toArray (fun w' => ∃ x : ExtOf w, w' = x.val) (fun a' => ∀ w', (∃ x : ExtOf w, w' = x.val) → Q .normal a' w') l a) : (Code.region id l.toArray true).wp P Q a w :=
  wp_region_quiet (C := fun w' => ∃ x : ExtOf w, w' = x.val) hm hB ⟨⟨_, (Ext.refl w).drew⟩, rfl⟩ (by simpa using h)

/-- A contract met in such a region. -/
theorem calls_ext {f : FuncId} {args : Array Value} {w : World} {x : ExtOf w} {v : Value}
    (h : Calls P f args x.val fun e w' => e = .returned v ∧ Ext x.val w') : Calls P f args x.val fun e w'' => e = .returned v ∧ ∃ y : ExtOf w, w'' = y.val :=
  h.mono fun _ w' ⟨he, hw⟩ => ⟨he, ⟨w', x.ext.trans hw⟩, rfl⟩
end
end Go.Proofs.Ytodnfbfhdloogaa
