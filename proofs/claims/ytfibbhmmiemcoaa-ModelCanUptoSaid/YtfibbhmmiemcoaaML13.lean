/-
  The tables of the abstract machine for this seat: printed by tab.py. No condition.
-/
import Derived.Test.YtfibbhmmiemcoaaML12
import Derived.KernelRfl
set_option linter.all false
namespace Go.Proofs.Ytfibbhmmiemcoaa
namespace E

def fi2 : Fi := { nt := 1, prom := [], lives := [(0, [])] }
noncomputable def F2 : Fn := { fi := fi2, wins := [], body := Try.f2.body.getD .skip, res := Try.f2.results.toList, keep := false }
def fi3 : Fi := { nt := 133, prom := [2, 3], lives := [(0, [2, 3]), (1, [2, 3, 47]), (2, [4]), (3, [2, 3, 5]), (4, [2, 3, 5, 6]), (5, [2, 3, 5, 6, 57]), (6, [4]), (7, [2, 3, 5, 6, 7]), (8, [2, 3, 5, 6, 7, 62]), (9, [2, 3, 5, 6, 7]), (10, [2, 3, 5, 6, 7, 8, 9]), (11, [2, 3, 5, 6, 7, 84]), (12, [4]), (13, [2, 3, 5, 6, 10]), (14, [2, 3, 5, 6, 10, 86]), (15, [2, 3, 5, 6, 10]), (16, [2, 3, 5, 6, 10, 11, 12]), (17, [2, 3, 5, 6, 10, 110]), (18, [4]), (19, [2, 3, 6, 13, 14]), (20, [4])] }
noncomputable def F3 : Fn := { fi := fi3, wins := [(20, [], [(7, 1, 2), (9, 1, 3)])], body := Try.f3.body.getD .skip, res := Try.f3.results.toList, keep := false }
def fi4 : Fi := { nt := 49, prom := [1], lives := [(0, [1]), (1, [1, 3]), (2, [1, 3, 4]), (3, [1, 3, 4, 29]), (4, [1, 3, 4]), (5, [1, 3, 4]), (6, [2])] }
noncomputable def F4 : Fn := { fi := fi4, wins := [], body := Try.f4.body.getD .skip, res := Try.f4.results.toList, keep := false }
def fi5 : Fi := { nt := 86, prom := [1, 3, 6], lives := [(0, [1]), (1, [1, 36]), (2, [2]), (3, [1, 4]), (4, [1, 58]), (5, [2]), (6, [1, 60, 61, 62]), (7, [1, 60, 61, 62, 63]), (8, [1, 5, 6, 60, 61, 62]), (9, [1, 60, 61, 62, 84]), (10, [2]), (11, [1, 60, 61, 62]), (12, [2])] }
noncomputable def F5 : Fn := { fi := fi5, wins := [], body := Try.f5.body.getD .skip, res := Try.f5.results.toList, keep := false }
def fi6 : Fi := { nt := 9, prom := [1, 2], lives := [(0, [1, 2]), (1, [1, 2]), (2, [2])] }
noncomputable def F6 : Fn := { fi := fi6, wins := [], body := Try.f6.body.getD .skip, res := Try.f6.results.toList, keep := true }
def fi7 : Fi := { nt := 4, prom := [], lives := [(0, [0]), (1, [2])] }
noncomputable def F7 : Fn := { fi := fi7, wins := [], body := Try.f7.body.getD .skip, res := Try.f7.results.toList, keep := false }
def fi8 : Fi := { nt := 53, prom := [1, 3], lives := [(0, [1]), (1, [1, 11]), (2, [2]), (3, [1, 3]), (4, [1, 3, 16]), (5, [1, 3, 16]), (6, [1, 3, 16]), (7, [1, 16]), (8, [2]), (9, [48]), (10, [2]), (11, [2])] }
noncomputable def F8 : Fn := { fi := fi8, wins := [(3, [], [(2, 0, 1)])], body := Try.f8.body.getD .skip, res := Try.f8.results.toList, keep := false }
def fi9 : Fi := { nt := 119, prom := [1, 5, 7], lives := [(0, []), (1, [1]), (2, [1, 2]), (3, [1, 2, 3]), (4, [1, 2, 3, 4]), (5, [1, 2, 3, 4, 6]), (6, [1, 2, 3, 4, 6, 7, 8]), (7, [0])] }
noncomputable def F9 : Fn := { fi := fi9, wins := [], body := Try.f9.body.getD .skip, res := Try.f9.results.toList, keep := false }
def fi10 : Fi := { nt := 4, prom := [], lives := [(0, []), (1, [0])] }
noncomputable def F10 : Fn := { fi := fi10, wins := [], body := Try.f10.body.getD .skip, res := Try.f10.results.toList, keep := true }
def fi11 : Fi := { nt := 9, prom := [], lives := [(0, [0]), (1, [0, 4]), (2, [2]), (3, [2])] }
noncomputable def F11 : Fn := { fi := fi11, wins := [], body := Try.f11.body.getD .skip, res := Try.f11.results.toList, keep := true }
def fi12 : Fi := { nt := 20, prom := [3], lives := [(0, [0, 3]), (1, [0, 3, 6]), (2, [0, 3, 6, 10]), (3, [4, 5]), (4, [0, 3, 13]), (5, [4, 5]), (6, [4, 5])] }
noncomputable def F12 : Fn := { fi := fi12, wins := [], body := Try.f12.body.getD .skip, res := Try.f12.results.toList, keep := true }
def fi13 : Fi := { nt := 41, prom := [5], lives := [(0, [0, 1]), (1, [0, 1, 8]), (2, [4]), (3, [0, 1, 6]), (4, [0, 1, 19]), (5, [4]), (6, [0, 1, 26]), (7, [0, 1]), (8, []), (9, [4])] }
noncomputable def F13 : Fn := { fi := fi13, wins := [], body := Try.f13.body.getD .skip, res := Try.f13.results.toList, keep := true }
def fi14 : Fi := { nt := 12, prom := [], lives := [(0, [0, 1]), (1, [4, 5])] }
noncomputable def F14 : Fn := { fi := fi14, wins := [], body := Try.f14.body.getD .skip, res := Try.f14.results.toList, keep := true }
def fi15 : Fi := { nt := 14, prom := [], lives := [(0, [0, 1]), (1, [6]), (2, [4])] }
noncomputable def F15 : Fn := { fi := fi15, wins := [], body := Try.f15.body.getD .skip, res := Try.f15.results.toList, keep := true }
def fi16 : Fi := { nt := 83, prom := [7, 8], lives := [(0, [2, 3]), (1, [2, 3, 18]), (2, [4]), (3, [2, 3, 22]), (4, [4]), (5, [2, 3, 5]), (6, [2, 3, 5, 25]), (7, [2, 3, 5, 25, 26]), (8, [2, 3, 5, 6]), (9, [2, 5, 6, 31]), (10, [2, 5, 6]), (11, [4]), (12, [2, 3, 25, 42]), (13, [4]), (14, [2, 3, 25, 49]), (15, [4]), (16, [2, 3, 54]), (17, [2, 3, 7]), (18, [2, 3, 7, 8]), (19, [2, 3, 7, 8]), (20, [4]), (21, [4])] }
noncomputable def F16 : Fn := { fi := fi16, wins := [], body := Try.f16.body.getD .skip, res := Try.f16.results.toList, keep := false }
def fi17 : Fi := { nt := 43, prom := [1], lives := [(0, [1]), (1, [1, 11]), (2, [2]), (3, [1, 13]), (4, [1, 13, 14]), (5, [1, 13, 16]), (6, [1, 13, 18]), (7, [1, 13, 18]), (8, [1, 13, 18]), (9, [1, 13, 18]), (10, [1, 18]), (11, [2]), (12, [1, 38]), (13, [2]), (14, [2]), (15, [2])] }
noncomputable def F17 : Fn := { fi := fi17, wins := [(11, [], [(1, 0, 1), (7, 1, 2)])], body := Try.f17.body.getD .skip, res := Try.f17.results.toList, keep := false }
def fi18 : Fi := { nt := 48, prom := [1], lives := [(0, [1]), (1, [1, 11]), (2, [2]), (3, [1, 13]), (4, [1, 13, 14]), (5, [2]), (6, [1, 13, 25]), (7, [1, 13, 25]), (8, [1, 13, 25]), (9, [1, 13, 25]), (10, [2]), (11, [1, 34]), (12, [2]), (13, [2])] }
noncomputable def F18 : Fn := { fi := fi18, wins := [(12, [], [(1, 0, 1), (7, 1, 2)])], body := Try.f18.body.getD .skip, res := Try.f18.results.toList, keep := false }
def fi19 : Fi := { nt := 32, prom := [1, 2], lives := [(0, [1, 2]), (1, [1, 2, 4]), (2, [2, 3]), (3, [1, 2, 16]), (4, [2, 3]), (5, [2, 3])] }
noncomputable def F19 : Fn := { fi := fi19, wins := [], body := Try.f19.body.getD .skip, res := Try.f19.results.toList, keep := false }
def fi20 : Fi := { nt := 9, prom := [3], lives := [(0, [0, 3]), (1, [4])] }
noncomputable def F20 : Fn := { fi := fi20, wins := [], body := Try.f20.body.getD .skip, res := Try.f20.results.toList, keep := false }
def fi21 : Fi := { nt := 9, prom := [0], lives := [(0, [0]), (1, [0])] }
noncomputable def F21 : Fn := { fi := fi21, wins := [], body := Try.f21.body.getD .skip, res := Try.f21.results.toList, keep := false }
def fi22 : Fi := { nt := 10, prom := [2], lives := [(0, [0, 2]), (1, [2])] }
noncomputable def F22 : Fn := { fi := fi22, wins := [], body := Try.f22.body.getD .skip, res := Try.f22.results.toList, keep := true }
def fi23 : Fi := { nt := 113, prom := [2, 3, 4, 7, 8, 11], lives := [(0, [2, 3, 4]), (1, [2, 3, 4, 6]), (2, [2, 3, 4, 6]), (3, [2, 3, 4, 6, 7]), (4, [2, 3, 4, 6, 7, 21]), (5, [2, 3, 4, 6, 7, 21, 22]), (6, [3, 4, 6, 28]), (7, [4, 5]), (8, [4, 6]), (9, [4, 5]), (10, [2, 3, 4, 6, 7, 33]), (11, [4, 6]), (12, [4, 5]), (13, [2, 3, 4, 6, 7, 44]), (14, [4, 5]), (15, [2, 3, 4, 6, 7, 47]), (16, [4, 5]), (17, [2, 3, 4, 6, 7, 47, 49]), (18, [4, 6]), (19, [4, 5]), (20, [2, 3, 4, 6, 7, 47, 56]), (21, [2, 3, 4, 6, 7]), (22, [2, 3, 4, 6, 7, 47, 62]), (23, [2, 3, 4, 6, 7, 68]), (24, [4, 5]), (25, [2, 3, 4, 6, 7]), (26, [2, 3, 4, 6, 7, 74]), (27, [2, 3, 4, 6, 7]), (28, [2, 3, 4, 6, 7, 81]), (29, [4, 5]), (30, [3, 4, 6, 8, 9]), (31, [3, 4, 6, 9]), (32, [3, 4, 6, 100, 101, 102]), (33, [3, 4, 6, 100, 101, 102, 103]), (34, [3, 4, 6, 11, 100, 101, 102]), (35, [3, 4, 6, 100, 101, 102]), (36, [3, 4, 6, 100, 101, 102]), (37, [4, 5])] }
noncomputable def F23 : Fn := { fi := fi23, wins := [(21, [], [(1, 0, 1)]), (25, [], [(1, 0, 1)])], body := Try.f23.body.getD .skip, res := Try.f23.results.toList, keep := true }
def fi24 : Fi := { nt := 131, prom := [1, 3, 4, 6, 7, 12, 13, 14], lives := [(0, [1]), (1, [1, 3]), (2, [1, 3, 4]), (3, [1, 3, 4, 19, 20]), (4, [1, 3, 4, 19, 20, 21]), (5, [1, 3, 4, 5, 6, 19, 20]), (6, [1, 3, 4, 5, 6, 19, 20]), (7, [1, 3, 4, 5, 6, 19, 20, 31]), (8, [1, 3, 4, 6, 19, 20, 41]), (9, [1, 3, 4, 6, 19, 20]), (10, [1, 3, 4, 19, 20, 52]), (11, [1, 3, 4, 19, 20]), (12, [1, 3, 4, 19, 20]), (13, [1, 3, 4, 7]), (14, [1, 3, 4, 7, 9, 10]), (15, [1, 3, 4, 7, 9, 10, 62, 63, 64]), (16, [1, 3, 4, 7, 9, 10, 62, 63, 64, 65]), (17, [1, 3, 4, 7, 9, 10, 12, 62, 63, 64]), (18, [1, 3, 4, 7, 9, 10, 12, 62, 63, 64, 75]), (19, [1, 3, 4, 7, 9, 10, 12, 62, 63, 64]), (20, [1, 3, 4, 7, 9, 10, 12, 62, 63, 64]), (21, [1, 3, 4, 7, 9, 10, 62, 63, 64]), (22, [1, 3, 4, 7, 9, 10, 62, 63, 64]), (23, [1, 3, 4]), (24, [1, 3, 4, 13]), (25, [1, 3, 4, 13, 14]), (26, [3]), (27, [3, 15]), (28, [15, 119, 120]), (29, [15, 119, 120, 121]), (30, [15, 16, 17, 119, 120]), (31, [15, 16, 119, 120, 124]), (32, [15, 119, 120]), (33, [15, 119, 120]), (34, [2])] }
noncomputable def F24 : Fn := { fi := fi24, wins := [], body := Try.f24.body.getD .skip, res := Try.f24.results.toList, keep := true }
def fi25 : Fi := { nt := 18, prom := [2], lives := [(0, [1, 2]), (1, [2, 5]), (2, [2, 5, 6]), (3, [4]), (4, [2, 12]), (5, [4]), (6, [4])] }
noncomputable def F25 : Fn := { fi := fi25, wins := [], body := Try.f25.body.getD .skip, res := Try.f25.results.toList, keep := false }
def fi26 : Fi := { nt := 27, prom := [8], lives := [(0, [1, 2]), (1, [1, 2, 5]), (2, [1, 2, 5, 6]), (3, [5, 6, 12, 13, 14]), (4, [5, 6, 12, 13, 14, 15]), (5, [5, 6, 8, 12, 13, 14]), (6, [5, 6, 8, 12, 13, 14, 20]), (7, [5, 6, 8, 12, 13, 14]), (8, [5, 6, 12, 13, 14]), (9, [5, 6, 12, 13, 14]), (10, [4])] }
noncomputable def F26 : Fn := { fi := fi26, wins := [], body := Try.f26.body.getD .skip, res := Try.f26.results.toList, keep := true }
def fi27 : Fi := { nt := 72, prom := [2, 3, 7], lives := [(0, [2, 3]), (1, [2, 3, 50]), (2, [4]), (3, [2, 5]), (4, [5, 55, 56, 57]), (5, [5, 55, 56, 57, 58]), (6, [5, 7, 55, 56, 57]), (7, [5, 8, 55, 56, 57]), (8, [5, 8, 55, 56, 57, 65]), (9, [4]), (10, [5, 55, 56, 57]), (11, [5, 55, 56, 57]), (12, [4])] }
noncomputable def F27 : Fn := { fi := fi27, wins := [], body := Try.f27.body.getD .skip, res := Try.f27.results.toList, keep := false }
def fi28 : Fi := { nt := 36, prom := [3], lives := [(0, [0, 3]), (1, [0, 3, 12]), (2, [4, 5]), (3, [0, 3, 6]), (4, [0, 3, 7]), (5, [0, 3, 7, 16]), (6, [4, 5]), (7, [0, 3, 8]), (8, [0, 8, 9, 10]), (9, [0, 8, 9, 10, 30]), (10, [10]), (11, [4, 5]), (12, [4, 5])] }
noncomputable def F28 : Fn := { fi := fi28, wins := [], body := Try.f28.body.getD .skip, res := Try.f28.results.toList, keep := true }
def fi29 : Fi := { nt := 68, prom := [1, 2, 3], lives := [(0, [1, 2]), (1, [1, 2, 3]), (2, [1, 2, 3, 10]), (3, [1, 2, 3, 10, 11]), (4, [2]), (5, [1, 2, 3, 10, 19]), (6, [2]), (7, [1, 2, 3, 10, 25]), (8, [2]), (9, [1, 2, 3, 10, 33]), (10, [2]), (11, [1, 2, 3, 10, 49]), (12, [2]), (13, [1, 2, 3, 57]), (14, [2]), (15, [2])] }
noncomputable def F29 : Fn := { fi := fi29, wins := [(8, [], [(2, 0, 1)]), (10, [], [(1, 0, 5), (4, 0, 1), (5, 0, 1), (8, 0, 2), (9, 0, 2)]), (12, [], [(2, 0, 1)]), (14, [], [(1, 0, 1)]), (15, [], [(2, 0, 1)])], body := Try.f29.body.getD .skip, res := Try.f29.results.toList, keep := true }
def fi30 : Fi := { nt := 20, prom := [4], lives := [(0, [0, 1, 4]), (1, [0, 1, 4, 9]), (2, [4, 5]), (3, [4, 5])] }
noncomputable def F30 : Fn := { fi := fi30, wins := [], body := Try.f30.body.getD .skip, res := Try.f30.results.toList, keep := true }
def fi31 : Fi := { nt := 9, prom := [], lives := [(0, [0, 1]), (1, [4])] }
noncomputable def F31 : Fn := { fi := fi31, wins := [], body := Try.f31.body.getD .skip, res := Try.f31.results.toList, keep := false }
def fi32 : Fi := { nt := 90, prom := [5, 6, 10], lives := [(0, [1, 3, 5]), (1, [1, 3, 5, 7]), (2, [1, 3, 5, 22]), (3, [1, 3]), (4, [1, 3, 8]), (5, [3, 8]), (6, [3, 8, 50]), (7, [3, 8]), (8, [3, 8, 9]), (9, [3, 8, 9, 10]), (10, [3, 8, 10, 12]), (11, [3, 8, 10, 12, 71]), (12, [3, 8, 10, 12, 71, 72]), (13, [3, 8, 10, 12]), (14, [3, 8]), (15, [3, 8, 10, 12, 71, 82]), (16, [3, 8, 10, 12, 71, 82]), (17, [3, 8, 10, 12, 82]), (18, [3, 8])] }
noncomputable def F32 : Fn := { fi := fi32, wins := [(5, [], [(0, 0, 1)])], body := Try.f32.body.getD .skip, res := Try.f32.results.toList, keep := true }
def fi33 : Fi := { nt := 66, prom := [3], lives := [(0, [0, 3]), (1, [0, 3, 13]), (2, [4, 5]), (3, [0, 3, 6, 7, 8]), (4, [0, 3, 6, 7, 8, 22]), (5, [4, 5]), (6, [0, 3, 6, 7, 9, 10]), (7, [0, 3, 6, 7, 9, 33]), (8, [4, 5]), (9, [0, 3, 6, 7, 40]), (10, [4, 5]), (11, [0, 3]), (12, [0, 3, 11]), (13, [11]), (14, [4, 5])] }
noncomputable def F33 : Fn := { fi := fi33, wins := [], body := Try.f33.body.getD .skip, res := Try.f33.results.toList, keep := true }
def fi34 : Fi := { nt := 26, prom := [], lives := [(0, [1, 2]), (1, [1, 2, 13]), (2, [4, 5]), (3, [1, 2, 6]), (4, [1, 2, 6, 7]), (5, [1, 2, 6, 7, 8]), (6, [1, 2, 6, 7, 8, 9]), (7, [1, 6, 9]), (8, [6, 11]), (9, [6, 24]), (10, [4, 5]), (11, [4, 5])] }
noncomputable def F34 : Fn := { fi := fi34, wins := [], body := Try.f34.body.getD .skip, res := Try.f34.results.toList, keep := true }
def fi35 : Fi := { nt := 7, prom := [], lives := [(0, [0, 1]), (1, [2])] }
noncomputable def F35 : Fn := { fi := fi35, wins := [], body := Try.f35.body.getD .skip, res := Try.f35.results.toList, keep := true }
def fi36 : Fi := { nt := 9, prom := [], lives := [(0, [0, 1]), (1, [4])] }
noncomputable def F36 : Fn := { fi := fi36, wins := [], body := Try.f36.body.getD .skip, res := Try.f36.results.toList, keep := true }
def fi37 : Fi := { nt := 21, prom := [2], lives := [(0, [1, 2]), (1, [3])] }
noncomputable def F37 : Fn := { fi := fi37, wins := [], body := Try.f37.body.getD .skip, res := Try.f37.results.toList, keep := true }
def fi38 : Fi := { nt := 11, prom := [2, 4], lives := [(0, [1, 2, 4]), (1, [4])] }
noncomputable def F38 : Fn := { fi := fi38, wins := [], body := Try.f38.body.getD .skip, res := Try.f38.results.toList, keep := false }
def fi39 : Fi := { nt := 8, prom := [1, 2], lives := [(0, [1, 2]), (1, [2])] }
noncomputable def F39 : Fn := { fi := fi39, wins := [], body := Try.f39.body.getD .skip, res := Try.f39.results.toList, keep := false }
def fi40 : Fi := { nt := 11, prom := [2, 4], lives := [(0, [1, 2, 4]), (1, [4])] }
noncomputable def F40 : Fn := { fi := fi40, wins := [], body := Try.f40.body.getD .skip, res := Try.f40.results.toList, keep := false }
def fi41 : Fi := { nt := 8, prom := [1, 2], lives := [(0, [1, 2]), (1, [2])] }
noncomputable def F41 : Fn := { fi := fi41, wins := [], body := Try.f41.body.getD .skip, res := Try.f41.results.toList, keep := false }
def fi42 : Fi := { nt := 19, prom := [3], lives := [(0, [0, 3]), (1, [0, 3, 7, 8]), (2, [0, 3, 7, 8, 9]), (3, [0, 3, 5, 7, 8]), (4, [0, 3, 5, 7, 8, 16]), (5, [4]), (6, [0, 3, 7, 8]), (7, [4])] }
noncomputable def F42 : Fn := { fi := fi42, wins := [], body := Try.f42.body.getD .skip, res := Try.f42.results.toList, keep := false }
def fi43 : Fi := { nt := 5, prom := [2], lives := [(0, [0, 2]), (1, [2])] }
noncomputable def F43 : Fn := { fi := fi43, wins := [], body := Try.f43.body.getD .skip, res := Try.f43.results.toList, keep := false }
def fi44 : Fi := { nt := 5, prom := [2], lives := [(0, [0, 2]), (1, [2])] }
noncomputable def F44 : Fn := { fi := fi44, wins := [], body := Try.f44.body.getD .skip, res := Try.f44.results.toList, keep := false }
def fi45 : Fi := { nt := 8, prom := [], lives := [(0, [0]), (1, [0, 4]), (2, [2]), (3, [2])] }
noncomputable def F45 : Fn := { fi := fi45, wins := [], body := Try.f45.body.getD .skip, res := Try.f45.results.toList, keep := true }
def fi46 : Fi := { nt := 69, prom := [3, 4, 5, 6], lives := [(0, [0, 3]), (1, [0, 3, 4]), (2, [0, 3, 4, 5]), (3, [0, 3, 4, 5, 15]), (4, [0, 3, 5]), (5, [0, 3, 5, 28]), (6, [0, 3, 5, 44]), (7, [0, 3]), (8, [0, 3, 6, 7]), (9, [0, 3, 6, 58]), (10, [0, 3, 6]), (11, [])] }
noncomputable def F46 : Fn := { fi := fi46, wins := [(4, [], [(1, 0, 1)])], body := Try.f46.body.getD .skip, res := Try.f46.results.toList, keep := true }
def fi47 : Fi := { nt := 20, prom := [4, 5, 6], lives := [(0, [0, 4, 5, 6]), (1, [4, 5, 6, 9]), (2, [6, 7]), (3, [6, 7])] }
noncomputable def F47 : Fn := { fi := fi47, wins := [], body := Try.f47.body.getD .skip, res := Try.f47.results.toList, keep := true }
def fi48 : Fi := { nt := 37, prom := [4, 7], lives := [(0, [0, 2, 4]), (1, [0, 4, 8, 9, 10]), (2, [0, 4, 8, 9, 10, 11]), (3, [0, 4, 7, 8, 9, 10]), (4, [0, 4, 7, 8, 9, 10, 25]), (5, [0, 4, 8, 9, 10]), (6, [0, 4, 8, 9, 10])] }
noncomputable def F48 : Fn := { fi := fi48, wins := [], body := Try.f48.body.getD .skip, res := Try.f48.results.toList, keep := true }
def fi49 : Fi := { nt := 35, prom := [2, 7], lives := [(0, [1, 2]), (1, [1, 2, 5]), (2, [1, 5, 9, 10, 11]), (3, [1, 5, 9, 10, 11, 12]), (4, [1, 5, 7, 9, 10, 11]), (5, [1, 5, 7, 9, 10, 11, 28]), (6, [1, 5, 9, 10, 11]), (7, [1, 5, 9, 10, 11]), (8, [4])] }
noncomputable def F49 : Fn := { fi := fi49, wins := [], body := Try.f49.body.getD .skip, res := Try.f49.results.toList, keep := true }
def fi50 : Fi := { nt := 15, prom := [1], lives := [(0, [1]), (1, [2])] }
noncomputable def F50 : Fn := { fi := fi50, wins := [], body := Try.f50.body.getD .skip, res := Try.f50.results.toList, keep := false }
def fi51 : Fi := { nt := 15, prom := [1], lives := [(0, [1]), (1, [2])] }
noncomputable def F51 : Fn := { fi := fi51, wins := [], body := Try.f51.body.getD .skip, res := Try.f51.results.toList, keep := false }
def fi52 : Fi := { nt := 40, prom := [3, 5], lives := [(0, [1, 2, 3]), (1, [1, 2, 3, 5, 6]), (2, [1, 2, 3, 5, 6, 25]), (3, [1, 5, 6]), (4, [4])] }
noncomputable def F52 : Fn := { fi := fi52, wins := [], body := Try.f52.body.getD .skip, res := Try.f52.results.toList, keep := true }
def fi53 : Fi := { nt := 9, prom := [3], lives := [(0, [0, 3]), (1, [4])] }
noncomputable def F53 : Fn := { fi := fi53, wins := [], body := Try.f53.body.getD .skip, res := Try.f53.results.toList, keep := false }
def fi54 : Fi := { nt := 87, prom := [2, 10], lives := [(0, [1, 2]), (1, [1, 2, 5]), (2, [1, 2, 5, 14]), (3, [1, 2, 5, 14, 15]), (4, [1, 2, 5, 6, 14]), (5, [1, 2, 5, 6, 14, 20]), (6, [1, 2, 5, 6, 14, 21, 22, 23]), (7, [1, 2, 5, 6, 14, 21, 22, 23, 24]), (8, [1, 2, 5, 6, 8, 14, 21, 22, 23]), (9, [1, 2, 5, 6, 14, 21, 22, 23]), (10, [1, 2, 5, 6, 14, 21, 22, 23]), (11, [1, 2, 5, 6, 14, 36, 37, 38]), (12, [1, 2, 5, 6, 14, 36, 37, 38, 39]), (13, [1, 2, 5, 6, 10, 14, 36, 37, 38]), (14, [1, 2, 5, 6, 14, 36, 37, 38]), (15, [1, 2, 5, 6, 14, 36, 37, 38]), (16, [1, 2, 5, 14]), (17, [1, 2, 5, 14]), (18, [1, 2, 5]), (19, [1, 2, 5, 62]), (20, [1, 2, 5, 62, 63]), (21, [1, 2, 5, 11, 62]), (22, [1, 2, 5, 11, 62, 65, 66, 67]), (23, [1, 2, 5, 11, 62, 65, 66, 67, 68]), (24, [1, 2, 5, 11, 13, 62, 65, 66, 67]), (25, [1, 2, 5, 11, 62, 65, 66, 67]), (26, [1, 2, 5, 11, 62, 65, 66, 67]), (27, [1, 2, 5, 62]), (28, [4])] }
noncomputable def F54 : Fn := { fi := fi54, wins := [], body := Try.f54.body.getD .skip, res := Try.f54.results.toList, keep := true }
def fi55 : Fi := { nt := 33, prom := [], lives := [(0, [0, 1, 2]), (1, [0, 1, 2]), (2, [0, 1, 2, 16]), (3, [6]), (4, [0, 1, 2, 7]), (5, [0, 7]), (6, [0]), (7, [6])] }
noncomputable def F55 : Fn := { fi := fi55, wins := [], body := Try.f55.body.getD .skip, res := Try.f55.results.toList, keep := true }
def fi56 : Fi := { nt := 67, prom := [3, 7, 8], lives := [(0, [1, 2, 3]), (1, [1, 2, 3, 18]), (2, [6]), (3, [1, 2, 3]), (4, [1, 2, 3, 7]), (5, [1, 2, 3, 7, 8, 9]), (6, [1, 2, 3, 7, 8, 9, 40]), (7, [1, 2, 3, 7, 8, 9]), (8, [1, 2, 3, 7, 8, 9, 42]), (9, [1, 2, 3, 9]), (10, [1, 2, 3, 9, 10]), (11, [1, 2, 3, 9, 10, 54]), (12, [1, 2, 3, 9, 10]), (13, [1, 2, 3, 9, 10]), (14, [6])] }
noncomputable def F56 : Fn := { fi := fi56, wins := [], body := Try.f56.body.getD .skip, res := Try.f56.results.toList, keep := true }
def fi57 : Fi := { nt := 46, prom := [3, 9], lives := [(0, [0, 3]), (1, [0, 3, 6]), (2, [0, 3, 6, 7]), (3, [0, 6, 7, 18, 19, 20]), (4, [0, 6, 7, 18, 19, 20, 21]), (5, [0, 6, 7, 8, 9, 18, 19, 20]), (6, [0, 6, 7, 8, 10, 11, 18, 19, 20]), (7, [0, 6, 7, 8, 10, 11, 18, 19, 20, 32]), (8, [4, 5]), (9, [0, 6, 7, 18, 19, 20]), (10, [0, 6, 7, 18, 19, 20]), (11, [4, 5])] }
noncomputable def F57 : Fn := { fi := fi57, wins := [], body := Try.f57.body.getD .skip, res := Try.f57.results.toList, keep := true }
def fi58 : Fi := { nt := 33, prom := [5], lives := [(0, [0, 1, 11, 12, 13]), (1, [0, 1, 11, 12, 13, 14]), (2, [0, 1, 5, 11, 12, 13]), (3, [0, 1, 11, 12, 13]), (4, [0, 1, 11, 12, 13]), (5, [])] }
noncomputable def F58 : Fn := { fi := fi58, wins := [], body := Try.f58.body.getD .skip, res := Try.f58.results.toList, keep := true }
def fi59 : Fi := { nt := 12, prom := [4], lives := [(0, [0, 1, 4]), (1, [4])] }
noncomputable def F59 : Fn := { fi := fi59, wins := [], body := Try.f59.body.getD .skip, res := Try.f59.results.toList, keep := true }
def fi60 : Fi := { nt := 16, prom := [5, 6], lives := [(0, [0, 1, 5, 6]), (1, [0, 1, 5, 6, 7]), (2, [0, 5, 6, 7, 8]), (3, [0, 5, 6, 7]), (4, [6])] }
noncomputable def F60 : Fn := { fi := fi60, wins := [], body := Try.f60.body.getD .skip, res := Try.f60.results.toList, keep := true }
def fi61 : Fi := { nt := 9, prom := [3, 4], lives := [(0, [0, 3, 4]), (1, [4])] }
noncomputable def F61 : Fn := { fi := fi61, wins := [], body := Try.f61.body.getD .skip, res := Try.f61.results.toList, keep := true }
def fi62 : Fi := { nt := 9, prom := [2, 3, 4], lives := [(0, [2, 3, 4]), (1, [4])] }
noncomputable def F62 : Fn := { fi := fi62, wins := [], body := Try.f62.body.getD .skip, res := Try.f62.results.toList, keep := true }
def fi63 : Fi := { nt := 5, prom := [2], lives := [(0, [0, 2]), (1, [2])] }
noncomputable def F63 : Fn := { fi := fi63, wins := [], body := Try.f63.body.getD .skip, res := Try.f63.results.toList, keep := true }
def fi64 : Fi := { nt := 5, prom := [2], lives := [(0, [0, 2]), (1, [2])] }
noncomputable def F64 : Fn := { fi := fi64, wins := [], body := Try.f64.body.getD .skip, res := Try.f64.results.toList, keep := true }
def fi65 : Fi := { nt := 20, prom := [], lives := [(0, [0, 1]), (1, [4])] }
noncomputable def F65 : Fn := { fi := fi65, wins := [], body := Try.f65.body.getD .skip, res := Try.f65.results.toList, keep := true }
def fi66 : Fi := { nt := 19, prom := [], lives := [(0, [0, 1]), (1, [0, 1, 7, 8]), (2, [0, 1, 7, 8, 9]), (3, [0, 1, 5, 7, 8]), (4, [0, 1, 5, 7, 8, 16]), (5, [4]), (6, [0, 1, 7, 8]), (7, [4])] }
noncomputable def F66 : Fn := { fi := fi66, wins := [], body := Try.f66.body.getD .skip, res := Try.f66.results.toList, keep := false }
def fi67 : Fi := { nt := 37, prom := [6], lives := [(0, [0, 1, 2, 3, 7]), (1, [0, 1, 2, 3, 18]), (2, [0, 2]), (3, [])] }
noncomputable def F67 : Fn := { fi := fi67, wins := [(3, [], [(0, 0, 1)])], body := Try.f67.body.getD .skip, res := Try.f67.results.toList, keep := true }
def fi68 : Fi := { nt := 86, prom := [3, 7], lives := [(0, [0, 3]), (1, [0, 3, 7, 8]), (2, [0, 3, 7, 8, 39]), (3, [0, 3, 7, 8]), (4, [0, 3, 7, 8, 41]), (5, [0, 3, 7, 8]), (6, [0, 3, 7, 8, 46]), (7, [4, 5, 6]), (8, [0, 3, 7, 9, 10]), (9, [0, 9, 10, 55, 56, 57]), (10, [0, 9, 10, 55, 56, 57, 58]), (11, [0, 9, 10, 12, 55, 56, 57]), (12, [0, 9, 10, 12, 55, 56, 57, 64]), (13, [4, 5, 6]), (14, [0, 9, 10, 12, 55, 56, 57]), (15, [0, 9, 10, 55, 56, 57]), (16, [0, 9, 10, 55, 56, 57]), (17, [9, 10]), (18, [9, 10, 83]), (19, [4, 5, 6]), (20, [4, 5, 6])] }
noncomputable def F68 : Fn := { fi := fi68, wins := [], body := Try.f68.body.getD .skip, res := Try.f68.results.toList, keep := true }
def fi69 : Fi := { nt := 109, prom := [11, 13], lives := [(0, [0, 1, 2, 3, 4, 5]), (1, [0, 1, 2, 3, 4, 5, 9, 10]), (2, [0, 1, 2, 3, 4, 5, 9, 25]), (3, [7, 8]), (4, [0, 1, 2, 3, 4, 5, 11]), (5, [0, 1, 2, 3, 4, 5, 11, 12]), (6, [0, 1, 2, 3, 4, 5, 11, 12, 13, 14]), (7, [0, 1, 2, 3, 4, 5, 11, 12, 13, 42]), (8, [0, 1, 2, 4, 5, 11, 12, 13]), (9, [0, 1, 2, 4, 5, 11, 12, 13, 48]), (10, [0, 1, 2, 5, 11, 12]), (11, [0, 1, 2, 3, 4, 5, 11, 12, 57]), (12, [0, 1, 2, 4, 5, 11, 15, 16, 17, 18]), (13, [0, 1, 2, 4, 5, 11, 12, 15, 16, 17]), (14, [0, 1, 2, 4, 5, 11, 12, 15, 16, 68]), (15, [0, 1, 2, 4, 5, 11, 12, 15, 16]), (16, [0, 1, 2, 4, 5, 11, 12, 15, 16, 74]), (17, [0, 1, 2, 4, 5, 11, 12, 16]), (18, [0, 1, 2, 4, 5, 11, 12, 16, 86]), (19, [0, 1, 2, 5, 11, 12]), (20, [0, 1, 2, 5, 11, 95]), (21, []), (22, [7, 8]), (23, [0, 1, 5, 11]), (24, [0, 1]), (25, [7, 8])] }
noncomputable def F69 : Fn := { fi := fi69, wins := [], body := Try.f69.body.getD .skip, res := Try.f69.results.toList, keep := true }
def fi70 : Fi := { nt := 66, prom := [8], lives := [(0, [0, 1]), (1, [0, 8, 9]), (2, [0, 8, 22]), (3, [4, 5, 6, 7]), (4, [0, 8, 10]), (5, [0, 8, 10, 26]), (6, [0, 8, 10, 26, 27]), (7, [0, 8, 10, 26, 27]), (8, [0, 8, 10, 26, 27]), (9, [4, 5, 6, 7]), (10, [0, 8, 10, 26, 31]), (11, [4, 5, 6, 7]), (12, [0, 8, 10, 26, 37]), (13, [4, 5, 6, 7]), (14, [0, 8, 10, 26, 41]), (15, [4, 5, 6, 7]), (16, [0, 8, 10, 43]), (17, [0, 8, 10]), (18, [0, 8, 9, 11]), (19, [4, 5, 6, 7])] }
noncomputable def F70 : Fn := { fi := fi70, wins := [(19, [], [(1, 0, 1)])], body := Try.f70.body.getD .skip, res := Try.f70.results.toList, keep := true }
def fi71 : Fi := { nt := 19, prom := [], lives := [(0, [0, 1]), (1, [0, 1, 7, 8]), (2, [0, 1, 7, 8, 9]), (3, [0, 1, 5, 7, 8]), (4, [0, 1, 5, 7, 8, 16]), (5, [4]), (6, [0, 1, 7, 8]), (7, [4])] }
noncomputable def F71 : Fn := { fi := fi71, wins := [], body := Try.f71.body.getD .skip, res := Try.f71.results.toList, keep := true }
def fi72 : Fi := { nt := 59, prom := [2, 3, 4, 7], lives := [(0, [2, 3, 4]), (1, [2, 3, 4, 10]), (2, [4, 5]), (3, [2, 3, 4, 14]), (4, [2, 3, 4, 30]), (5, [4, 5]), (6, [2, 4]), (7, [4, 5]), (8, [2, 3, 4, 41, 42, 43]), (9, [2, 3, 4, 41, 42, 43, 44]), (10, [2, 3, 4, 7, 41, 42, 43]), (11, [2, 3, 4, 7, 41, 42, 43, 50]), (12, [4, 5]), (13, [2, 3, 4, 41, 42, 43]), (14, [4, 5])] }
noncomputable def F72 : Fn := { fi := fi72, wins := [(6, [], [(1, 0, 1)]), (7, [], [(0, 0, 2)]), (12, [], [(4, 0, 1)])], body := Try.f72.body.getD .skip, res := Try.f72.results.toList, keep := true }
def fi73 : Fi := { nt := 54, prom := [2, 3, 4], lives := [(0, [2, 3, 4]), (1, [2, 3, 4, 6]), (2, [2, 3, 4, 10]), (3, [4, 5]), (4, [2, 3, 4, 20]), (5, [2, 3, 4, 26]), (6, [4, 5]), (7, [2, 3, 4, 34]), (8, [2, 4]), (9, [4, 5])] }
noncomputable def F73 : Fn := { fi := fi73, wins := [], body := Try.f73.body.getD .skip, res := Try.f73.results.toList, keep := true }
def fi74 : Fi := { nt := 19, prom := [3], lives := [(0, [0, 3]), (1, [0, 3, 7, 8]), (2, [0, 3, 7, 8, 9]), (3, [0, 3, 5, 7, 8]), (4, [0, 3, 5, 7, 8, 16]), (5, [4]), (6, [0, 3, 7, 8]), (7, [4])] }
noncomputable def F74 : Fn := { fi := fi74, wins := [], body := Try.f74.body.getD .skip, res := Try.f74.results.toList, keep := false }
def fi75 : Fi := { nt := 56, prom := [2, 6, 8, 11], lives := [(0, [1, 2]), (1, [1, 2, 5]), (2, [1, 5, 6]), (3, [5, 6, 17]), (4, [5, 19, 20, 21]), (5, [5, 19, 20, 21, 22]), (6, [5, 8, 19, 20, 21]), (7, [5, 8, 19, 20, 21, 27]), (8, [5, 19, 20, 21]), (9, [5, 19, 20, 21]), (10, [4]), (11, [5, 6, 35, 36, 37]), (12, [5, 6, 35, 36, 37, 38]), (13, [5, 6, 10, 35, 36, 37]), (14, [5, 6, 10, 11, 35, 36, 37]), (15, [5, 6, 11, 35, 36, 37, 48]), (16, [5, 6, 11, 35, 36, 37]), (17, [5, 6, 35, 36, 37]), (18, [5, 6, 35, 36, 37]), (19, [4])] }
noncomputable def F75 : Fn := { fi := fi75, wins := [], body := Try.f75.body.getD .skip, res := Try.f75.results.toList, keep := true }
def fi76 : Fi := { nt := 14, prom := [1, 2], lives := [(0, [1, 2]), (1, [2])] }
noncomputable def F76 : Fn := { fi := fi76, wins := [], body := Try.f76.body.getD .skip, res := Try.f76.results.toList, keep := false }
def fi77 : Fi := { nt := 56, prom := [1, 2, 4], lives := [(0, [1, 2]), (1, [1, 2, 4, 5]), (2, [2, 4, 53]), (3, [2, 3]), (4, [2, 3])] }
noncomputable def F77 : Fn := { fi := fi77, wins := [], body := Try.f77.body.getD .skip, res := Try.f77.results.toList, keep := false }
def fi78 : Fi := { nt := 34, prom := [2, 3], lives := [(0, [2, 3]), (1, [2, 3, 5]), (2, [3, 5]), (3, [4]), (4, [29]), (5, [4]), (6, [4])] }
noncomputable def F78 : Fn := { fi := fi78, wins := [], body := Try.f78.body.getD .skip, res := Try.f78.results.toList, keep := false }
def fi79 : Fi := { nt := 18, prom := [], lives := [(0, [0, 1]), (1, [0, 1, 8]), (2, [4]), (3, [4])] }
noncomputable def F79 : Fn := { fi := fi79, wins := [], body := Try.f79.body.getD .skip, res := Try.f79.results.toList, keep := true }
def fi80 : Fi := { nt := 18, prom := [], lives := [(0, [0, 1]), (1, [0, 1, 8]), (2, [4]), (3, [4])] }
noncomputable def F80 : Fn := { fi := fi80, wins := [], body := Try.f80.body.getD .skip, res := Try.f80.results.toList, keep := true }
def fi81 : Fi := { nt := 21, prom := [3], lives := [(0, [0, 3]), (1, [0, 3, 9]), (2, [4, 5]), (3, [6, 7]), (4, [4, 5])] }
noncomputable def F81 : Fn := { fi := fi81, wins := [], body := Try.f81.body.getD .skip, res := Try.f81.results.toList, keep := true }
def fi82 : Fi := { nt := 19, prom := [5], lives := [(0, [0, 1]), (1, [0, 1, 8]), (2, [4]), (3, [6]), (4, [4])] }
noncomputable def F82 : Fn := { fi := fi82, wins := [], body := Try.f82.body.getD .skip, res := Try.f82.results.toList, keep := true }
def fi83 : Fi := { nt := 16, prom := [1], lives := [(0, [1]), (1, [1, 4]), (2, [1, 4, 5]), (3, [2]), (4, [1, 4, 7]), (5, [1, 7]), (6, [2]), (7, [2])] }
noncomputable def F83 : Fn := { fi := fi83, wins := [], body := Try.f83.body.getD .skip, res := Try.f83.results.toList, keep := true }
def fi84 : Fi := { nt := 11, prom := [2, 4], lives := [(0, [1, 2, 4]), (1, [4])] }
noncomputable def F84 : Fn := { fi := fi84, wins := [], body := Try.f84.body.getD .skip, res := Try.f84.results.toList, keep := false }
def fi85 : Fi := { nt := 67, prom := [1, 3, 4], lives := [(0, [1]), (1, [1, 3]), (2, [1, 3, 4]), (3, [1, 3, 4, 5]), (4, [1, 3, 4, 5, 15]), (5, [1, 3, 4, 5, 15, 16]), (6, [2]), (7, [1, 3, 4, 5, 15, 26]), (8, [2]), (9, [1, 3, 4, 5, 15, 39]), (10, [2]), (11, [1, 4, 5, 50]), (12, [1, 5]), (13, [5]), (14, [2])] }
noncomputable def F85 : Fn := { fi := fi85, wins := [(6, [], [(2, 0, 1), (5, 0, 2)]), (8, [], [(2, 0, 1), (5, 0, 2), (8, 0, 3)]), (10, [], [(0, 0, 2), (5, 0, 1)]), (13, [], [(4, 0, 1)])], body := Try.f85.body.getD .skip, res := Try.f85.results.toList, keep := true }
def fi86 : Fi := { nt := 29, prom := [3, 4, 5], lives := [(0, [3, 4, 5]), (1, [3, 4, 5, 8]), (2, [6]), (3, [6])] }
noncomputable def F86 : Fn := { fi := fi86, wins := [], body := Try.f86.body.getD .skip, res := Try.f86.results.toList, keep := false }
def fi87 : Fi := { nt := 15, prom := [2, 3, 4], lives := [(0, [2, 3, 4]), (1, [2, 3, 4]), (2, [2, 3, 4, 10]), (3, [3, 4]), (4, [4])] }
noncomputable def F87 : Fn := { fi := fi87, wins := [], body := Try.f87.body.getD .skip, res := Try.f87.results.toList, keep := false }
def fi88 : Fi := { nt := 65, prom := [2, 3, 4], lives := [(0, [2, 3, 4]), (1, [2, 3, 4, 6]), (2, [2, 3, 4, 6, 11]), (3, [2, 3, 4, 6, 11, 12]), (4, [2, 3, 4, 6, 11, 14]), (5, [2, 3, 4, 6, 11, 16]), (6, [2, 4, 6, 18]), (7, [2, 4, 21]), (8, [4, 5]), (9, [2, 3, 4, 6, 27]), (10, [2, 3, 4, 6, 27, 28]), (11, [4, 5]), (12, [2, 3, 4, 6, 33]), (13, [4, 5]), (14, [2, 3, 4, 6, 37]), (15, [4, 5]), (16, [2, 4, 46]), (17, [4, 5]), (18, [2, 4, 59]), (19, [4, 5]), (20, [4, 5])] }
noncomputable def F88 : Fn := { fi := fi88, wins := [(8, [], [(2, 0, 1)]), (15, [], [(3, 0, 1)]), (17, [], [(0, 0, 2)]), (19, [], [(0, 0, 2)])], body := Try.f88.body.getD .skip, res := Try.f88.results.toList, keep := true }
def fi89 : Fi := { nt := 22, prom := [1, 2], lives := [(0, [1, 2]), (1, [1, 2, 5]), (2, [1, 2, 5, 6]), (3, [2, 3]), (4, [1, 2, 5, 10]), (5, [1, 2, 10]), (6, [2, 3]), (7, [2, 3])] }
noncomputable def F89 : Fn := { fi := fi89, wins := [(6, [], [(3, 0, 1), (5, 0, 1)])], body := Try.f89.body.getD .skip, res := Try.f89.results.toList, keep := true }
def fi90 : Fi := { nt := 32, prom := [1, 5], lives := [(0, [1]), (1, [1, 8]), (2, [2]), (3, [1, 3]), (4, [1, 3, 10, 11, 12]), (5, [1, 3, 10, 11, 12, 13]), (6, [1, 3, 5, 10, 11, 12]), (7, [1, 3, 5, 10, 11, 12, 17]), (8, [1, 3, 10, 11, 12]), (9, [1, 3, 10, 11, 12]), (10, [1, 3, 10, 11, 12]), (11, [2])] }
noncomputable def F90 : Fn := { fi := fi90, wins := [], body := Try.f90.body.getD .skip, res := Try.f90.results.toList, keep := true }
def fi91 : Fi := { nt := 14, prom := [2], lives := [(0, [0, 2]), (1, [0, 2, 9]), (2, [2, 3]), (3, [2, 3])] }
noncomputable def F91 : Fn := { fi := fi91, wins := [], body := Try.f91.body.getD .skip, res := Try.f91.results.toList, keep := false }
def fi92 : Fi := { nt := 9, prom := [], lives := [(0, [0]), (1, [2])] }
noncomputable def F92 : Fn := { fi := fi92, wins := [], body := Try.f92.body.getD .skip, res := Try.f92.results.toList, keep := false }
def fi93 : Fi := { nt := 6, prom := [1, 2], lives := [(0, [1, 2]), (1, [2])] }
noncomputable def F93 : Fn := { fi := fi93, wins := [], body := Try.f93.body.getD .skip, res := Try.f93.results.toList, keep := false }
def fi94 : Fi := { nt := 36, prom := [2, 3], lives := [(0, [2, 3]), (1, [2, 3, 18]), (2, [4]), (3, [2, 3, 19]), (4, [2, 3, 19, 20]), (5, [2, 3, 19, 20]), (6, [2, 3, 19, 20]), (7, [3, 20]), (8, [4]), (9, [4])] }
noncomputable def F94 : Fn := { fi := fi94, wins := [], body := Try.f94.body.getD .skip, res := Try.f94.results.toList, keep := false }
def fi95 : Fi := { nt := 8, prom := [2, 4], lives := [(0, [1, 2, 4]), (1, [2, 4]), (2, [4])] }
noncomputable def F95 : Fn := { fi := fi95, wins := [], body := Try.f95.body.getD .skip, res := Try.f95.results.toList, keep := false }
def fi96 : Fi := { nt := 9, prom := [3], lives := [(0, [0, 3]), (1, [4])] }
noncomputable def F96 : Fn := { fi := fi96, wins := [], body := Try.f96.body.getD .skip, res := Try.f96.results.toList, keep := true }
def fi97 : Fi := { nt := 11, prom := [2, 4], lives := [(0, [1, 2, 4]), (1, [4])] }
noncomputable def F97 : Fn := { fi := fi97, wins := [], body := Try.f97.body.getD .skip, res := Try.f97.results.toList, keep := false }
def fi98 : Fi := { nt := 9, prom := [2, 3, 4], lives := [(0, [2, 3, 4]), (1, [2, 4]), (2, [4])] }
noncomputable def F98 : Fn := { fi := fi98, wins := [(1, [], [(0, 0, 1)])], body := Try.f98.body.getD .skip, res := Try.f98.results.toList, keep := false }
def fi99 : Fi := { nt := 15, prom := [1], lives := [(0, [1]), (1, [2])] }
noncomputable def F99 : Fn := { fi := fi99, wins := [], body := Try.f99.body.getD .skip, res := Try.f99.results.toList, keep := false }
def fi100 : Fi := { nt := 11, prom := [0], lives := [(0, [0]), (1, [0])] }
noncomputable def F100 : Fn := { fi := fi100, wins := [], body := Try.f100.body.getD .skip, res := Try.f100.results.toList, keep := false }
noncomputable def FT (n : Nat) : Option Fn := (cond (Nat.blt n 51) (cond (Nat.blt n 26) (cond (Nat.blt n 14) (cond (Nat.blt n 8) (cond (Nat.blt n 5) (cond (Nat.blt n 3) (cond (Nat.beq n 2) (some F2) none) (cond (Nat.blt n 4) (cond (Nat.beq n 3) (some F3) none) (cond (Nat.beq n 4) (some F4) none))) (cond (Nat.blt n 6) (cond (Nat.beq n 5) (some F5) none) (cond (Nat.blt n 7) (cond (Nat.beq n 6) (some F6) none) (cond (Nat.beq n 7) (some F7) none)))) (cond (Nat.blt n 11) (cond (Nat.blt n 9) (cond (Nat.beq n 8) (some F8) none) (cond (Nat.blt n 10) (cond (Nat.beq n 9) (some F9) none) (cond (Nat.beq n 10) (some F10) none))) (cond (Nat.blt n 12) (cond (Nat.beq n 11) (some F11) none) (cond (Nat.blt n 13) (cond (Nat.beq n 12) (some F12) none) (cond (Nat.beq n 13) (some F13) none))))) (cond (Nat.blt n 20) (cond (Nat.blt n 17) (cond (Nat.blt n 15) (cond (Nat.beq n 14) (some F14) none) (cond (Nat.blt n 16) (cond (Nat.beq n 15) (some F15) none) (cond (Nat.beq n 16) (some F16) none))) (cond (Nat.blt n 18) (cond (Nat.beq n 17) (some F17) none) (cond (Nat.blt n 19) (cond (Nat.beq n 18) (some F18) none) (cond (Nat.beq n 19) (some F19) none)))) (cond (Nat.blt n 23) (cond (Nat.blt n 21) (cond (Nat.beq n 20) (some F20) none) (cond (Nat.blt n 22) (cond (Nat.beq n 21) (some F21) none) (cond (Nat.beq n 22) (some F22) none))) (cond (Nat.blt n 24) (cond (Nat.beq n 23) (some F23) none) (cond (Nat.blt n 25) (cond (Nat.beq n 24) (some F24) none) (cond (Nat.beq n 25) (some F25) none)))))) (cond (Nat.blt n 38) (cond (Nat.blt n 32) (cond (Nat.blt n 29) (cond (Nat.blt n 27) (cond (Nat.beq n 26) (some F26) none) (cond (Nat.blt n 28) (cond (Nat.beq n 27) (some F27) none) (cond (Nat.beq n 28) (some F28) none))) (cond (Nat.blt n 30) (cond (Nat.beq n 29) (some F29) none) (cond (Nat.blt n 31) (cond (Nat.beq n 30) (some F30) none) (cond (Nat.beq n 31) (some F31) none)))) (cond (Nat.blt n 35) (cond (Nat.blt n 33) (cond (Nat.beq n 32) (some F32) none) (cond (Nat.blt n 34) (cond (Nat.beq n 33) (some F33) none) (cond (Nat.beq n 34) (some F34) none))) (cond (Nat.blt n 36) (cond (Nat.beq n 35) (some F35) none) (cond (Nat.blt n 37) (cond (Nat.beq n 36) (some F36) none) (cond (Nat.beq n 37) (some F37) none))))) (cond (Nat.blt n 44) (cond (Nat.blt n 41) (cond (Nat.blt n 39) (cond (Nat.beq n 38) (some F38) none) (cond (Nat.blt n 40) (cond (Nat.beq n 39) (some F39) none) (cond (Nat.beq n 40) (some F40) none))) (cond (Nat.blt n 42) (cond (Nat.beq n 41) (some F41) none) (cond (Nat.blt n 43) (cond (Nat.beq n 42) (some F42) none) (cond (Nat.beq n 43) (some F43) none)))) (cond (Nat.blt n 47) (cond (Nat.blt n 45) (cond (Nat.beq n 44) (some F44) none) (cond (Nat.blt n 46) (cond (Nat.beq n 45) (some F45) none) (cond (Nat.beq n 46) (some F46) none))) (cond (Nat.blt n 49) (cond (Nat.blt n 48) (cond (Nat.beq n 47) (some F47) none) (cond (Nat.beq n 48) (some F48) none)) (cond (Nat.blt n 50) (cond (Nat.beq n 49) (some F49) none) (cond (Nat.beq n 50) (some F50) none))))))) (cond (Nat.blt n 76) (cond (Nat.blt n 63) (cond (Nat.blt n 57) (cond (Nat.blt n 54) (cond (Nat.blt n 52) (cond (Nat.beq n 51) (some F51) none) (cond (Nat.blt n 53) (cond (Nat.beq n 52) (some F52) none) (cond (Nat.beq n 53) (some F53) none))) (cond (Nat.blt n 55) (cond (Nat.beq n 54) (some F54) none) (cond (Nat.blt n 56) (cond (Nat.beq n 55) (some F55) none) (cond (Nat.beq n 56) (some F56) none)))) (cond (Nat.blt n 60) (cond (Nat.blt n 58) (cond (Nat.beq n 57) (some F57) none) (cond (Nat.blt n 59) (cond (Nat.beq n 58) (some F58) none) (cond (Nat.beq n 59) (some F59) none))) (cond (Nat.blt n 61) (cond (Nat.beq n 60) (some F60) none) (cond (Nat.blt n 62) (cond (Nat.beq n 61) (some F61) none) (cond (Nat.beq n 62) (some F62) none))))) (cond (Nat.blt n 69) (cond (Nat.blt n 66) (cond (Nat.blt n 64) (cond (Nat.beq n 63) (some F63) none) (cond (Nat.blt n 65) (cond (Nat.beq n 64) (some F64) none) (cond (Nat.beq n 65) (some F65) none))) (cond (Nat.blt n 67) (cond (Nat.beq n 66) (some F66) none) (cond (Nat.blt n 68) (cond (Nat.beq n 67) (some F67) none) (cond (Nat.beq n 68) (some F68) none)))) (cond (Nat.blt n 72) (cond (Nat.blt n 70) (cond (Nat.beq n 69) (some F69) none) (cond (Nat.blt n 71) (cond (Nat.beq n 70) (some F70) none) (cond (Nat.beq n 71) (some F71) none))) (cond (Nat.blt n 74) (cond (Nat.blt n 73) (cond (Nat.beq n 72) (some F72) none) (cond (Nat.beq n 73) (some F73) none)) (cond (Nat.blt n 75) (cond (Nat.beq n 74) (some F74) none) (cond (Nat.beq n 75) (some F75) none)))))) (cond (Nat.blt n 88) (cond (Nat.blt n 82) (cond (Nat.blt n 79) (cond (Nat.blt n 77) (cond (Nat.beq n 76) (some F76) none) (cond (Nat.blt n 78) (cond (Nat.beq n 77) (some F77) none) (cond (Nat.beq n 78) (some F78) none))) (cond (Nat.blt n 80) (cond (Nat.beq n 79) (some F79) none) (cond (Nat.blt n 81) (cond (Nat.beq n 80) (some F80) none) (cond (Nat.beq n 81) (some F81) none)))) (cond (Nat.blt n 85) (cond (Nat.blt n 83) (cond (Nat.beq n 82) (some F82) none) (cond (Nat.blt n 84) (cond (Nat.beq n 83) (some F83) none) (cond (Nat.beq n 84) (some F84) none))) (cond (Nat.blt n 86) (cond (Nat.beq n 85) (some F85) none) (cond (Nat.blt n 87) (cond (Nat.beq n 86) (some F86) none) (cond (Nat.beq n 87) (some F87) none))))) (cond (Nat.blt n 94) (cond (Nat.blt n 91) (cond (Nat.blt n 89) (cond (Nat.beq n 88) (some F88) none) (cond (Nat.blt n 90) (cond (Nat.beq n 89) (some F89) none) (cond (Nat.beq n 90) (some F90) none))) (cond (Nat.blt n 92) (cond (Nat.beq n 91) (some F91) none) (cond (Nat.blt n 93) (cond (Nat.beq n 92) (some F92) none) (cond (Nat.beq n 93) (some F93) none)))) (cond (Nat.blt n 97) (cond (Nat.blt n 95) (cond (Nat.beq n 94) (some F94) none) (cond (Nat.blt n 96) (cond (Nat.beq n 95) (some F95) none) (cond (Nat.beq n 96) (some F96) none))) (cond (Nat.blt n 99) (cond (Nat.blt n 98) (cond (Nat.beq n 97) (some F97) none) (cond (Nat.beq n 98) (some F98) none)) (cond (Nat.blt n 100) (cond (Nat.beq n 99) (some F99) none) (cond (Nat.beq n 100) (some F100) none))))))))
set_option maxRecDepth 100000
theorem ok2 : FnOk Try.prog 2 F2 := ⟨⟨Try.f2, by kernel_rfl, by kernel_rfl, by decide, by kernel_rfl, by kernel_rfl⟩, by kernel_rfl⟩
theorem ok3 : FnOk Try.prog 3 F3 := ⟨⟨Try.f3, by kernel_rfl, by kernel_rfl, by decide, by kernel_rfl, by kernel_rfl⟩, by kernel_rfl⟩
theorem ok4 : FnOk Try.prog 4 F4 := ⟨⟨Try.f4, by kernel_rfl, by kernel_rfl, by decide, by kernel_rfl, by kernel_rfl⟩, by kernel_rfl⟩
theorem ok5 : FnOk Try.prog 5 F5 := ⟨⟨Try.f5, by kernel_rfl, by kernel_rfl, by decide, by kernel_rfl, by kernel_rfl⟩, by kernel_rfl⟩
theorem ok6 : FnOk Try.prog 6 F6 := ⟨⟨Try.f6, by kernel_rfl, by kernel_rfl, by decide, by kernel_rfl, by kernel_rfl⟩, by kernel_rfl⟩
theorem ok7 : FnOk Try.prog 7 F7 := ⟨⟨Try.f7, by kernel_rfl, by kernel_rfl, by decide, by kernel_rfl, by kernel_rfl⟩, by kernel_rfl⟩
theorem ok8 : FnOk Try.prog 8 F8 := ⟨⟨Try.f8, by kernel_rfl, by kernel_rfl, by decide, by kernel_rfl, by kernel_rfl⟩, by kernel_rfl⟩
theorem ok9 : FnOk Try.prog 9 F9 := ⟨⟨Try.f9, by kernel_rfl, by kernel_rfl, by decide, by kernel_rfl, by kernel_rfl⟩, by kernel_rfl⟩
theorem ok10 : FnOk Try.prog 10 F10 := ⟨⟨Try.f10, by kernel_rfl, by kernel_rfl, by decide, by kernel_rfl, by kernel_rfl⟩, by kernel_rfl⟩
theorem ok11 : FnOk Try.prog 11 F11 := ⟨⟨Try.f11, by kernel_rfl, by kernel_rfl, by decide, by kernel_rfl, by kernel_rfl⟩, by kernel_rfl⟩
theorem ok12 : FnOk Try.prog 12 F12 := ⟨⟨Try.f12, by kernel_rfl, by kernel_rfl, by decide, by kernel_rfl, by kernel_rfl⟩, by kernel_rfl⟩
theorem ok13 : FnOk Try.prog 13 F13 := ⟨⟨Try.f13, by kernel_rfl, by kernel_rfl, by decide, by kernel_rfl, by kernel_rfl⟩, by kernel_rfl⟩
theorem ok14 : FnOk Try.prog 14 F14 := ⟨⟨Try.f14, by kernel_rfl, by kernel_rfl, by decide, by kernel_rfl, by kernel_rfl⟩, by kernel_rfl⟩
theorem ok15 : FnOk Try.prog 15 F15 := ⟨⟨Try.f15, by kernel_rfl, by kernel_rfl, by decide, by kernel_rfl, by kernel_rfl⟩, by kernel_rfl⟩
theorem ok16 : FnOk Try.prog 16 F16 := ⟨⟨Try.f16, by kernel_rfl, by kernel_rfl, by decide, by kernel_rfl, by kernel_rfl⟩, by kernel_rfl⟩
theorem ok17 : FnOk Try.prog 17 F17 := ⟨⟨Try.f17, by kernel_rfl, by kernel_rfl, by decide, by kernel_rfl, by kernel_rfl⟩, by kernel_rfl⟩
theorem ok18 : FnOk Try.prog 18 F18 := ⟨⟨Try.f18, by kernel_rfl, by kernel_rfl, by decide, by kernel_rfl, by kernel_rfl⟩, by kernel_rfl⟩
theorem ok19 : FnOk Try.prog 19 F19 := ⟨⟨Try.f19, by kernel_rfl, by kernel_rfl, by decide, by kernel_rfl, by kernel_rfl⟩, by kernel_rfl⟩
theorem ok20 : FnOk Try.prog 20 F20 := ⟨⟨Try.f20, by kernel_rfl, by kernel_rfl, by decide, by kernel_rfl, by kernel_rfl⟩, by kernel_rfl⟩
theorem ok21 : FnOk Try.prog 21 F21 := ⟨⟨Try.f21, by kernel_rfl, by kernel_rfl, by decide, by kernel_rfl, by kernel_rfl⟩, by kernel_rfl⟩
theorem ok22 : FnOk Try.prog 22 F22 := ⟨⟨Try.f22, by kernel_rfl, by kernel_rfl, by decide, by kernel_rfl, by kernel_rfl⟩, by kernel_rfl⟩
theorem ok23 : FnOk Try.prog 23 F23 := ⟨⟨Try.f23, by kernel_rfl, by kernel_rfl, by decide, by kernel_rfl, by kernel_rfl⟩, by kernel_rfl⟩
theorem ok24 : FnOk Try.prog 24 F24 := ⟨⟨Try.f24, by kernel_rfl, by kernel_rfl, by decide, by kernel_rfl, by kernel_rfl⟩, by kernel_rfl⟩
theorem ok25 : FnOk Try.prog 25 F25 := ⟨⟨Try.f25, by kernel_rfl, by kernel_rfl, by decide, by kernel_rfl, by kernel_rfl⟩, by kernel_rfl⟩
theorem ok26 : FnOk Try.prog 26 F26 := ⟨⟨Try.f26, by kernel_rfl, by kernel_rfl, by decide, by kernel_rfl, by kernel_rfl⟩, by kernel_rfl⟩
theorem ok27 : FnOk Try.prog 27 F27 := ⟨⟨Try.f27, by kernel_rfl, by kernel_rfl, by decide, by kernel_rfl, by kernel_rfl⟩, by kernel_rfl⟩
theorem ok28 : FnOk Try.prog 28 F28 := ⟨⟨Try.f28, by kernel_rfl, by kernel_rfl, by decide, by kernel_rfl, by kernel_rfl⟩, by kernel_rfl⟩
theorem ok29 : FnOk Try.prog 29 F29 := ⟨⟨Try.f29, by kernel_rfl, by kernel_rfl, by decide, by kernel_rfl, by kernel_rfl⟩, by kernel_rfl⟩
theorem ok30 : FnOk Try.prog 30 F30 := ⟨⟨Try.f30, by kernel_rfl, by kernel_rfl, by decide, by kernel_rfl, by kernel_rfl⟩, by kernel_rfl⟩
theorem ok31 : FnOk Try.prog 31 F31 := ⟨⟨Try.f31, by kernel_rfl, by kernel_rfl, by decide, by kernel_rfl, by kernel_rfl⟩, by kernel_rfl⟩
theorem ok32 : FnOk Try.prog 32 F32 := ⟨⟨Try.f32, by kernel_rfl, by kernel_rfl, by decide, by kernel_rfl, by kernel_rfl⟩, by kernel_rfl⟩
theorem ok33 : FnOk Try.prog 33 F33 := ⟨⟨Try.f33, by kernel_rfl, by kernel_rfl, by decide, by kernel_rfl, by kernel_rfl⟩, by kernel_rfl⟩
theorem ok34 : FnOk Try.prog 34 F34 := ⟨⟨Try.f34, by kernel_rfl, by kernel_rfl, by decide, by kernel_rfl, by kernel_rfl⟩, by kernel_rfl⟩
theorem ok35 : FnOk Try.prog 35 F35 := ⟨⟨Try.f35, by kernel_rfl, by kernel_rfl, by decide, by kernel_rfl, by kernel_rfl⟩, by kernel_rfl⟩
theorem ok36 : FnOk Try.prog 36 F36 := ⟨⟨Try.f36, by kernel_rfl, by kernel_rfl, by decide, by kernel_rfl, by kernel_rfl⟩, by kernel_rfl⟩
theorem ok37 : FnOk Try.prog 37 F37 := ⟨⟨Try.f37, by kernel_rfl, by kernel_rfl, by decide, by kernel_rfl, by kernel_rfl⟩, by kernel_rfl⟩
theorem ok38 : FnOk Try.prog 38 F38 := ⟨⟨Try.f38, by kernel_rfl, by kernel_rfl, by decide, by kernel_rfl, by kernel_rfl⟩, by kernel_rfl⟩
theorem ok39 : FnOk Try.prog 39 F39 := ⟨⟨Try.f39, by kernel_rfl, by kernel_rfl, by decide, by kernel_rfl, by kernel_rfl⟩, by kernel_rfl⟩
theorem ok40 : FnOk Try.prog 40 F40 := ⟨⟨Try.f40, by kernel_rfl, by kernel_rfl, by decide, by kernel_rfl, by kernel_rfl⟩, by kernel_rfl⟩
theorem ok41 : FnOk Try.prog 41 F41 := ⟨⟨Try.f41, by kernel_rfl, by kernel_rfl, by decide, by kernel_rfl, by kernel_rfl⟩, by kernel_rfl⟩
theorem ok42 : FnOk Try.prog 42 F42 := ⟨⟨Try.f42, by kernel_rfl, by kernel_rfl, by decide, by kernel_rfl, by kernel_rfl⟩, by kernel_rfl⟩
theorem ok43 : FnOk Try.prog 43 F43 := ⟨⟨Try.f43, by kernel_rfl, by kernel_rfl, by decide, by kernel_rfl, by kernel_rfl⟩, by kernel_rfl⟩
theorem ok44 : FnOk Try.prog 44 F44 := ⟨⟨Try.f44, by kernel_rfl, by kernel_rfl, by decide, by kernel_rfl, by kernel_rfl⟩, by kernel_rfl⟩
theorem ok45 : FnOk Try.prog 45 F45 := ⟨⟨Try.f45, by kernel_rfl, by kernel_rfl, by decide, by kernel_rfl, by kernel_rfl⟩, by kernel_rfl⟩
theorem ok46 : FnOk Try.prog 46 F46 := ⟨⟨Try.f46, by kernel_rfl, by kernel_rfl, by decide, by kernel_rfl, by kernel_rfl⟩, by kernel_rfl⟩
theorem ok47 : FnOk Try.prog 47 F47 := ⟨⟨Try.f47, by kernel_rfl, by kernel_rfl, by decide, by kernel_rfl, by kernel_rfl⟩, by kernel_rfl⟩
theorem ok48 : FnOk Try.prog 48 F48 := ⟨⟨Try.f48, by kernel_rfl, by kernel_rfl, by decide, by kernel_rfl, by kernel_rfl⟩, by kernel_rfl⟩
theorem ok49 : FnOk Try.prog 49 F49 := ⟨⟨Try.f49, by kernel_rfl, by kernel_rfl, by decide, by kernel_rfl, by kernel_rfl⟩, by kernel_rfl⟩
theorem ok50 : FnOk Try.prog 50 F50 := ⟨⟨Try.f50, by kernel_rfl, by kernel_rfl, by decide, by kernel_rfl, by kernel_rfl⟩, by kernel_rfl⟩
theorem ok51 : FnOk Try.prog 51 F51 := ⟨⟨Try.f51, by kernel_rfl, by kernel_rfl, by decide, by kernel_rfl, by kernel_rfl⟩, by kernel_rfl⟩
theorem ok52 : FnOk Try.prog 52 F52 := ⟨⟨Try.f52, by kernel_rfl, by kernel_rfl, by decide, by kernel_rfl, by kernel_rfl⟩, by kernel_rfl⟩
theorem ok53 : FnOk Try.prog 53 F53 := ⟨⟨Try.f53, by kernel_rfl, by kernel_rfl, by decide, by kernel_rfl, by kernel_rfl⟩, by kernel_rfl⟩
theorem ok54 : FnOk Try.prog 54 F54 := ⟨⟨Try.f54, by kernel_rfl, by kernel_rfl, by decide, by kernel_rfl, by kernel_rfl⟩, by kernel_rfl⟩
theorem ok55 : FnOk Try.prog 55 F55 := ⟨⟨Try.f55, by kernel_rfl, by kernel_rfl, by decide, by kernel_rfl, by kernel_rfl⟩, by kernel_rfl⟩
theorem ok56 : FnOk Try.prog 56 F56 := ⟨⟨Try.f56, by kernel_rfl, by kernel_rfl, by decide, by kernel_rfl, by kernel_rfl⟩, by kernel_rfl⟩
theorem ok57 : FnOk Try.prog 57 F57 := ⟨⟨Try.f57, by kernel_rfl, by kernel_rfl, by decide, by kernel_rfl, by kernel_rfl⟩, by kernel_rfl⟩
theorem ok58 : FnOk Try.prog 58 F58 := ⟨⟨Try.f58, by kernel_rfl, by kernel_rfl, by decide, by kernel_rfl, by kernel_rfl⟩, by kernel_rfl⟩
theorem ok59 : FnOk Try.prog 59 F59 := ⟨⟨Try.f59, by kernel_rfl, by kernel_rfl, by decide, by kernel_rfl, by kernel_rfl⟩, by kernel_rfl⟩
theorem ok60 : FnOk Try.prog 60 F60 := ⟨⟨Try.f60, by kernel_rfl, by kernel_rfl, by decide, by kernel_rfl, by kernel_rfl⟩, by kernel_rfl⟩
theorem ok61 : FnOk Try.prog 61 F61 := ⟨⟨Try.f61, by kernel_rfl, by kernel_rfl, by decide, by kernel_rfl, by kernel_rfl⟩, by kernel_rfl⟩
theorem ok62 : FnOk Try.prog 62 F62 := ⟨⟨Try.f62, by kernel_rfl, by kernel_rfl, by decide, by kernel_rfl, by kernel_rfl⟩, by kernel_rfl⟩
theorem ok63 : FnOk Try.prog 63 F63 := ⟨⟨Try.f63, by kernel_rfl, by kernel_rfl, by decide, by kernel_rfl, by kernel_rfl⟩, by kernel_rfl⟩
theorem ok64 : FnOk Try.prog 64 F64 := ⟨⟨Try.f64, by kernel_rfl, by kernel_rfl, by decide, by kernel_rfl, by kernel_rfl⟩, by kernel_rfl⟩
theorem ok65 : FnOk Try.prog 65 F65 := ⟨⟨Try.f65, by kernel_rfl, by kernel_rfl, by decide, by kernel_rfl, by kernel_rfl⟩, by kernel_rfl⟩
theorem ok66 : FnOk Try.prog 66 F66 := ⟨⟨Try.f66, by kernel_rfl, by kernel_rfl, by decide, by kernel_rfl, by kernel_rfl⟩, by kernel_rfl⟩
theorem ok67 : FnOk Try.prog 67 F67 := ⟨⟨Try.f67, by kernel_rfl, by kernel_rfl, by decide, by kernel_rfl, by kernel_rfl⟩, by kernel_rfl⟩
theorem ok68 : FnOk Try.prog 68 F68 := ⟨⟨Try.f68, by kernel_rfl, by kernel_rfl, by decide, by kernel_rfl, by kernel_rfl⟩, by kernel_rfl⟩
theorem ok69 : FnOk Try.prog 69 F69 := ⟨⟨Try.f69, by kernel_rfl, by kernel_rfl, by decide, by kernel_rfl, by kernel_rfl⟩, by kernel_rfl⟩
theorem ok70 : FnOk Try.prog 70 F70 := ⟨⟨Try.f70, by kernel_rfl, by kernel_rfl, by decide, by kernel_rfl, by kernel_rfl⟩, by kernel_rfl⟩
theorem ok71 : FnOk Try.prog 71 F71 := ⟨⟨Try.f71, by kernel_rfl, by kernel_rfl, by decide, by kernel_rfl, by kernel_rfl⟩, by kernel_rfl⟩
theorem ok72 : FnOk Try.prog 72 F72 := ⟨⟨Try.f72, by kernel_rfl, by kernel_rfl, by decide, by kernel_rfl, by kernel_rfl⟩, by kernel_rfl⟩
theorem ok73 : FnOk Try.prog 73 F73 := ⟨⟨Try.f73, by kernel_rfl, by kernel_rfl, by decide, by kernel_rfl, by kernel_rfl⟩, by kernel_rfl⟩
theorem ok74 : FnOk Try.prog 74 F74 := ⟨⟨Try.f74, by kernel_rfl, by kernel_rfl, by decide, by kernel_rfl, by kernel_rfl⟩, by kernel_rfl⟩
theorem ok75 : FnOk Try.prog 75 F75 := ⟨⟨Try.f75, by kernel_rfl, by kernel_rfl, by decide, by kernel_rfl, by kernel_rfl⟩, by kernel_rfl⟩
theorem ok76 : FnOk Try.prog 76 F76 := ⟨⟨Try.f76, by kernel_rfl, by kernel_rfl, by decide, by kernel_rfl, by kernel_rfl⟩, by kernel_rfl⟩
theorem ok77 : FnOk Try.prog 77 F77 := ⟨⟨Try.f77, by kernel_rfl, by kernel_rfl, by decide, by kernel_rfl, by kernel_rfl⟩, by kernel_rfl⟩
theorem ok78 : FnOk Try.prog 78 F78 := ⟨⟨Try.f78, by kernel_rfl, by kernel_rfl, by decide, by kernel_rfl, by kernel_rfl⟩, by kernel_rfl⟩
theorem ok79 : FnOk Try.prog 79 F79 := ⟨⟨Try.f79, by kernel_rfl, by kernel_rfl, by decide, by kernel_rfl, by kernel_rfl⟩, by kernel_rfl⟩
theorem ok80 : FnOk Try.prog 80 F80 := ⟨⟨Try.f80, by kernel_rfl, by kernel_rfl, by decide, by kernel_rfl, by kernel_rfl⟩, by kernel_rfl⟩
theorem ok81 : FnOk Try.prog 81 F81 := ⟨⟨Try.f81, by kernel_rfl, by kernel_rfl, by decide, by kernel_rfl, by kernel_rfl⟩, by kernel_rfl⟩
theorem ok82 : FnOk Try.prog 82 F82 := ⟨⟨Try.f82, by kernel_rfl, by kernel_rfl, by decide, by kernel_rfl, by kernel_rfl⟩, by kernel_rfl⟩
theorem ok83 : FnOk Try.prog 83 F83 := ⟨⟨Try.f83, by kernel_rfl, by kernel_rfl, by decide, by kernel_rfl, by kernel_rfl⟩, by kernel_rfl⟩
theorem ok84 : FnOk Try.prog 84 F84 := ⟨⟨Try.f84, by kernel_rfl, by kernel_rfl, by decide, by kernel_rfl, by kernel_rfl⟩, by kernel_rfl⟩
theorem ok85 : FnOk Try.prog 85 F85 := ⟨⟨Try.f85, by kernel_rfl, by kernel_rfl, by decide, by kernel_rfl, by kernel_rfl⟩, by kernel_rfl⟩
theorem ok86 : FnOk Try.prog 86 F86 := ⟨⟨Try.f86, by kernel_rfl, by kernel_rfl, by decide, by kernel_rfl, by kernel_rfl⟩, by kernel_rfl⟩
theorem ok87 : FnOk Try.prog 87 F87 := ⟨⟨Try.f87, by kernel_rfl, by kernel_rfl, by decide, by kernel_rfl, by kernel_rfl⟩, by kernel_rfl⟩
theorem ok88 : FnOk Try.prog 88 F88 := ⟨⟨Try.f88, by kernel_rfl, by kernel_rfl, by decide, by kernel_rfl, by kernel_rfl⟩, by kernel_rfl⟩
theorem ok89 : FnOk Try.prog 89 F89 := ⟨⟨Try.f89, by kernel_rfl, by kernel_rfl, by decide, by kernel_rfl, by kernel_rfl⟩, by kernel_rfl⟩
theorem ok90 : FnOk Try.prog 90 F90 := ⟨⟨Try.f90, by kernel_rfl, by kernel_rfl, by decide, by kernel_rfl, by kernel_rfl⟩, by kernel_rfl⟩
theorem ok91 : FnOk Try.prog 91 F91 := ⟨⟨Try.f91, by kernel_rfl, by kernel_rfl, by decide, by kernel_rfl, by kernel_rfl⟩, by kernel_rfl⟩
theorem ok92 : FnOk Try.prog 92 F92 := ⟨⟨Try.f92, by kernel_rfl, by kernel_rfl, by decide, by kernel_rfl, by kernel_rfl⟩, by kernel_rfl⟩
theorem ok93 : FnOk Try.prog 93 F93 := ⟨⟨Try.f93, by kernel_rfl, by kernel_rfl, by decide, by kernel_rfl, by kernel_rfl⟩, by kernel_rfl⟩
theorem ok94 : FnOk Try.prog 94 F94 := ⟨⟨Try.f94, by kernel_rfl, by kernel_rfl, by decide, by kernel_rfl, by kernel_rfl⟩, by kernel_rfl⟩
theorem ok95 : FnOk Try.prog 95 F95 := ⟨⟨Try.f95, by kernel_rfl, by kernel_rfl, by decide, by kernel_rfl, by kernel_rfl⟩, by kernel_rfl⟩
theorem ok96 : FnOk Try.prog 96 F96 := ⟨⟨Try.f96, by kernel_rfl, by kernel_rfl, by decide, by kernel_rfl, by kernel_rfl⟩, by kernel_rfl⟩
theorem ok97 : FnOk Try.prog 97 F97 := ⟨⟨Try.f97, by kernel_rfl, by kernel_rfl, by decide, by kernel_rfl, by kernel_rfl⟩, by kernel_rfl⟩
theorem ok98 : FnOk Try.prog 98 F98 := ⟨⟨Try.f98, by kernel_rfl, by kernel_rfl, by decide, by kernel_rfl, by kernel_rfl⟩, by kernel_rfl⟩
theorem ok99 : FnOk Try.prog 99 F99 := ⟨⟨Try.f99, by kernel_rfl, by kernel_rfl, by decide, by kernel_rfl, by kernel_rfl⟩, by kernel_rfl⟩
theorem ok100 : FnOk Try.prog 100 F100 := ⟨⟨Try.f100, by kernel_rfl, by kernel_rfl, by decide, by kernel_rfl, by kernel_rfl⟩, by kernel_rfl⟩
theorem ftOk : ∀ n fn, FT n = some fn → FnOk Try.prog n fn := fun _ _ h => node h (fun h => node h (fun h => node h (fun h => node h (fun h => node h (fun h => node h (fun h => leaf h ok2) (fun h => node h (fun h => leaf h ok3) (fun h => leaf h ok4))) (fun h => node h (fun h => leaf h ok5) (fun h => node h (fun h => leaf h ok6) (fun h => leaf h ok7)))) (fun h => node h (fun h => node h (fun h => leaf h ok8) (fun h => node h (fun h => leaf h ok9) (fun h => leaf h ok10))) (fun h => node h (fun h => leaf h ok11) (fun h => node h (fun h => leaf h ok12) (fun h => leaf h ok13))))) (fun h => node h (fun h => node h (fun h => node h (fun h => leaf h ok14) (fun h => node h (fun h => leaf h ok15) (fun h => leaf h ok16))) (fun h => node h (fun h => leaf h ok17) (fun h => node h (fun h => leaf h ok18) (fun h => leaf h ok19)))) (fun h => node h (fun h => node h (fun h => leaf h ok20) (fun h => node h (fun h => leaf h ok21) (fun h => leaf h ok22))) (fun h => node h (fun h => leaf h ok23) (fun h => node h (fun h => leaf h ok24) (fun h => leaf h ok25)))))) (fun h => node h (fun h => node h (fun h => node h (fun h => node h (fun h => leaf h ok26) (fun h => node h (fun h => leaf h ok27) (fun h => leaf h ok28))) (fun h => node h (fun h => leaf h ok29) (fun h => node h (fun h => leaf h ok30) (fun h => leaf h ok31)))) (fun h => node h (fun h => node h (fun h => leaf h ok32) (fun h => node h (fun h => leaf h ok33) (fun h => leaf h ok34))) (fun h => node h (fun h => leaf h ok35) (fun h => node h (fun h => leaf h ok36) (fun h => leaf h ok37))))) (fun h => node h (fun h => node h (fun h => node h (fun h => leaf h ok38) (fun h => node h (fun h => leaf h ok39) (fun h => leaf h ok40))) (fun h => node h (fun h => leaf h ok41) (fun h => node h (fun h => leaf h ok42) (fun h => leaf h ok43)))) (fun h => node h (fun h => node h (fun h => leaf h ok44) (fun h => node h (fun h => leaf h ok45) (fun h => leaf h ok46))) (fun h => node h (fun h => node h (fun h => leaf h ok47) (fun h => leaf h ok48)) (fun h => node h (fun h => leaf h ok49) (fun h => leaf h ok50))))))) (fun h => node h (fun h => node h (fun h => node h (fun h => node h (fun h => node h (fun h => leaf h ok51) (fun h => node h (fun h => leaf h ok52) (fun h => leaf h ok53))) (fun h => node h (fun h => leaf h ok54) (fun h => node h (fun h => leaf h ok55) (fun h => leaf h ok56)))) (fun h => node h (fun h => node h (fun h => leaf h ok57) (fun h => node h (fun h => leaf h ok58) (fun h => leaf h ok59))) (fun h => node h (fun h => leaf h ok60) (fun h => node h (fun h => leaf h ok61) (fun h => leaf h ok62))))) (fun h => node h (fun h => node h (fun h => node h (fun h => leaf h ok63) (fun h => node h (fun h => leaf h ok64) (fun h => leaf h ok65))) (fun h => node h (fun h => leaf h ok66) (fun h => node h (fun h => leaf h ok67) (fun h => leaf h ok68)))) (fun h => node h (fun h => node h (fun h => leaf h ok69) (fun h => node h (fun h => leaf h ok70) (fun h => leaf h ok71))) (fun h => node h (fun h => node h (fun h => leaf h ok72) (fun h => leaf h ok73)) (fun h => node h (fun h => leaf h ok74) (fun h => leaf h ok75)))))) (fun h => node h (fun h => node h (fun h => node h (fun h => node h (fun h => leaf h ok76) (fun h => node h (fun h => leaf h ok77) (fun h => leaf h ok78))) (fun h => node h (fun h => leaf h ok79) (fun h => node h (fun h => leaf h ok80) (fun h => leaf h ok81)))) (fun h => node h (fun h => node h (fun h => leaf h ok82) (fun h => node h (fun h => leaf h ok83) (fun h => leaf h ok84))) (fun h => node h (fun h => leaf h ok85) (fun h => node h (fun h => leaf h ok86) (fun h => leaf h ok87))))) (fun h => node h (fun h => node h (fun h => node h (fun h => leaf h ok88) (fun h => node h (fun h => leaf h ok89) (fun h => leaf h ok90))) (fun h => node h (fun h => leaf h ok91) (fun h => node h (fun h => leaf h ok92) (fun h => leaf h ok93)))) (fun h => node h (fun h => node h (fun h => leaf h ok94) (fun h => node h (fun h => leaf h ok95) (fun h => leaf h ok96))) (fun h => node h (fun h => node h (fun h => leaf h ok97) (fun h => leaf h ok98)) (fun h => node h (fun h => leaf h ok99) (fun h => leaf h ok100)))))))
end E
end Go.Proofs.Ytfibbhmmiemcoaa
