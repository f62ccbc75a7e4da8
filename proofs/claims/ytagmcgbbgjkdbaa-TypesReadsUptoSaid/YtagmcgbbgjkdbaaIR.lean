/-
  THE TABLE OF THE LEAN IR OF THE SEAT's FUNCTIONS, printed by a program of ours (Printer.lean).
-/
import Derived.Test.YtagmcgbbgjkdbaaIR0
import Derived.Test.YtagmcgbbgjkdbaaIR1
namespace Go.Abs.Try
open Go Go.Abs

def tblL : List (Nat × IFunc) := [(3, g3), (4, g4), (5, g5), (6, g6), (7, g7), (8, g8), (9, g9), (12, g12), (14, g14), (15, g15), (16, g16), (17, g17), (18, g18), (19, g19), (20, g20), (21, g21), (22, g22), (23, g23), (24, g24), (25, g25), (26, g26), (27, g27), (28, g28), (29, g29), (30, g30), (31, g31), (32, g32), (33, g33), (34, g34), (35, g35), (36, g36), (37, g37), (38, g38), (39, g39), (40, g40), (41, g41), (42, g42), (43, g43), (44, g44), (45, g45), (46, g46), (47, g47), (48, g48), (49, g49), (50, g50), (51, g51), (52, g52), (53, g53), (54, g54), (55, g55), (56, g56), (57, g57), (58, g58), (59, g59), (60, g60), (61, g61), (62, g62), (63, g63), (64, g64), (65, g65), (66, g66), (67, g67), (68, g68), (69, g69), (70, g70), (71, g71), (72, g72), (73, g73), (74, g74), (75, g75), (76, g76), (77, g77), (78, g78), (79, g79), (80, g80), (81, g81), (82, g82), (83, g83), (84, g84), (85, g85), (86, g86), (87, g87), (88, g88), (89, g89), (90, g90), (91, g91), (92, g92), (93, g93), (94, g94), (95, g95), (96, g96), (97, g97), (98, g98), (99, g99), (100, g100), (101, g101), (102, g102), (103, g103), (104, g104), (105, g105), (106, g106), (107, g107)]
def lookF : List (Nat × IFunc) → Nat → Option IFunc
  | [], _ => none
  | (k, g) :: l, f => if f = k then some g else lookF l f
def tbl : Nat → Option IFunc := lookF tblL
end Go.Abs.Try
