/-
  A card of the second form: what the program does at one call, shown by the kernel. Conditions: none.
-/
import Derived.Test.YtfkeeieoapimlaaGreatDoorZeToKA
set_option linter.unusedVariables false
set_option linter.unusedSimpArgs false
set_option linter.unusedSectionVars false
set_option linter.deprecated false
section
open Go Go.Xe
noncomputable section
namespace Go.Xe.Cards
def e0 : IE := ⟨3, .cells [.func (.func 20) [] [], .func (.func 11) [] []] 38 true 0 [2]⟩
def e1 : IE := ⟨4, .map [] 0⟩
def e2 : IE := ⟨5, .cells [.int .i64 (0), .int .i64 (0), .pnil, .map 4] 84 true 0 []⟩
def e3 : IE := ⟨6, .map [⟨.int .i64 (0), .map 7, 8⟩] 1⟩
def e4 : IE := ⟨7, .map [] 0⟩
def e5 : IE := ⟨9, .map [⟨.str 0 0, .int .i64 (0), 10⟩] 1⟩
def e6 : IE := ⟨11, .cells [.map 6, .snil, .map 9, .int .i64 (0)] 124 true 0 []⟩
def e7 : IE := ⟨12, .map [⟨.str 2 14906, .ptr 13 0, 14⟩] 1⟩
def e8 : IE := ⟨13, .cells [.snil, .snil, .str 0 0] 150 true 0 []⟩
def e9 : IE := ⟨15, .cells [.map 12] 153 true 0 []⟩
def e10 : IE := ⟨16, .map [⟨.str 5 499918256698, .ptr 28 0, 29⟩, ⟨.str 7 32762643747256890, .ptr 37 0, 38⟩, ⟨.str 6 128039038761530, .ptr 46 0, 47⟩, ⟨.str 6 119165853973050, .ptr 55 0, 56⟩, ⟨.str 6 125827381803578, .ptr 64 0, 65⟩, ⟨.str 7 29382749079157306, .ptr 73 0, 74⟩, ⟨.str 7 32210684681206330, .ptr 82 0, 83⟩, ⟨.str 8 7958552634295728698, .ptr 91 0, 92⟩, ⟨.str 8 7308604897068464698, .ptr 100 0, 101⟩, ⟨.str 7 32493203369441850, .ptr 109 0, 110⟩, ⟨.str 4 1718172218, .ptr 285 0, 286⟩, ⟨.str 7 28548172627786298, .ptr 290 0, 291⟩, ⟨.str 5 491495242298, .ptr 295 0, 296⟩, ⟨.str 9 1925622500090458815034, .ptr 300 0, 301⟩, ⟨.str 6 123563749947962, .ptr 305 0, 306⟩, ⟨.str 6 125771379718714, .ptr 310 0, 311⟩, ⟨.str 8 7236833184827128378, .ptr 315 0, 316⟩, ⟨.str 8 8386093307106900538, .ptr 320 0, 321⟩, ⟨.str 7 32777964012911162, .ptr 325 0, 326⟩, ⟨.str 7 33618059397970490, .ptr 330 0, 331⟩, ⟨.str 5 521611262522, .ptr 335 0, 336⟩, ⟨.str 8 7521983798963288634, .ptr 340 0, 341⟩, ⟨.str 7 30224910846671418, .ptr 345 0, 346⟩, ⟨.str 10 479125239844692574812730, .ptr 350 0, 351⟩, ⟨.str 5 482905831994, .ptr 355 0, 356⟩] 25⟩
def e11 : IE := ⟨17, .map [] 0⟩
def e12 : IE := ⟨18, .map [⟨.int .i64 (1), .ptr 28 0, 30⟩, ⟨.int .i64 (2), .ptr 37 0, 39⟩, ⟨.int .i64 (3), .ptr 46 0, 48⟩, ⟨.int .i64 (4), .ptr 55 0, 57⟩, ⟨.int .i64 (5), .ptr 64 0, 66⟩, ⟨.int .i64 (6), .ptr 73 0, 75⟩, ⟨.int .i64 (7), .ptr 82 0, 84⟩, ⟨.int .i64 (8), .ptr 91 0, 93⟩, ⟨.int .i64 (9), .ptr 100 0, 102⟩, ⟨.int .i64 (10), .ptr 109 0, 111⟩, ⟨.num 284 0 11 26, .ptr 285 0, 287⟩, ⟨.num 284 1 11 26, .ptr 290 0, 292⟩, ⟨.num 284 2 11 26, .ptr 295 0, 297⟩, ⟨.num 284 3 11 26, .ptr 300 0, 302⟩, ⟨.num 284 4 11 26, .ptr 305 0, 307⟩, ⟨.num 284 5 11 26, .ptr 310 0, 312⟩, ⟨.num 284 6 11 26, .ptr 315 0, 317⟩, ⟨.num 284 7 11 26, .ptr 320 0, 322⟩, ⟨.num 284 8 11 26, .ptr 325 0, 327⟩, ⟨.num 284 9 11 26, .ptr 330 0, 332⟩, ⟨.num 284 10 11 26, .ptr 335 0, 337⟩, ⟨.num 284 11 11 26, .ptr 340 0, 342⟩, ⟨.num 284 12 11 26, .ptr 345 0, 347⟩, ⟨.num 284 13 11 26, .ptr 350 0, 352⟩, ⟨.num 284 14 11 26, .ptr 355 0, 357⟩] 25⟩
def e13 : IE := ⟨19, .cells [.map 16, .map 17, .map 18, .int .i64 (25), .int .i64 (25)] 157 true 0 []⟩
def e14 : IE := ⟨20, .map [⟨.int .i64 (1), .func (.func 47) [] [], 31⟩, ⟨.int .i64 (2), .func (.func 48) [] [], 40⟩, ⟨.int .i64 (3), .func (.func 49) [] [], 49⟩, ⟨.int .i64 (4), .func (.func 51) [] [], 58⟩, ⟨.int .i64 (5), .func (.func 52) [] [], 67⟩, ⟨.int .i64 (6), .func (.func 53) [] [], 76⟩, ⟨.int .i64 (7), .func (.func 54) [] [], 85⟩, ⟨.int .i64 (8), .func (.func 55) [] [], 94⟩, ⟨.int .i64 (9), .func (.func 56) [] [], 103⟩, ⟨.int .i64 (10), .func (.func 57) [] [], 112⟩, ⟨.num 284 0 11 26, .func (.func 58) [] [], 288⟩, ⟨.num 284 1 11 26, .func (.func 59) [] [], 293⟩, ⟨.num 284 2 11 26, .func (.func 60) [] [], 298⟩, ⟨.num 284 3 11 26, .func (.func 61) [] [], 303⟩, ⟨.num 284 4 11 26, .func (.func 62) [] [], 308⟩, ⟨.num 284 5 11 26, .func (.func 63) [] [], 313⟩, ⟨.num 284 6 11 26, .func (.func 64) [] [], 318⟩, ⟨.num 284 7 11 26, .func (.func 65) [] [], 323⟩, ⟨.num 284 8 11 26, .func (.func 66) [] [], 328⟩, ⟨.num 284 9 11 26, .func (.func 67) [] [], 333⟩, ⟨.num 284 10 11 26, .func (.func 68) [] [], 338⟩, ⟨.num 284 11 11 26, .func (.func 69) [] [], 343⟩, ⟨.num 284 12 11 26, .func (.func 70) [] [], 348⟩, ⟨.num 284 13 11 26, .func (.func 72) [] [], 353⟩, ⟨.num 284 14 11 26, .func (.func 73) [] [], 358⟩] 25⟩
def e15 : IE := ⟨21, .map [⟨.int .i64 (1), .inil, 32⟩, ⟨.int .i64 (2), .inil, 41⟩, ⟨.int .i64 (3), .inil, 50⟩, ⟨.int .i64 (4), .inil, 59⟩, ⟨.int .i64 (5), .inil, 68⟩, ⟨.int .i64 (6), .inil, 77⟩, ⟨.int .i64 (7), .inil, 86⟩, ⟨.int .i64 (8), .inil, 95⟩, ⟨.int .i64 (9), .inil, 104⟩, ⟨.int .i64 (10), .inil, 113⟩, ⟨.num 284 0 11 26, .inil, 289⟩, ⟨.num 284 1 11 26, .inil, 294⟩, ⟨.num 284 2 11 26, .inil, 299⟩, ⟨.num 284 3 11 26, .inil, 304⟩, ⟨.num 284 4 11 26, .inil, 309⟩, ⟨.num 284 5 11 26, .inil, 314⟩, ⟨.num 284 6 11 26, .inil, 319⟩, ⟨.num 284 7 11 26, .inil, 324⟩, ⟨.num 284 8 11 26, .inil, 329⟩, ⟨.num 284 9 11 26, .inil, 334⟩, ⟨.num 284 10 11 26, .inil, 339⟩, ⟨.num 284 11 11 26, .inil, 344⟩, ⟨.num 284 12 11 26, .inil, 349⟩, ⟨.num 284 13 11 26, .inil, 354⟩, ⟨.num 284 14 11 26, .inil, 359⟩] 25⟩
def e16 : IE := ⟨22, .map [] 0⟩
def e17 : IE := ⟨23, .cells [.int .i64 (0), .int .i64 (0), .str 2 14906, .snil, .pnil, .inil] 110 true 0 []⟩
def e18 : IE := ⟨24, .cells [.ptr 5 0, .ptr 11 0, .ptr 15 0, .ptr 19 0, .map 20, .map 21, .map 22, .ptr 23 0, .int .i64 (0), .snil, .str 0 0, .map 25, .map 26, .bool false, .int .i64 (0), .sl 3 0 2 1, .pnil, .int .i64 (0), .bool false, .bool false, .bool false, .fnil, .fnil, .fnil, .fnil, .fnil, .fnil, .fnil, .fnil] 58 true 0 []⟩
def e19 : IE := ⟨25, .map [] 0⟩
def e20 : IE := ⟨26, .map [] 0⟩
def e21 : IE := ⟨28, .cells [.int .i64 (1), .str 5 499918256698, .bool false, .pnil, .snil] 235 true 0 []⟩
def e22 : IE := ⟨37, .cells [.int .i64 (2), .str 7 32762643747256890, .bool false, .pnil, .snil] 235 true 0 []⟩
def e23 : IE := ⟨46, .cells [.int .i64 (3), .str 6 128039038761530, .bool false, .pnil, .snil] 235 true 0 []⟩
def e24 : IE := ⟨55, .cells [.int .i64 (4), .str 6 119165853973050, .bool false, .pnil, .snil] 235 true 0 []⟩
def e25 : IE := ⟨64, .cells [.int .i64 (5), .str 6 125827381803578, .bool false, .pnil, .snil] 235 true 0 []⟩
def e26 : IE := ⟨73, .cells [.int .i64 (6), .str 7 29382749079157306, .bool false, .pnil, .snil] 235 true 0 []⟩
def e27 : IE := ⟨82, .cells [.int .i64 (7), .str 7 32210684681206330, .bool false, .pnil, .snil] 235 true 0 []⟩
def e28 : IE := ⟨91, .cells [.int .i64 (8), .str 8 7958552634295728698, .bool false, .pnil, .snil] 235 true 0 []⟩
def e29 : IE := ⟨100, .cells [.int .i64 (9), .str 8 7308604897068464698, .bool false, .pnil, .snil] 235 true 0 []⟩
def e30 : IE := ⟨109, .cells [.int .i64 (10), .str 7 32493203369441850, .bool false, .pnil, .snil] 235 true 0 []⟩
def e31 : IE := ⟨285, .cells [.num 284 0 11 26, .str 4 1718172218, .bool false, .pnil, .snil] 235 true 0 []⟩
def e32 : IE := ⟨290, .cells [.num 284 1 11 26, .str 7 28548172627786298, .bool false, .pnil, .snil] 235 true 0 []⟩
def e33 : IE := ⟨295, .cells [.num 284 2 11 26, .str 5 491495242298, .bool false, .pnil, .snil] 235 true 0 []⟩
def e34 : IE := ⟨300, .cells [.num 284 3 11 26, .str 9 1925622500090458815034, .bool false, .pnil, .snil] 235 true 0 []⟩
def e35 : IE := ⟨305, .cells [.num 284 4 11 26, .str 6 123563749947962, .bool false, .pnil, .snil] 235 true 0 []⟩
def e36 : IE := ⟨310, .cells [.num 284 5 11 26, .str 6 125771379718714, .bool false, .pnil, .snil] 235 true 0 []⟩
def e37 : IE := ⟨315, .cells [.num 284 6 11 26, .str 8 7236833184827128378, .bool false, .pnil, .snil] 235 true 0 []⟩
def e38 : IE := ⟨320, .cells [.num 284 7 11 26, .str 8 8386093307106900538, .bool false, .pnil, .snil] 235 true 0 []⟩
def e39 : IE := ⟨325, .cells [.num 284 8 11 26, .str 7 32777964012911162, .bool false, .pnil, .snil] 235 true 0 []⟩
def e40 : IE := ⟨330, .cells [.num 284 9 11 26, .str 7 33618059397970490, .bool false, .pnil, .snil] 235 true 0 []⟩
def e41 : IE := ⟨335, .cells [.num 284 10 11 26, .str 5 521611262522, .bool false, .pnil, .snil] 235 true 0 []⟩
def e42 : IE := ⟨340, .cells [.num 284 11 11 26, .str 8 7521983798963288634, .bool false, .pnil, .snil] 235 true 0 []⟩
def e43 : IE := ⟨345, .cells [.num 284 12 11 26, .str 7 30224910846671418, .bool false, .pnil, .snil] 235 true 0 []⟩
def e44 : IE := ⟨350, .cells [.num 284 13 11 26, .str 10 479125239844692574812730, .bool false, .pnil, .snil] 235 true 0 []⟩
def e45 : IE := ⟨355, .cells [.num 284 14 11 26, .str 5 482905831994, .bool false, .pnil, .snil] 235 true 0 []⟩
def e46 : IE := ⟨5, .cells [.int .i64 (93), .int .i64 (0), .pnil, .map 4] 84 true 0 []⟩
def e47 : IE := ⟨7, .map [⟨.str 1 115, .ptr 1056 0, 1057⟩, ⟨.str 1 97, .ptr 1514 0, 1515⟩, ⟨.str 1 98, .ptr 1538 0, 1539⟩] 3⟩
def e48 : IE := ⟨24, .cells [.ptr 5 0, .ptr 11 0, .ptr 15 0, .ptr 19 0, .map 20, .map 21, .map 22, .ptr 23 0, .int .i64 (1), .snil, .str 0 0, .map 25, .map 26, .bool false, .int .i64 (93), .sl 3 0 2 1, .pnil, .int .i64 (0), .bool false, .bool false, .bool false, .fnil, .fnil, .fnil, .fnil, .fnil, .fnil, .fnil, .fnil] 58 true 0 []⟩
def e49 : IE := ⟨25, .map [⟨.str 49 4536225943939417771503557948882315342172805411708570201445402219000806174990941435791710664654742280249284721774978419, .ptr 367 0, 368⟩, ⟨.str 9 1791937382317641920105, .ptr 1554 0, 1555⟩] 2⟩
def e50 : IE := ⟨26, .map [⟨.str 3 6430817, .sl 1423 0 2 1, 1427⟩, ⟨.str 5 219583488049, .sl 1462 0 3 1, 1466⟩] 2⟩
def e51 : IE := ⟨367, .cells [.sl 799 0 26 3, .snil, .bool true, .bool false, .bool true, .bool false] 90 true 0 []⟩
def e52 : IE := ⟨799, .cells [.int .i64 (5), .int .i64 (0), .str 0 0, .int .i64 (1), .int .i64 (0), .str 3 7628147, .int .i64 (6), .int .i64 (0), .str 0 0, .int .i64 (1), .int .i64 (0), .str 1 115, .int .i64 (6), .int .i64 (0), .str 0 0, .int .i64 (1), .int .i64 (0), .str 1 48, .int .i64 (6), .int .i64 (0), .str 0 0, .int .i64 (8), .int .i64 (0), .str 0 0, .int .i64 (9), .int .i64 (0), .str 0 0, .int .i64 (5), .int .i64 (0), .str 0 0, .int .i64 (1), .int .i64 (0), .str 7 29382667542884198, .int .i64 (6), .int .i64 (0), .str 0 0, .int .i64 (1), .int .i64 (0), .str 3 6430817, .int .i64 (6), .int .i64 (0), .str 0 0, .int .i64 (1), .int .i64 (0), .str 5 219583488049, .int .i64 (6), .int .i64 (0), .str 0 0, .int .i64 (1), .int .i64 (0), .str 9 1791937382317641920105, .int .i64 (6), .int .i64 (0), .str 0 0, .int .i64 (8), .int .i64 (0), .str 0 0, .int .i64 (9), .int .i64 (0), .str 0 0, .int .i64 (5), .int .i64 (0), .str 0 0, .int .i64 (1), .int .i64 (0), .str 3 7628147, .int .i64 (6), .int .i64 (0), .str 0 0, .int .i64 (1), .int .i64 (0), .str 1 115, .int .i64 (6), .int .i64 (0), .str 0 0, .int .i64 (8), .int .i64 (0), .str 0 0] 144 true 0 [797, 795, 790, 788, 783, 781, 778, 776, 774, 769, 767, 762, 760, 755, 753, 748, 746, 743, 741, 739, 734, 732, 727, 725, 720]⟩
def e53 : IE := ⟨1055, .cells [.int .i64 (1), .str 1 52, .mnil, .pnil, .int .i64 (3)] 82 true 0 []⟩
def e54 : IE := ⟨1056, .cells [.ptr 1055 0, .bool false] 126 true 0 []⟩
def e55 : IE := ⟨1423, .cells [.str 1 97, .str 1 98] 9 true 0 [1417]⟩
def e56 : IE := ⟨1462, .cells [.str 1 49, .str 1 50, .str 1 51] 9 true 0 [1456, 1450]⟩
def e57 : IE := ⟨1513, .cells [.int .i64 (1), .str 1 51, .mnil, .pnil, .int .i64 (2)] 82 true 0 []⟩
def e58 : IE := ⟨1514, .cells [.ptr 1513 0, .bool false] 126 true 0 []⟩
def e59 : IE := ⟨1537, .cells [.int .i64 (1), .str 0 0, .mnil, .pnil, .int .i64 (2)] 82 true 0 []⟩
def e60 : IE := ⟨1538, .cells [.ptr 1537 0, .bool false] 126 true 0 []⟩
def e61 : IE := ⟨1554, .cells [.sl 1711 0 8 3, .snil, .bool true, .bool false, .bool true, .bool false] 90 true 0 []⟩
def e62 : IE := ⟨1711, .cells [.int .i64 (5), .int .i64 (0), .str 0 0, .int .i64 (1), .int .i64 (0), .str 4 1919118953, .int .i64 (6), .int .i64 (0), .str 0 0, .int .i64 (1), .int .i64 (0), .str 1 115, .int .i64 (6), .int .i64 (0), .str 0 0, .int .i64 (2), .int .i64 (0), .str 1 97, .int .i64 (6), .int .i64 (0), .str 0 0, .int .i64 (8), .int .i64 (0), .str 0 0] 144 true 0 [1709, 1707, 1702, 1700, 1695, 1693, 1688]⟩
def e63 : IE := ⟨5, .cells [.int .i64 (98), .int .i64 (0), .pnil, .map 4] 84 true 0 []⟩
def e64 : IE := ⟨24, .cells [.ptr 5 0, .ptr 11 0, .ptr 15 0, .ptr 19 0, .map 20, .map 21, .map 22, .ptr 23 0, .int .i64 (1), .snil, .str 0 0, .map 25, .map 26, .bool false, .int .i64 (98), .sl 3 0 2 1, .pnil, .int .i64 (0), .bool false, .bool false, .bool false, .fnil, .fnil, .fnil, .fnil, .fnil, .fnil, .fnil, .fnil] 58 true 0 []⟩
def e65 : IE := ⟨25, .map [⟨.str 49 4536225943939417771503557948882315342172805411708570201445402219000806174990941435791710664654742280249284721774978419, .ptr 367 0, 368⟩, ⟨.str 9 1791937382317641920105, .ptr 1554 0, 1555⟩, ⟨.str 38 15939272629389644614333957709979953031171404150917260407900929848175104815848855893419517545, .ptr 2865 0, 2866⟩, ⟨.str 1 48, .ptr 3704 0, 3705⟩, ⟨.str 1 49, .ptr 3865 0, 3866⟩, ⟨.str 7 14109350363948403, .ptr 4048 0, 4049⟩] 6⟩
def e66 : IE := ⟨1513, .cells [.int .i64 (1), .str 1 50, .mnil, .pnil, .int .i64 (3)] 82 true 0 []⟩
def e67 : IE := ⟨2865, .cells [.sl 3198 0 16 3, .snil, .bool true, .bool false, .bool true, .bool false] 90 true 0 []⟩
def e68 : IE := ⟨3198, .cells [.int .i64 (5), .int .i64 (0), .str 0 0, .int .i64 (1), .int .i64 (0), .str 2 26217, .int .i64 (6), .int .i64 (0), .str 0 0, .int .i64 (1), .int .i64 (0), .str 1 48, .int .i64 (6), .int .i64 (0), .str 0 0, .int .i64 (1), .int .i64 (0), .str 7 13827875387237747, .int .i64 (6), .int .i64 (0), .str 0 0, .int .i64 (1), .int .i64 (0), .str 6 112602859662437, .int .i64 (6), .int .i64 (0), .str 0 0, .int .i64 (1), .int .i64 (0), .str 1 49, .int .i64 (6), .int .i64 (0), .str 0 0, .int .i64 (1), .int .i64 (0), .str 4 1852139636, .int .i64 (6), .int .i64 (0), .str 0 0, .int .i64 (1), .int .i64 (0), .str 7 14109350363948403, .int .i64 (6), .int .i64 (0), .str 0 0, .int .i64 (8), .int .i64 (0), .str 0 0] 144 true 0 [3196, 3194, 3189, 3187, 3182, 3180, 3175, 3173, 3168, 3166, 3161, 3159, 3154, 3152, 3147]⟩
def e69 : IE := ⟨3704, .cells [.snil, .sl 3805 0 1 3, .bool false, .bool true, .bool false, .bool true] 90 true 0 []⟩
def e70 : IE := ⟨3805, .cells [.int .i64 (1), .int .i64 (0), .str 1 48] 144 true 0 []⟩
def e71 : IE := ⟨3865, .cells [.snil, .sl 3977 0 1 3, .bool false, .bool true, .bool false, .bool true] 90 true 0 []⟩
def e72 : IE := ⟨3977, .cells [.int .i64 (1), .int .i64 (0), .str 1 49] 144 true 0 []⟩
def e73 : IE := ⟨4048, .cells [.sl 4201 0 8 3, .snil, .bool true, .bool false, .bool true, .bool false] 90 true 0 []⟩
def e74 : IE := ⟨4201, .cells [.int .i64 (5), .int .i64 (0), .str 0 0, .int .i64 (1), .int .i64 (0), .str 3 7628147, .int .i64 (6), .int .i64 (0), .str 0 0, .int .i64 (1), .int .i64 (0), .str 1 97, .int .i64 (6), .int .i64 (0), .str 0 0, .int .i64 (1), .int .i64 (0), .str 1 50, .int .i64 (6), .int .i64 (0), .str 0 0, .int .i64 (8), .int .i64 (0), .str 0 0] 144 true 0 [4199, 4197, 4192, 4190, 4185, 4183, 4178]⟩
def e75 : IE := ⟨5, .cells [.int .i64 (96), .int .i64 (0), .pnil, .map 4] 84 true 0 []⟩
def e76 : IE := ⟨7, .map [⟨.str 1 115, .ptr 1056 0, 1057⟩, ⟨.str 1 97, .ptr 1514 0, 1515⟩, ⟨.str 1 98, .ptr 1538 0, 1539⟩, ⟨.str 1 109, .ptr 5785 0, 5786⟩, ⟨.str 1 102, .ptr 6535 0, 6536⟩] 5⟩
def e77 : IE := ⟨24, .cells [.ptr 5 0, .ptr 11 0, .ptr 15 0, .ptr 19 0, .map 20, .map 21, .map 22, .ptr 23 0, .int .i64 (1), .snil, .str 0 0, .map 25, .map 26, .bool false, .int .i64 (96), .sl 3 0 2 1, .pnil, .int .i64 (0), .bool false, .bool false, .bool false, .fnil, .fnil, .fnil, .fnil, .fnil, .fnil, .fnil, .fnil] 58 true 0 []⟩
def e78 : IE := ⟨25, .map [⟨.str 49 4536225943939417771503557948882315342172805411708570201445402219000806174990941435791710664654742280249284721774978419, .ptr 367 0, 368⟩, ⟨.str 9 1791937382317641920105, .ptr 1554 0, 1555⟩, ⟨.str 38 15939272629389644614333957709979953031171404150917260407900929848175104815848855893419517545, .ptr 2865 0, 2866⟩, ⟨.str 1 48, .ptr 3704 0, 3705⟩, ⟨.str 1 49, .ptr 3865 0, 3866⟩, ⟨.str 7 14109350363948403, .ptr 4048 0, 4049⟩, ⟨.str 50 1262799883240386316574143812401701511938247362517588368123705430079617916680511757712384812639363612081017734699775783540, .ptr 4511 0, 4512⟩, ⟨.str 7 33812673073410661, .ptr 5465 0, 5466⟩, ⟨.str 5 468695934323, .ptr 5792 0, 5793⟩, ⟨.str 7 13827896862074227, .ptr 6125 0, 6126⟩] 10⟩
def e79 : IE := ⟨4511, .cells [.sl 4888 0 18 3, .snil, .bool true, .bool false, .bool true, .bool false] 90 true 0 []⟩
def e80 : IE := ⟨4888, .cells [.int .i64 (5), .int .i64 (0), .str 0 0, .int .i64 (1), .int .i64 (0), .str 3 7959156, .int .i64 (6), .int .i64 (0), .str 0 0, .int .i64 (1), .int .i64 (0), .str 7 33812673073410661, .int .i64 (6), .int .i64 (0), .str 0 0, .int .i64 (1), .int .i64 (0), .str 2 28271, .int .i64 (6), .int .i64 (0), .str 0 0, .int .i64 (1), .int .i64 (0), .str 5 491496043109, .int .i64 (6), .int .i64 (0), .str 0 0, .int .i64 (1), .int .i64 (0), .str 1 109, .int .i64 (6), .int .i64 (0), .str 0 0, .int .i64 (1), .int .i64 (0), .str 5 468695934323, .int .i64 (6), .int .i64 (0), .str 0 0, .int .i64 (1), .int .i64 (0), .str 7 34177684928883046, .int .i64 (6), .int .i64 (0), .str 0 0, .int .i64 (1), .int .i64 (0), .str 7 13827896862074227, .int .i64 (6), .int .i64 (0), .str 0 0, .int .i64 (8), .int .i64 (0), .str 0 0] 144 true 0 [4886, 4884, 4879, 4877, 4872, 4870, 4865, 4863, 4858, 4856, 4851, 4849, 4844, 4842, 4837, 4835, 4830]⟩
def e81 : IE := ⟨5465, .cells [.sl 5579 0 6 3, .snil, .bool true, .bool false, .bool true, .bool false] 90 true 0 []⟩
def e82 : IE := ⟨5579, .cells [.int .i64 (5), .int .i64 (0), .str 0 0, .int .i64 (1), .int .i64 (0), .str 5 491496043109, .int .i64 (6), .int .i64 (0), .str 0 0, .int .i64 (1), .int .i64 (0), .str 1 120, .int .i64 (6), .int .i64 (0), .str 0 0, .int .i64 (8), .int .i64 (0), .str 0 0] 144 true 0 [5577, 5575, 5570, 5568, 5563]⟩
def e83 : IE := ⟨5784, .cells [.int .i64 (1), .str 1 120, .mnil, .pnil, .int .i64 (1)] 82 true 0 []⟩
def e84 : IE := ⟨5785, .cells [.ptr 5784 0, .bool false] 126 true 0 []⟩
def e85 : IE := ⟨5792, .cells [.sl 5902 0 6 3, .snil, .bool true, .bool false, .bool true, .bool false] 90 true 0 []⟩
def e86 : IE := ⟨5902, .cells [.int .i64 (5), .int .i64 (0), .str 0 0, .int .i64 (1), .int .i64 (0), .str 3 7628147, .int .i64 (6), .int .i64 (0), .str 0 0, .int .i64 (1), .int .i64 (0), .str 1 109, .int .i64 (6), .int .i64 (0), .str 0 0, .int .i64 (8), .int .i64 (0), .str 0 0] 144 true 0 [5900, 5898, 5893, 5891, 5886]⟩
def e87 : IE := ⟨6125, .cells [.sl 6278 0 8 3, .snil, .bool true, .bool false, .bool true, .bool false] 90 true 0 []⟩
def e88 : IE := ⟨6278, .cells [.int .i64 (5), .int .i64 (0), .str 0 0, .int .i64 (1), .int .i64 (0), .str 3 7628147, .int .i64 (6), .int .i64 (0), .str 0 0, .int .i64 (1), .int .i64 (0), .str 1 102, .int .i64 (6), .int .i64 (0), .str 0 0, .int .i64 (1), .int .i64 (0), .str 1 49, .int .i64 (6), .int .i64 (0), .str 0 0, .int .i64 (8), .int .i64 (0), .str 0 0] 144 true 0 [6276, 6274, 6269, 6267, 6262, 6260, 6255]⟩
def e89 : IE := ⟨6534, .cells [.int .i64 (1), .str 1 49, .mnil, .pnil, .int .i64 (1)] 82 true 0 []⟩
def e90 : IE := ⟨6535, .cells [.ptr 6534 0, .bool false] 126 true 0 []⟩
def e91 : IE := ⟨5, .cells [.int .i64 (98), .int .i64 (1), .pnil, .map 4] 84 true 0 []⟩
def e92 : IE := ⟨7, .map [⟨.str 1 115, .ptr 1056 0, 1057⟩] 1⟩
def e93 : IE := ⟨24, .cells [.ptr 5 0, .ptr 11 0, .ptr 15 0, .ptr 19 0, .map 20, .map 21, .map 22, .ptr 23 0, .num 284 3 11 26, .snil, .str 0 0, .map 25, .map 26, .bool false, .int .i64 (0), .sl 3 0 2 1, .pnil, .int .i64 (0), .bool false, .bool false, .bool false, .fnil, .fnil, .fnil, .fnil, .fnil, .fnil, .fnil, .fnil] 58 true 0 []⟩
def e94 : IE := ⟨25, .map [⟨.str 49 4536225943939417771503557948882315342172805411708570201445402219000806174990941435791710664654742280249284721774978419, .ptr 367 0, 368⟩] 1⟩
def e95 : IE := ⟨1055, .cells [.int .i64 (1), .str 1 48, .mnil, .pnil, .int .i64 (1)] 82 true 0 []⟩
def e96 : IE := ⟨1364, .cells [.str 7 29382667542884198, .str 3 6430817, .str 5 219583488049, .str 9 1791937382317641920105] 9 true 0 [1363]⟩
def e97 : IE := ⟨5, .cells [.int .i64 (94), .int .i64 (1), .pnil, .map 4] 84 true 0 []⟩
def e98 : IE := ⟨24, .cells [.ptr 5 0, .ptr 11 0, .ptr 15 0, .ptr 19 0, .map 20, .map 21, .map 22, .ptr 23 0, .num 284 5 11 26, .snil, .str 0 0, .map 25, .map 26, .bool false, .int .i64 (0), .sl 3 0 2 1, .pnil, .int .i64 (0), .bool false, .bool false, .bool false, .fnil, .fnil, .fnil, .fnil, .fnil, .fnil, .fnil, .fnil] 58 true 0 []⟩
def e99 : IE := ⟨5, .cells [.int .i64 (99), .int .i64 (1), .pnil, .map 4] 84 true 0 []⟩
def e100 : IE := ⟨24, .cells [.ptr 5 0, .ptr 11 0, .ptr 15 0, .ptr 19 0, .map 20, .map 21, .map 22, .ptr 23 0, .num 284 0 11 26, .snil, .str 0 0, .map 25, .map 26, .bool false, .int .i64 (93), .sl 3 0 2 1, .pnil, .int .i64 (0), .bool false, .bool false, .bool false, .fnil, .fnil, .fnil, .fnil, .fnil, .fnil, .fnil, .fnil] 58 true 0 []⟩
def e101 : IE := ⟨25, .map [⟨.str 49 4536225943939417771503557948882315342172805411708570201445402219000806174990941435791710664654742280249284721774978419, .ptr 367 0, 368⟩, ⟨.str 9 1791937382317641920105, .ptr 1554 0, 1555⟩, ⟨.str 38 15939272629389644614333957709979953031171404150917260407900929848175104815848855893419517545, .ptr 2865 0, 2866⟩] 3⟩
def e102 : IE := ⟨3660, .cells [.str 2 26217, .str 1 48, .str 7 13827875387237747, .str 6 112602859662437, .str 1 49, .str 4 1852139636, .str 7 14109350363948403] 9 true 0 [3659]⟩
def e103 : IE := ⟨24, .cells [.ptr 5 0, .ptr 11 0, .ptr 15 0, .ptr 19 0, .map 20, .map 21, .map 22, .ptr 23 0, .num 284 10 11 26, .snil, .str 0 0, .map 25, .map 26, .bool false, .int .i64 (98), .sl 3 0 2 1, .pnil, .int .i64 (0), .bool false, .bool false, .bool false, .fnil, .fnil, .fnil, .fnil, .fnil, .fnil, .fnil, .fnil] 58 true 0 []⟩
def e104 : IE := ⟨25, .map [⟨.str 49 4536225943939417771503557948882315342172805411708570201445402219000806174990941435791710664654742280249284721774978419, .ptr 367 0, 368⟩, ⟨.str 9 1791937382317641920105, .ptr 1554 0, 1555⟩, ⟨.str 38 15939272629389644614333957709979953031171404150917260407900929848175104815848855893419517545, .ptr 2865 0, 2866⟩, ⟨.str 1 48, .ptr 3704 0, 3705⟩, ⟨.str 1 49, .ptr 3865 0, 3866⟩, ⟨.str 7 14109350363948403, .ptr 4048 0, 4049⟩, ⟨.str 50 1262799883240386316574143812401701511938247362517588368123705430079617916680511757712384812639363612081017734699775783540, .ptr 4511 0, 4512⟩] 7⟩
def e105 : IE := ⟨5411, .cells [.str 3 7959156, .str 7 33812673073410661, .str 2 28271, .str 5 491496043109, .str 1 109, .str 5 468695934323, .str 7 34177684928883046, .str 7 13827896862074227] 9 true 0 [5410]⟩
def e106 : IE := ⟨5, .cells [.int .i64 (96), .int .i64 (1), .pnil, .map 4] 84 true 0 []⟩
def e107 : IE := ⟨5, .cells [.int .i64 (97), .int .i64 (1), .pnil, .map 4] 84 true 0 []⟩
def e108 : IE := ⟨1513, .cells [.int .i64 (1), .str 1 49, .mnil, .pnil, .int .i64 (1)] 82 true 0 []⟩
def e109 : IE := ⟨1537, .cells [.int .i64 (1), .str 1 50, .mnil, .pnil, .int .i64 (1)] 82 true 0 []⟩
def e110 : IE := ⟨1055, .cells [.int .i64 (1), .str 1 49, .mnil, .pnil, .int .i64 (2)] 82 true 0 []⟩
def e111 : IE := ⟨5, .cells [.int .i64 (95), .int .i64 (1), .pnil, .map 4] 84 true 0 []⟩
def e112 : IE := ⟨25, .map [⟨.str 49 4536225943939417771503557948882315342172805411708570201445402219000806174990941435791710664654742280249284721774978419, .ptr 367 0, 368⟩, ⟨.str 9 1791937382317641920105, .ptr 1554 0, 1555⟩, ⟨.str 38 15939272629389644614333957709979953031171404150917260407900929848175104815848855893419517545, .ptr 2865 0, 2866⟩, ⟨.str 1 48, .ptr 3704 0, 3705⟩] 4⟩
def e113 : IE := ⟨25, .map [⟨.str 49 4536225943939417771503557948882315342172805411708570201445402219000806174990941435791710664654742280249284721774978419, .ptr 367 0, 368⟩, ⟨.str 9 1791937382317641920105, .ptr 1554 0, 1555⟩, ⟨.str 38 15939272629389644614333957709979953031171404150917260407900929848175104815848855893419517545, .ptr 2865 0, 2866⟩, ⟨.str 1 48, .ptr 3704 0, 3705⟩, ⟨.str 1 49, .ptr 3865 0, 3866⟩] 5⟩
def ca : Card := ⟨[.ptr 24 0, .str 49 4536225943939417771503557948882315342172805411708570201445402219000806174990941435791710664654742280249284721774978419, .int .i64 (100)], 360,
 [e0, e1, e2, e3, e4, e5, e6, e7, e8, e9, e10, e11, e12, e13, e14, e15, e16, e17, e18, e19, e20, e21, e22, e23, e24, e25, e26, e27, e28, e29, e30, e31, e32, e33, e34, e35, e36, e37, e38, e39, e40, e41, e42, e43, e44, e45],
 .agg [.int .i64 (0), .int .i64 (0), .str 1 52], 2857,
 [e0, e1, e46, e3, e47, e5, e6, e7, e8, e9, e10, e11, e12, e13, e14, e15, e16, e17, e48, e49, e50, e21, e22, e23, e24, e25, e26, e27, e28, e29, e30, e31, e32, e33, e34, e35, e36, e37, e38, e39, e40, e41, e42, e43, e44, e45, e51, e52, e53, e54, e55, e56, e57, e58, e59, e60, e61, e62]⟩
def cb : Card := ⟨[.ptr 24 0, .str 38 15939272629389644614333957709979953031171404150917260407900929848175104815848855893419517545, .int .i64 (100)], 2858,
 [e0, e1, e46, e3, e47, e5, e6, e7, e8, e9, e10, e11, e12, e13, e14, e15, e16, e17, e48, e49, e50, e21, e22, e23, e24, e25, e26, e27, e28, e29, e30, e31, e32, e33, e34, e35, e36, e37, e38, e39, e40, e41, e42, e43, e44, e45, e51, e52, e53, e54, e55, e56, e57, e58, e59, e60, e61, e62],
 .agg [.int .i64 (0), .int .i64 (0), .str 1 50], 4503,
 [e0, e1, e63, e3, e47, e5, e6, e7, e8, e9, e10, e11, e12, e13, e14, e15, e16, e17, e64, e65, e50, e21, e22, e23, e24, e25, e26, e27, e28, e29, e30, e31, e32, e33, e34, e35, e36, e37, e38, e39, e40, e41, e42, e43, e44, e45, e51, e52, e53, e54, e55, e56, e66, e58, e59, e60, e61, e62, e67, e68, e69, e70, e71, e72, e73, e74]⟩
def cc : Card := ⟨[.ptr 24 0, .str 50 1262799883240386316574143812401701511938247362517588368123705430079617916680511757712384812639363612081017734699775783540, .int .i64 (100)], 4504,
 [e0, e1, e63, e3, e47, e5, e6, e7, e8, e9, e10, e11, e12, e13, e14, e15, e16, e17, e64, e65, e50, e21, e22, e23, e24, e25, e26, e27, e28, e29, e30, e31, e32, e33, e34, e35, e36, e37, e38, e39, e40, e41, e42, e43, e44, e45, e51, e52, e53, e54, e55, e56, e66, e58, e59, e60, e61, e62, e67, e68, e69, e70, e71, e72, e73, e74],
 .agg [.int .i64 (0), .int .i64 (0), .str 1 120], 6587,
 [e0, e1, e75, e3, e76, e5, e6, e7, e8, e9, e10, e11, e12, e13, e14, e15, e16, e17, e77, e78, e50, e21, e22, e23, e24, e25, e26, e27, e28, e29, e30, e31, e32, e33, e34, e35, e36, e37, e38, e39, e40, e41, e42, e43, e44, e45, e51, e52, e53, e54, e55, e56, e66, e58, e59, e60, e61, e62, e67, e68, e69, e70, e71, e72, e73, e74, e79, e80, e81, e82, e83, e84, e85, e86, e87, e88, e89, e90]⟩
def c34 : Card := ⟨[.ptr 24 0, .sl 1364 0 4 1], 1394,
 [e0, e1, e91, e3, e92, e5, e6, e7, e8, e9, e10, e11, e12, e13, e14, e15, e16, e17, e93, e94, e20, e21, e22, e23, e24, e25, e26, e27, e28, e29, e30, e31, e32, e33, e34, e35, e36, e37, e38, e39, e40, e41, e42, e43, e44, e45, e51, e52, e95, e54, e96],
 .agg [.int .i64 (0), .int .i64 (0), .str 0 0], 2610,
 [e0, e1, e97, e3, e47, e5, e6, e7, e8, e9, e10, e11, e12, e13, e14, e15, e16, e17, e98, e49, e50, e21, e22, e23, e24, e25, e26, e27, e28, e29, e30, e31, e32, e33, e34, e35, e36, e37, e38, e39, e40, e41, e42, e43, e44, e45, e51, e52, e53, e54, e96, e55, e56, e57, e58, e59, e60, e61, e62]⟩
def c31 : Card := ⟨[.ptr 24 0, .sl 3660 0 7 1], 3690,
 [e0, e1, e99, e3, e47, e5, e6, e7, e8, e9, e10, e11, e12, e13, e14, e15, e16, e17, e100, e101, e50, e21, e22, e23, e24, e25, e26, e27, e28, e29, e30, e31, e32, e33, e34, e35, e36, e37, e38, e39, e40, e41, e42, e43, e44, e45, e51, e52, e53, e54, e55, e56, e57, e58, e59, e60, e61, e62, e67, e68, e102],
 .agg [.int .i64 (0), .int .i64 (0), .str 1 50], 4479,
 [e0, e1, e91, e3, e47, e5, e6, e7, e8, e9, e10, e11, e12, e13, e14, e15, e16, e17, e48, e65, e50, e21, e22, e23, e24, e25, e26, e27, e28, e29, e30, e31, e32, e33, e34, e35, e36, e37, e38, e39, e40, e41, e42, e43, e44, e45, e51, e52, e53, e54, e55, e56, e66, e58, e59, e60, e61, e62, e67, e68, e102, e69, e70, e71, e72, e73, e74]⟩
def c41 : Card := ⟨[.ptr 24 0, .sl 5411 0 8 1], 5441,
 [e0, e1, e99, e3, e47, e5, e6, e7, e8, e9, e10, e11, e12, e13, e14, e15, e16, e17, e103, e104, e50, e21, e22, e23, e24, e25, e26, e27, e28, e29, e30, e31, e32, e33, e34, e35, e36, e37, e38, e39, e40, e41, e42, e43, e44, e45, e51, e52, e53, e54, e55, e56, e66, e58, e59, e60, e61, e62, e67, e68, e69, e70, e71, e72, e73, e74, e79, e80, e105],
 .agg [.int .i64 (0), .int .i64 (0), .str 1 120], 6563,
 [e0, e1, e106, e3, e76, e5, e6, e7, e8, e9, e10, e11, e12, e13, e14, e15, e16, e17, e64, e78, e50, e21, e22, e23, e24, e25, e26, e27, e28, e29, e30, e31, e32, e33, e34, e35, e36, e37, e38, e39, e40, e41, e42, e43, e44, e45, e51, e52, e53, e54, e55, e56, e66, e58, e59, e60, e61, e62, e67, e68, e69, e70, e71, e72, e73, e74, e79, e80, e105, e81, e82, e83, e84, e85, e86, e87, e88, e89, e90]⟩
def c27a : Card := ⟨[.ptr 24 0, .str 9 1791937382317641920105], 1552,
 [e0, e1, e107, e3, e47, e5, e6, e7, e8, e9, e10, e11, e12, e13, e14, e15, e16, e17, e93, e94, e50, e21, e22, e23, e24, e25, e26, e27, e28, e29, e30, e31, e32, e33, e34, e35, e36, e37, e38, e39, e40, e41, e42, e43, e44, e45, e51, e52, e95, e54, e55, e56, e108, e58, e109, e60],
 .agg [.int .i64 (0), .int .i64 (0), .str 1 49], 2116,
 [e0, e1, e106, e3, e47, e5, e6, e7, e8, e9, e10, e11, e12, e13, e14, e15, e16, e17, e98, e49, e50, e21, e22, e23, e24, e25, e26, e27, e28, e29, e30, e31, e32, e33, e34, e35, e36, e37, e38, e39, e40, e41, e42, e43, e44, e45, e51, e52, e110, e54, e55, e56, e108, e58, e109, e60, e61, e62]⟩
def c27b : Card := ⟨[.ptr 24 0, .str 9 1791937382317641920105], 2182,
 [e0, e1, e111, e3, e47, e5, e6, e7, e8, e9, e10, e11, e12, e13, e14, e15, e16, e17, e98, e49, e50, e21, e22, e23, e24, e25, e26, e27, e28, e29, e30, e31, e32, e33, e34, e35, e36, e37, e38, e39, e40, e41, e42, e43, e44, e45, e51, e52, e110, e54, e55, e56, e57, e58, e59, e60, e61, e62],
 .agg [.int .i64 (0), .int .i64 (0), .str 1 52], 2604,
 [e0, e1, e97, e3, e47, e5, e6, e7, e8, e9, e10, e11, e12, e13, e14, e15, e16, e17, e98, e49, e50, e21, e22, e23, e24, e25, e26, e27, e28, e29, e30, e31, e32, e33, e34, e35, e36, e37, e38, e39, e40, e41, e42, e43, e44, e45, e51, e52, e53, e54, e55, e56, e57, e58, e59, e60, e61, e62]⟩
def c86 : Card := ⟨[.ptr 24 0, .str 1 49], 3863,
 [e0, e1, e99, e3, e47, e5, e6, e7, e8, e9, e10, e11, e12, e13, e14, e15, e16, e17, e100, e112, e50, e21, e22, e23, e24, e25, e26, e27, e28, e29, e30, e31, e32, e33, e34, e35, e36, e37, e38, e39, e40, e41, e42, e43, e44, e45, e51, e52, e53, e54, e55, e56, e57, e58, e59, e60, e61, e62, e67, e68, e69, e70],
 .tup [.bool true, .agg [.int .i64 (0), .int .i64 (0), .str 0 0]], 4044,
 [e0, e1, e99, e3, e47, e5, e6, e7, e8, e9, e10, e11, e12, e13, e14, e15, e16, e17, e100, e113, e50, e21, e22, e23, e24, e25, e26, e27, e28, e29, e30, e31, e32, e33, e34, e35, e36, e37, e38, e39, e40, e41, e42, e43, e44, e45, e51, e52, e53, e54, e55, e56, e57, e58, e59, e60, e61, e62, e67, e68, e69, e70, e71, e72]⟩
def none0 : zaR := fun _ => none
theorem zcu (P : Program) : KnownOk P none0 := ⟨fun f k h => (by cases h), fun f k h => (by cases h), fun f k h => (by cases h)⟩
def I27 : zaR := zbB none0 16 [c27a, c27b]
def I34 : zaR := zbB none0 61 [c34]
def I86 : zaR := zbB none0 106 [c86]
def I31 : zaR := zbB none0 58 [c31]
def I41 : zaR := zbB none0 68 [c41]
end Go.Xe.Cards
end
end
