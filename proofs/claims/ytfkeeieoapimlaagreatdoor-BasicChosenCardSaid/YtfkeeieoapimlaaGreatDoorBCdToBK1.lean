/-
  A card of the second form: what the program does at one call, shown by the kernel. Conditions: none.
-/
import Derived.Test.YtfkeeieoapimlaaGreatDoorB23ToBJ0
set_option linter.unusedVariables false
set_option linter.unusedSimpArgs false
set_option linter.unusedSectionVars false
set_option linter.deprecated false
section
open Go Go.Proofs Go.Proofs.YtfkeeieoapimlaaGreatDoor Go.Xe
noncomputable section
namespace Go.Xe.Cards
set_option maxRecDepth 1000000
def lB : List IE := [⟨3, .cells [.func (.func 20) [] [], .func (.func 11) [] []] 38 true 0 [2]⟩,
 ⟨4, .map [] 0⟩,
 ⟨6, .map [⟨.int .i64 (0), .map 7, 8⟩] 1⟩,
 ⟨7, .map [⟨.str 4 1600614252, .ptr 361 0, 362⟩] 1⟩,
 ⟨9, .map [⟨.str 0 0, .int .i64 (0), 10⟩] 1⟩,
 ⟨11, .cells [.map 6, .snil, .map 9, .int .i64 (0)] 124 true 0 []⟩,
 ⟨12, .map [⟨.str 2 14906, .ptr 13 0, 14⟩] 1⟩,
 ⟨13, .cells [.snil, .snil, .str 0 0] 150 true 0 []⟩,
 ⟨15, .cells [.map 12] 153 true 0 []⟩,
 ⟨16, .map [⟨.str 5 499918256698, .ptr 28 0, 29⟩, ⟨.str 7 32762643747256890, .ptr 37 0, 38⟩, ⟨.str 6 128039038761530, .ptr 46 0, 47⟩, ⟨.str 6 119165853973050, .ptr 55 0, 56⟩, ⟨.str 6 125827381803578, .ptr 64 0, 65⟩, ⟨.str 7 29382749079157306, .ptr 73 0, 74⟩, ⟨.str 7 32210684681206330, .ptr 82 0, 83⟩, ⟨.str 8 7958552634295728698, .ptr 91 0, 92⟩, ⟨.str 8 7308604897068464698, .ptr 100 0, 101⟩, ⟨.str 7 32493203369441850, .ptr 109 0, 110⟩, ⟨.str 4 1718172218, .ptr 285 0, 286⟩, ⟨.str 7 28548172627786298, .ptr 290 0, 291⟩, ⟨.str 5 491495242298, .ptr 295 0, 296⟩, ⟨.str 9 1925622500090458815034, .ptr 300 0, 301⟩, ⟨.str 6 123563749947962, .ptr 305 0, 306⟩, ⟨.str 6 125771379718714, .ptr 310 0, 311⟩, ⟨.str 8 7236833184827128378, .ptr 315 0, 316⟩, ⟨.str 8 8386093307106900538, .ptr 320 0, 321⟩, ⟨.str 7 32777964012911162, .ptr 325 0, 326⟩, ⟨.str 7 33618059397970490, .ptr 330 0, 331⟩, ⟨.str 5 521611262522, .ptr 335 0, 336⟩, ⟨.str 8 7521983798963288634, .ptr 340 0, 341⟩, ⟨.str 7 30224910846671418, .ptr 345 0, 346⟩, ⟨.str 10 479125239844692574812730, .ptr 350 0, 351⟩, ⟨.str 5 482905831994, .ptr 355 0, 356⟩] 25⟩,
 ⟨17, .map [] 0⟩,
 ⟨18, .map [⟨.int .i64 (1), .ptr 28 0, 30⟩, ⟨.int .i64 (2), .ptr 37 0, 39⟩, ⟨.int .i64 (3), .ptr 46 0, 48⟩, ⟨.int .i64 (4), .ptr 55 0, 57⟩, ⟨.int .i64 (5), .ptr 64 0, 66⟩, ⟨.int .i64 (6), .ptr 73 0, 75⟩, ⟨.int .i64 (7), .ptr 82 0, 84⟩, ⟨.int .i64 (8), .ptr 91 0, 93⟩, ⟨.int .i64 (9), .ptr 100 0, 102⟩, ⟨.int .i64 (10), .ptr 109 0, 111⟩, ⟨.num 284 0 11 26, .ptr 285 0, 287⟩, ⟨.num 284 1 11 26, .ptr 290 0, 292⟩, ⟨.num 284 2 11 26, .ptr 295 0, 297⟩, ⟨.num 284 3 11 26, .ptr 300 0, 302⟩, ⟨.num 284 4 11 26, .ptr 305 0, 307⟩, ⟨.num 284 5 11 26, .ptr 310 0, 312⟩, ⟨.num 284 6 11 26, .ptr 315 0, 317⟩, ⟨.num 284 7 11 26, .ptr 320 0, 322⟩, ⟨.num 284 8 11 26, .ptr 325 0, 327⟩, ⟨.num 284 9 11 26, .ptr 330 0, 332⟩, ⟨.num 284 10 11 26, .ptr 335 0, 337⟩, ⟨.num 284 11 11 26, .ptr 340 0, 342⟩, ⟨.num 284 12 11 26, .ptr 345 0, 347⟩, ⟨.num 284 13 11 26, .ptr 350 0, 352⟩, ⟨.num 284 14 11 26, .ptr 355 0, 357⟩] 25⟩,
 ⟨19, .cells [.map 16, .map 17, .map 18, .int .i64 (25), .int .i64 (25)] 157 true 0 []⟩,
 ⟨20, .map [⟨.int .i64 (1), .func (.func 47) [] [], 31⟩, ⟨.int .i64 (2), .func (.func 48) [] [], 40⟩, ⟨.int .i64 (3), .func (.func 49) [] [], 49⟩, ⟨.int .i64 (4), .func (.func 51) [] [], 58⟩, ⟨.int .i64 (5), .func (.func 52) [] [], 67⟩, ⟨.int .i64 (6), .func (.func 53) [] [], 76⟩, ⟨.int .i64 (7), .func (.func 54) [] [], 85⟩, ⟨.int .i64 (8), .func (.func 55) [] [], 94⟩, ⟨.int .i64 (9), .func (.func 56) [] [], 103⟩, ⟨.int .i64 (10), .func (.func 57) [] [], 112⟩, ⟨.num 284 0 11 26, .func (.func 58) [] [], 288⟩, ⟨.num 284 1 11 26, .func (.func 59) [] [], 293⟩, ⟨.num 284 2 11 26, .func (.func 60) [] [], 298⟩, ⟨.num 284 3 11 26, .func (.func 61) [] [], 303⟩, ⟨.num 284 4 11 26, .func (.func 62) [] [], 308⟩, ⟨.num 284 5 11 26, .func (.func 63) [] [], 313⟩, ⟨.num 284 6 11 26, .func (.func 64) [] [], 318⟩, ⟨.num 284 7 11 26, .func (.func 65) [] [], 323⟩, ⟨.num 284 8 11 26, .func (.func 66) [] [], 328⟩, ⟨.num 284 9 11 26, .func (.func 67) [] [], 333⟩, ⟨.num 284 10 11 26, .func (.func 68) [] [], 338⟩, ⟨.num 284 11 11 26, .func (.func 69) [] [], 343⟩, ⟨.num 284 12 11 26, .func (.func 70) [] [], 348⟩, ⟨.num 284 13 11 26, .func (.func 72) [] [], 353⟩, ⟨.num 284 14 11 26, .func (.func 73) [] [], 358⟩] 25⟩,
 ⟨21, .map [⟨.int .i64 (1), .inil, 32⟩, ⟨.int .i64 (2), .inil, 41⟩, ⟨.int .i64 (3), .inil, 50⟩, ⟨.int .i64 (4), .inil, 59⟩, ⟨.int .i64 (5), .inil, 68⟩, ⟨.int .i64 (6), .inil, 77⟩, ⟨.int .i64 (7), .inil, 86⟩, ⟨.int .i64 (8), .inil, 95⟩, ⟨.int .i64 (9), .inil, 104⟩, ⟨.int .i64 (10), .inil, 113⟩, ⟨.num 284 0 11 26, .inil, 289⟩, ⟨.num 284 1 11 26, .inil, 294⟩, ⟨.num 284 2 11 26, .inil, 299⟩, ⟨.num 284 3 11 26, .inil, 304⟩, ⟨.num 284 4 11 26, .inil, 309⟩, ⟨.num 284 5 11 26, .inil, 314⟩, ⟨.num 284 6 11 26, .inil, 319⟩, ⟨.num 284 7 11 26, .inil, 324⟩, ⟨.num 284 8 11 26, .inil, 329⟩, ⟨.num 284 9 11 26, .inil, 334⟩, ⟨.num 284 10 11 26, .inil, 339⟩, ⟨.num 284 11 11 26, .inil, 344⟩, ⟨.num 284 12 11 26, .inil, 349⟩, ⟨.num 284 13 11 26, .inil, 354⟩, ⟨.num 284 14 11 26, .inil, 359⟩] 25⟩,
 ⟨22, .map [] 0⟩,
 ⟨23, .cells [.int .i64 (0), .int .i64 (0), .str 2 14906, .snil, .pnil, .inil] 110 true 0 []⟩,
 ⟨26, .map [] 0⟩,
 ⟨28, .cells [.int .i64 (1), .str 5 499918256698, .bool false, .pnil, .snil] 235 true 0 []⟩,
 ⟨37, .cells [.int .i64 (2), .str 7 32762643747256890, .bool false, .pnil, .snil] 235 true 0 []⟩,
 ⟨46, .cells [.int .i64 (3), .str 6 128039038761530, .bool false, .pnil, .snil] 235 true 0 []⟩,
 ⟨55, .cells [.int .i64 (4), .str 6 119165853973050, .bool false, .pnil, .snil] 235 true 0 []⟩,
 ⟨64, .cells [.int .i64 (5), .str 6 125827381803578, .bool false, .pnil, .snil] 235 true 0 []⟩,
 ⟨73, .cells [.int .i64 (6), .str 7 29382749079157306, .bool false, .pnil, .snil] 235 true 0 []⟩,
 ⟨82, .cells [.int .i64 (7), .str 7 32210684681206330, .bool false, .pnil, .snil] 235 true 0 []⟩,
 ⟨91, .cells [.int .i64 (8), .str 8 7958552634295728698, .bool false, .pnil, .snil] 235 true 0 []⟩,
 ⟨100, .cells [.int .i64 (9), .str 8 7308604897068464698, .bool false, .pnil, .snil] 235 true 0 []⟩,
 ⟨109, .cells [.int .i64 (10), .str 7 32493203369441850, .bool false, .pnil, .snil] 235 true 0 []⟩,
 ⟨285, .cells [.num 284 0 11 26, .str 4 1718172218, .bool false, .pnil, .snil] 235 true 0 []⟩,
 ⟨290, .cells [.num 284 1 11 26, .str 7 28548172627786298, .bool false, .pnil, .snil] 235 true 0 []⟩,
 ⟨295, .cells [.num 284 2 11 26, .str 5 491495242298, .bool false, .pnil, .snil] 235 true 0 []⟩,
 ⟨300, .cells [.num 284 3 11 26, .str 9 1925622500090458815034, .bool false, .pnil, .snil] 235 true 0 []⟩,
 ⟨305, .cells [.num 284 4 11 26, .str 6 123563749947962, .bool false, .pnil, .snil] 235 true 0 []⟩,
 ⟨310, .cells [.num 284 5 11 26, .str 6 125771379718714, .bool false, .pnil, .snil] 235 true 0 []⟩,
 ⟨315, .cells [.num 284 6 11 26, .str 8 7236833184827128378, .bool false, .pnil, .snil] 235 true 0 []⟩,
 ⟨320, .cells [.num 284 7 11 26, .str 8 8386093307106900538, .bool false, .pnil, .snil] 235 true 0 []⟩,
 ⟨325, .cells [.num 284 8 11 26, .str 7 32777964012911162, .bool false, .pnil, .snil] 235 true 0 []⟩,
 ⟨330, .cells [.num 284 9 11 26, .str 7 33618059397970490, .bool false, .pnil, .snil] 235 true 0 []⟩,
 ⟨335, .cells [.num 284 10 11 26, .str 5 521611262522, .bool false, .pnil, .snil] 235 true 0 []⟩,
 ⟨340, .cells [.num 284 11 11 26, .str 8 7521983798963288634, .bool false, .pnil, .snil] 235 true 0 []⟩,
 ⟨345, .cells [.num 284 12 11 26, .str 7 30224910846671418, .bool false, .pnil, .snil] 235 true 0 []⟩,
 ⟨350, .cells [.num 284 13 11 26, .str 10 479125239844692574812730, .bool false, .pnil, .snil] 235 true 0 []⟩,
 ⟨355, .cells [.num 284 14 11 26, .str 5 482905831994, .bool false, .pnil, .snil] 235 true 0 []⟩,
 ⟨360, .cells [.int .i64 (1), .str 0 0, .mnil, .pnil, .int .i64 (1)] 82 true 0 []⟩,
 ⟨361, .cells [.ptr 360 0, .bool false] 126 true 0 []⟩]
def lS0 : List IE := [⟨3, .cells [.func (.func 20) [] [], .func (.func 11) [] []] 38 true 0 [2]⟩,
 ⟨4, .map [] 0⟩,
 ⟨5, .cells [.int .i64 (0), .int .i64 (0), .pnil, .map 4] 84 true 0 []⟩,
 ⟨6, .map [⟨.int .i64 (0), .map 7, 8⟩] 1⟩,
 ⟨7, .map [] 0⟩,
 ⟨9, .map [⟨.str 0 0, .int .i64 (0), 10⟩] 1⟩,
 ⟨11, .cells [.map 6, .snil, .map 9, .int .i64 (0)] 124 true 0 []⟩,
 ⟨12, .map [⟨.str 2 14906, .ptr 13 0, 14⟩] 1⟩,
 ⟨13, .cells [.snil, .snil, .str 0 0] 150 true 0 []⟩,
 ⟨15, .cells [.map 12] 153 true 0 []⟩,
 ⟨16, .map [⟨.str 5 499918256698, .ptr 28 0, 29⟩, ⟨.str 7 32762643747256890, .ptr 37 0, 38⟩, ⟨.str 6 128039038761530, .ptr 46 0, 47⟩, ⟨.str 6 119165853973050, .ptr 55 0, 56⟩, ⟨.str 6 125827381803578, .ptr 64 0, 65⟩, ⟨.str 7 29382749079157306, .ptr 73 0, 74⟩, ⟨.str 7 32210684681206330, .ptr 82 0, 83⟩, ⟨.str 8 7958552634295728698, .ptr 91 0, 92⟩, ⟨.str 8 7308604897068464698, .ptr 100 0, 101⟩, ⟨.str 7 32493203369441850, .ptr 109 0, 110⟩, ⟨.str 4 1718172218, .ptr 285 0, 286⟩, ⟨.str 7 28548172627786298, .ptr 290 0, 291⟩, ⟨.str 5 491495242298, .ptr 295 0, 296⟩, ⟨.str 9 1925622500090458815034, .ptr 300 0, 301⟩, ⟨.str 6 123563749947962, .ptr 305 0, 306⟩, ⟨.str 6 125771379718714, .ptr 310 0, 311⟩, ⟨.str 8 7236833184827128378, .ptr 315 0, 316⟩, ⟨.str 8 8386093307106900538, .ptr 320 0, 321⟩, ⟨.str 7 32777964012911162, .ptr 325 0, 326⟩, ⟨.str 7 33618059397970490, .ptr 330 0, 331⟩, ⟨.str 5 521611262522, .ptr 335 0, 336⟩, ⟨.str 8 7521983798963288634, .ptr 340 0, 341⟩, ⟨.str 7 30224910846671418, .ptr 345 0, 346⟩, ⟨.str 10 479125239844692574812730, .ptr 350 0, 351⟩, ⟨.str 5 482905831994, .ptr 355 0, 356⟩] 25⟩,
 ⟨17, .map [] 0⟩,
 ⟨18, .map [⟨.int .i64 (1), .ptr 28 0, 30⟩, ⟨.int .i64 (2), .ptr 37 0, 39⟩, ⟨.int .i64 (3), .ptr 46 0, 48⟩, ⟨.int .i64 (4), .ptr 55 0, 57⟩, ⟨.int .i64 (5), .ptr 64 0, 66⟩, ⟨.int .i64 (6), .ptr 73 0, 75⟩, ⟨.int .i64 (7), .ptr 82 0, 84⟩, ⟨.int .i64 (8), .ptr 91 0, 93⟩, ⟨.int .i64 (9), .ptr 100 0, 102⟩, ⟨.int .i64 (10), .ptr 109 0, 111⟩, ⟨.num 284 0 11 26, .ptr 285 0, 287⟩, ⟨.num 284 1 11 26, .ptr 290 0, 292⟩, ⟨.num 284 2 11 26, .ptr 295 0, 297⟩, ⟨.num 284 3 11 26, .ptr 300 0, 302⟩, ⟨.num 284 4 11 26, .ptr 305 0, 307⟩, ⟨.num 284 5 11 26, .ptr 310 0, 312⟩, ⟨.num 284 6 11 26, .ptr 315 0, 317⟩, ⟨.num 284 7 11 26, .ptr 320 0, 322⟩, ⟨.num 284 8 11 26, .ptr 325 0, 327⟩, ⟨.num 284 9 11 26, .ptr 330 0, 332⟩, ⟨.num 284 10 11 26, .ptr 335 0, 337⟩, ⟨.num 284 11 11 26, .ptr 340 0, 342⟩, ⟨.num 284 12 11 26, .ptr 345 0, 347⟩, ⟨.num 284 13 11 26, .ptr 350 0, 352⟩, ⟨.num 284 14 11 26, .ptr 355 0, 357⟩] 25⟩,
 ⟨19, .cells [.map 16, .map 17, .map 18, .int .i64 (25), .int .i64 (25)] 157 true 0 []⟩,
 ⟨20, .map [⟨.int .i64 (1), .func (.func 47) [] [], 31⟩, ⟨.int .i64 (2), .func (.func 48) [] [], 40⟩, ⟨.int .i64 (3), .func (.func 49) [] [], 49⟩, ⟨.int .i64 (4), .func (.func 51) [] [], 58⟩, ⟨.int .i64 (5), .func (.func 52) [] [], 67⟩, ⟨.int .i64 (6), .func (.func 53) [] [], 76⟩, ⟨.int .i64 (7), .func (.func 54) [] [], 85⟩, ⟨.int .i64 (8), .func (.func 55) [] [], 94⟩, ⟨.int .i64 (9), .func (.func 56) [] [], 103⟩, ⟨.int .i64 (10), .func (.func 57) [] [], 112⟩, ⟨.num 284 0 11 26, .func (.func 58) [] [], 288⟩, ⟨.num 284 1 11 26, .func (.func 59) [] [], 293⟩, ⟨.num 284 2 11 26, .func (.func 60) [] [], 298⟩, ⟨.num 284 3 11 26, .func (.func 61) [] [], 303⟩, ⟨.num 284 4 11 26, .func (.func 62) [] [], 308⟩, ⟨.num 284 5 11 26, .func (.func 63) [] [], 313⟩, ⟨.num 284 6 11 26, .func (.func 64) [] [], 318⟩, ⟨.num 284 7 11 26, .func (.func 65) [] [], 323⟩, ⟨.num 284 8 11 26, .func (.func 66) [] [], 328⟩, ⟨.num 284 9 11 26, .func (.func 67) [] [], 333⟩, ⟨.num 284 10 11 26, .func (.func 68) [] [], 338⟩, ⟨.num 284 11 11 26, .func (.func 69) [] [], 343⟩, ⟨.num 284 12 11 26, .func (.func 70) [] [], 348⟩, ⟨.num 284 13 11 26, .func (.func 72) [] [], 353⟩, ⟨.num 284 14 11 26, .func (.func 73) [] [], 358⟩] 25⟩,
 ⟨21, .map [⟨.int .i64 (1), .inil, 32⟩, ⟨.int .i64 (2), .inil, 41⟩, ⟨.int .i64 (3), .inil, 50⟩, ⟨.int .i64 (4), .inil, 59⟩, ⟨.int .i64 (5), .inil, 68⟩, ⟨.int .i64 (6), .inil, 77⟩, ⟨.int .i64 (7), .inil, 86⟩, ⟨.int .i64 (8), .inil, 95⟩, ⟨.int .i64 (9), .inil, 104⟩, ⟨.int .i64 (10), .inil, 113⟩, ⟨.num 284 0 11 26, .inil, 289⟩, ⟨.num 284 1 11 26, .inil, 294⟩, ⟨.num 284 2 11 26, .inil, 299⟩, ⟨.num 284 3 11 26, .inil, 304⟩, ⟨.num 284 4 11 26, .inil, 309⟩, ⟨.num 284 5 11 26, .inil, 314⟩, ⟨.num 284 6 11 26, .inil, 319⟩, ⟨.num 284 7 11 26, .inil, 324⟩, ⟨.num 284 8 11 26, .inil, 329⟩, ⟨.num 284 9 11 26, .inil, 334⟩, ⟨.num 284 10 11 26, .inil, 339⟩, ⟨.num 284 11 11 26, .inil, 344⟩, ⟨.num 284 12 11 26, .inil, 349⟩, ⟨.num 284 13 11 26, .inil, 354⟩, ⟨.num 284 14 11 26, .inil, 359⟩] 25⟩,
 ⟨22, .map [] 0⟩,
 ⟨23, .cells [.int .i64 (0), .int .i64 (0), .str 2 14906, .snil, .pnil, .inil] 110 true 0 []⟩,
 ⟨24, .cells [.ptr 5 0, .ptr 11 0, .ptr 15 0, .ptr 19 0, .map 20, .map 21, .map 22, .ptr 23 0, .int .i64 (0), .snil, .str 0 0, .map 25, .map 26, .bool false, .int .i64 (0), .sl 3 0 2 1, .pnil, .int .i64 (0), .bool false, .bool false, .bool false, .fnil, .fnil, .fnil, .fnil, .fnil, .fnil, .fnil, .fnil] 58 true 0 []⟩,
 ⟨25, .map [] 0⟩,
 ⟨26, .map [] 0⟩,
 ⟨28, .cells [.int .i64 (1), .str 5 499918256698, .bool false, .pnil, .snil] 235 true 0 []⟩,
 ⟨37, .cells [.int .i64 (2), .str 7 32762643747256890, .bool false, .pnil, .snil] 235 true 0 []⟩,
 ⟨46, .cells [.int .i64 (3), .str 6 128039038761530, .bool false, .pnil, .snil] 235 true 0 []⟩,
 ⟨55, .cells [.int .i64 (4), .str 6 119165853973050, .bool false, .pnil, .snil] 235 true 0 []⟩,
 ⟨64, .cells [.int .i64 (5), .str 6 125827381803578, .bool false, .pnil, .snil] 235 true 0 []⟩,
 ⟨73, .cells [.int .i64 (6), .str 7 29382749079157306, .bool false, .pnil, .snil] 235 true 0 []⟩,
 ⟨82, .cells [.int .i64 (7), .str 7 32210684681206330, .bool false, .pnil, .snil] 235 true 0 []⟩,
 ⟨91, .cells [.int .i64 (8), .str 8 7958552634295728698, .bool false, .pnil, .snil] 235 true 0 []⟩,
 ⟨100, .cells [.int .i64 (9), .str 8 7308604897068464698, .bool false, .pnil, .snil] 235 true 0 []⟩,
 ⟨109, .cells [.int .i64 (10), .str 7 32493203369441850, .bool false, .pnil, .snil] 235 true 0 []⟩,
 ⟨285, .cells [.num 284 0 11 26, .str 4 1718172218, .bool false, .pnil, .snil] 235 true 0 []⟩,
 ⟨290, .cells [.num 284 1 11 26, .str 7 28548172627786298, .bool false, .pnil, .snil] 235 true 0 []⟩,
 ⟨295, .cells [.num 284 2 11 26, .str 5 491495242298, .bool false, .pnil, .snil] 235 true 0 []⟩,
 ⟨300, .cells [.num 284 3 11 26, .str 9 1925622500090458815034, .bool false, .pnil, .snil] 235 true 0 []⟩,
 ⟨305, .cells [.num 284 4 11 26, .str 6 123563749947962, .bool false, .pnil, .snil] 235 true 0 []⟩,
 ⟨310, .cells [.num 284 5 11 26, .str 6 125771379718714, .bool false, .pnil, .snil] 235 true 0 []⟩,
 ⟨315, .cells [.num 284 6 11 26, .str 8 7236833184827128378, .bool false, .pnil, .snil] 235 true 0 []⟩,
 ⟨320, .cells [.num 284 7 11 26, .str 8 8386093307106900538, .bool false, .pnil, .snil] 235 true 0 []⟩,
 ⟨325, .cells [.num 284 8 11 26, .str 7 32777964012911162, .bool false, .pnil, .snil] 235 true 0 []⟩,
 ⟨330, .cells [.num 284 9 11 26, .str 7 33618059397970490, .bool false, .pnil, .snil] 235 true 0 []⟩,
 ⟨335, .cells [.num 284 10 11 26, .str 5 521611262522, .bool false, .pnil, .snil] 235 true 0 []⟩,
 ⟨340, .cells [.num 284 11 11 26, .str 8 7521983798963288634, .bool false, .pnil, .snil] 235 true 0 []⟩,
 ⟨345, .cells [.num 284 12 11 26, .str 7 30224910846671418, .bool false, .pnil, .snil] 235 true 0 []⟩,
 ⟨350, .cells [.num 284 13 11 26, .str 10 479125239844692574812730, .bool false, .pnil, .snil] 235 true 0 []⟩,
 ⟨355, .cells [.num 284 14 11 26, .str 5 482905831994, .bool false, .pnil, .snil] 235 true 0 []⟩]
def rS1 : List IE := [⟨5, .cells [.int .i64 (0), .int .i64 (0), .pnil, .map 4] 84 true 0 []⟩,
 ⟨24, .cells [.ptr 5 0, .ptr 11 0, .ptr 15 0, .ptr 19 0, .map 20, .map 21, .map 22, .ptr 23 0, .int .i64 (0), .snil, .str 0 0, .map 25, .map 26, .bool false, .int .i64 (0), .sl 3 0 2 1, .pnil, .int .i64 (0), .bool false, .bool false, .bool false, .fnil, .fnil, .fnil, .fnil, .fnil, .fnil, .fnil, .fnil] 58 true 0 []⟩,
 ⟨25, .map [] 0⟩]
def lS1 : List IE := rS1 ++ lB
def rS3 : List IE := [⟨5, .cells [.int .i64 (100), .int .i64 (1), .pnil, .map 4] 84 true 0 []⟩,
 ⟨24, .cells [.ptr 5 0, .ptr 11 0, .ptr 15 0, .ptr 19 0, .map 20, .map 21, .map 22, .ptr 23 0, .int .i64 (0), .snil, .str 0 0, .map 25, .map 26, .bool false, .int .i64 (0), .sl 3 0 2 1, .pnil, .int .i64 (0), .bool false, .bool false, .bool false, .fnil, .fnil, .fnil, .fnil, .fnil, .fnil, .fnil, .fnil] 58 true 0 []⟩,
 ⟨25, .map [] 0⟩]
def lS3 : List IE := rS3 ++ lB
def rS4 (m C : Nat) : List IE := [⟨5, .cells [.int .i64 (100), .int .i64 (1), .pnil, .map 4] 84 true 0 []⟩,
 ⟨24, .cells [.ptr 5 0, .ptr 11 0, .ptr 15 0, .ptr 19 0, .map 20, .map 21, .map 22, .ptr 23 0, .int .i64 (0), .snil, .str 0 0, .map 25, .map 26, .bool false, .int .i64 (0), .sl 3 0 2 1, .pnil, .int .i64 (0), .bool false, .bool false, .bool false, .fnil, .fnil, .fnil, .fnil, .fnil, .fnil, .fnil, .fnil] 58 true 0 []⟩,
 ⟨25, .map [⟨.str (m + 14) C, .ptr 363 0, 364⟩] 1⟩]
def lS4 (m C : Nat) : List IE := rS4 m C ++ lB
def rS5 (m C : Nat) : List IE := [⟨5, .cells [.int .i64 (99), .int .i64 (1), .pnil, .map 4] 84 true 0 []⟩,
 ⟨24, .cells [.ptr 5 0, .ptr 11 0, .ptr 15 0, .ptr 19 0, .map 20, .map 21, .map 22, .ptr 23 0, .int .i64 (0), .snil, .str 0 0, .map 25, .map 26, .bool false, .int .i64 (0), .sl 3 0 2 1, .pnil, .int .i64 (0), .bool false, .bool false, .bool false, .fnil, .fnil, .fnil, .fnil, .fnil, .fnil, .fnil, .fnil] 58 true 0 []⟩,
 ⟨25, .map [⟨.str (m + 14) C, .ptr 363 0, 364⟩] 1⟩]
def lS5 (m C : Nat) : List IE := rS5 m C ++ lB
def rS8 (m C : Nat) : List IE := [⟨5, .cells [.int .i64 (99), .int .i64 (1), .pnil, .map 4] 84 true 0 []⟩,
 ⟨24, .cells [.ptr 5 0, .ptr 11 0, .ptr 15 0, .ptr 19 0, .map 20, .map 21, .map 22, .ptr 23 0, .num 284 0 11 26, .snil, .str 0 0, .map 25, .map 26, .bool false, .int .i64 (0), .sl 3 0 2 1, .pnil, .int .i64 (0), .bool false, .bool false, .bool false, .fnil, .fnil, .fnil, .fnil, .fnil, .fnil, .fnil, .fnil] 58 true 0 []⟩,
 ⟨25, .map [⟨.str (m + 14) C, .ptr 363 0, 364⟩] 1⟩]
def lS8 (m C : Nat) : List IE := rS8 m C ++ lB
def rC0 (m C : Nat) : List IE := [⟨5, .cells [.int .i64 (99), .int .i64 (1), .pnil, .map 4] 84 true 0 []⟩,
 ⟨24, .cells [.ptr 5 0, .ptr 11 0, .ptr 15 0, .ptr 19 0, .map 20, .map 21, .map 22, .ptr 23 0, .num 284 0 11 26, .snil, .str 0 0, .map 25, .map 26, .bool false, .int .i64 (0), .sl 3 0 2 1, .pnil, .int .i64 (0), .bool false, .bool false, .bool false, .fnil, .fnil, .fnil, .fnil, .fnil, .fnil, .fnil, .fnil] 58 true 0 []⟩,
 ⟨25, .map [⟨.str (m + 14) C, .ptr 363 0, 364⟩, ⟨.str 1 48, .ptr 367 0, 368⟩] 2⟩,
 ⟨367, .cells [.snil, .sl 468 0 1 3, .bool false, .bool true, .bool false, .bool true] 90 true 0 []⟩,
 ⟨468, .cells [.int .i64 (1), .int .i64 (0), .str 1 48] 144 true 0 []⟩]
def lC0 (m C : Nat) : List IE := rC0 m C ++ lB
def rC1 (m C : Nat) : List IE := [⟨5, .cells [.int .i64 (99), .int .i64 (1), .pnil, .map 4] 84 true 0 []⟩,
 ⟨24, .cells [.ptr 5 0, .ptr 11 0, .ptr 15 0, .ptr 19 0, .map 20, .map 21, .map 22, .ptr 23 0, .num 284 0 11 26, .snil, .str 0 0, .map 25, .map 26, .bool false, .int .i64 (0), .sl 3 0 2 1, .pnil, .int .i64 (0), .bool false, .bool false, .bool false, .fnil, .fnil, .fnil, .fnil, .fnil, .fnil, .fnil, .fnil] 58 true 0 []⟩,
 ⟨25, .map [⟨.str (m + 14) C, .ptr 363 0, 364⟩, ⟨.str 1 49, .ptr 367 0, 368⟩] 2⟩,
 ⟨367, .cells [.snil, .sl 479 0 1 3, .bool false, .bool true, .bool false, .bool true] 90 true 0 []⟩,
 ⟨479, .cells [.int .i64 (1), .int .i64 (0), .str 1 49] 144 true 0 []⟩]
def lC1 (m C : Nat) : List IE := rC1 m C ++ lB
def rC01 (m C : Nat) : List IE := [⟨5, .cells [.int .i64 (99), .int .i64 (1), .pnil, .map 4] 84 true 0 []⟩,
 ⟨24, .cells [.ptr 5 0, .ptr 11 0, .ptr 15 0, .ptr 19 0, .map 20, .map 21, .map 22, .ptr 23 0, .num 284 0 11 26, .snil, .str 0 0, .map 25, .map 26, .bool false, .int .i64 (0), .sl 3 0 2 1, .pnil, .int .i64 (0), .bool false, .bool false, .bool false, .fnil, .fnil, .fnil, .fnil, .fnil, .fnil, .fnil, .fnil] 58 true 0 []⟩,
 ⟨25, .map [⟨.str (m + 14) C, .ptr 363 0, 364⟩, ⟨.str 1 48, .ptr 367 0, 368⟩, ⟨.str 1 49, .ptr 526 0, 527⟩] 3⟩,
 ⟨367, .cells [.snil, .sl 468 0 1 3, .bool false, .bool true, .bool false, .bool true] 90 true 0 []⟩,
 ⟨468, .cells [.int .i64 (1), .int .i64 (0), .str 1 48] 144 true 0 []⟩,
 ⟨526, .cells [.snil, .sl 638 0 1 3, .bool false, .bool true, .bool false, .bool true] 90 true 0 []⟩,
 ⟨638, .cells [.int .i64 (1), .int .i64 (0), .str 1 49] 144 true 0 []⟩]
def lC01 (m C : Nat) : List IE := rC01 m C ++ lB
def lD (c : Nat) : List IE := [⟨5, .cells [.int .i64 (98), .int .i64 (1), .pnil, .map 4] 84 true 0 []⟩,
 ⟨6, .map [⟨.int .i64 (0), .map 7, 8⟩] 1⟩,
 ⟨7, .map [⟨.str 4 1600614252, .ptr 361 0, 362⟩] 1⟩,
 ⟨9, .map [⟨.str 0 0, .int .i64 (0), 10⟩] 1⟩,
 ⟨11, .cells [.map 6, .snil, .map 9, .int .i64 (0)] 124 true 0 []⟩,
 ⟨24, .cells [.ptr 5 0, .ptr 11 0, .ptr 15 0, .ptr 19 0, .map 20, .map 21, .map 22, .ptr 23 0, .num 284 6 11 26, .snil, .str 0 0, .map 25, .map 26, .bool false, .int .i64 (0), .sl 3 0 2 1, .pnil, .int .i64 (0), .bool false, .bool false, .bool false, .fnil, .fnil, .fnil, .fnil, .fnil, .fnil, .fnil, .fnil] 58 true 0 []⟩,
 ⟨360, .cells [.int .i64 (1), .str 1 c, .mnil, .pnil, .int .i64 (2)] 82 true 0 []⟩,
 ⟨361, .cells [.ptr 360 0, .bool false] 126 true 0 []⟩]
def lG (c : Nat) : List IE := [⟨6, .map [⟨.int .i64 (0), .map 7, 8⟩] 1⟩,
 ⟨7, .map [⟨.str 4 1600614252, .ptr 361 0, 362⟩] 1⟩,
 ⟨9, .map [⟨.str 0 0, .int .i64 (0), 10⟩] 1⟩,
 ⟨11, .cells [.map 6, .snil, .map 9, .int .i64 (0)] 124 true 0 []⟩,
 ⟨24, .cells [.ptr 5 0, .ptr 11 0, .ptr 15 0, .ptr 19 0, .map 20, .map 21, .map 22, .ptr 23 0, .num 284 6 11 26, .snil, .str 0 0, .map 25, .map 26, .bool false, .int .i64 (98), .sl 3 0 2 1, .pnil, .int .i64 (0), .bool false, .bool false, .bool false, .fnil, .fnil, .fnil, .fnil, .fnil, .fnil, .fnil, .fnil] 58 true 0 []⟩,
 ⟨360, .cells [.int .i64 (1), .str 1 c, .mnil, .pnil, .int .i64 (2)] 82 true 0 []⟩,
 ⟨361, .cells [.ptr 360 0, .bool false] 126 true 0 []⟩]
def lG0 : List IE := [⟨6, .map [⟨.int .i64 (0), .map 7, 8⟩] 1⟩,
 ⟨7, .map [⟨.str 4 1600614252, .ptr 361 0, 362⟩] 1⟩,
 ⟨9, .map [⟨.str 0 0, .int .i64 (0), 10⟩] 1⟩,
 ⟨11, .cells [.map 6, .snil, .map 9, .int .i64 (0)] 124 true 0 []⟩,
 ⟨24, .cells [.ptr 5 0, .ptr 11 0, .ptr 15 0, .ptr 19 0, .map 20, .map 21, .map 22, .ptr 23 0, .num 284 0 11 26, .snil, .str 0 0, .map 25, .map 26, .bool false, .int .i64 (99), .sl 3 0 2 1, .pnil, .int .i64 (0), .bool false, .bool false, .bool false, .fnil, .fnil, .fnil, .fnil, .fnil, .fnil, .fnil, .fnil] 58 true 0 []⟩,
 ⟨360, .cells [.int .i64 (1), .str 0 0, .mnil, .pnil, .int .i64 (1)] 82 true 0 []⟩,
 ⟨361, .cells [.ptr 360 0, .bool false] 126 true 0 []⟩]
end Go.Xe.Cards
end
end
section
open Go Go.Proofs Go.Proofs.YtfkeeieoapimlaaGreatDoor Go.Xe
noncomputable section
namespace Go.Xe.Cards
set_option maxRecDepth 1000000
theorem k_new : zao lS0 (run Tryz.prog IX 5 [] (zad 1 [])) = some (.ptr 24 0, 0, [], lS0.map fun p => some p.e) := by kernel_rfl
theorem k_set : zao (lS1) (run Tryz.prog J0 6 [.ptr 24 0, .str 4 1600614252, .str 0 0] (zad 360 (lS0))) = some (.int .i64 (0), 0, [], (lS1).map fun p => some p.e) := by kernel_rfl
theorem k_step (m C : Nat) : zao (lS5 m C) (run Tryz.prog J0 221 [.ptr 24 0] (zad 365 (lS4 m C))) = some (.agg [.int .i64 (0), .int .i64 (0), .str 0 0], 0, [], (lS5 m C).map fun p => some p.e) := by kernel_rfl
theorem k_find (m C : Nat) : zao (lS5 m C) (run Tryz.prog J0 100 [.ptr 24 0, .str 2 14906, .str 2 26217] (zad 365 (lS5 m C))) = some (.num 284 0 11 26, 0, [], (lS5 m C).map fun p => some p.e) := by kernel_rfl
theorem k_origin (m C : Nat) : zao (lS5 m C) (run Tryz.prog J0 445 [.ptr 19 0, .num 284 0 11 26] (zad 365 (lS5 m C))) = some (.tup [.num 284 0 11 26, .int .i64 (0)], 0, [], (lS5 m C).map fun p => some p.e) := by kernel_rfl
end Go.Xe.Cards
end
end
