/-
  All functions of the abstract machine.
  Conditions: none.
-/
import Derived.Test.YtnnjmbblpmghfaaGreatIr0
import Derived.Test.YtnnjmbblpmghfaaGreatIr1
import Derived.Test.YtnnjmbblpmghfaaGreatV
namespace Go.Ab
def fnsL : List (Nat × KFn) := [(3, k3), (13, k13), (14, k14), (15, k15), (16, k16), (17, k17), (18, k18), (27, k27), (30, k30), (31, k31), (32, k32), (46, k46), (47, k47), (48, k48), (49, k49), (50, k50), (51, k51), (52, k52), (53, k53), (54, k54), (55, k55), (56, k56), (57, k57), (58, k58), (75, k75), (76, k76), (77, k77), (78, k78), (79, k79), (80, k80), (81, k81), (82, k82), (89, k89), (90, k90), (94, k94), (95, k95), (96, k96), (97, k97), (98, k98), (99, k99), (100, k100), (101, k101), (102, k102), (103, k103), (104, k104), (105, k105), (106, k106), (107, k107), (110, k110), (111, k111), (118, k118), (119, k119), (140, k140), (141, k141), (142, k142), (143, k143), (144, k144), (145, k145), (146, k146), (147, k147), (148, k148), (150, k150), (154, k154), (168, k168), (170, k170), (181, k181), (199, k199), (200, k200), (201, k201), (202, k202), (203, k203), (204, k204), (205, k205), (206, k206), (207, k207), (208, k208), (209, k209), (210, k210), (211, k211), (212, k212), (213, k213), (214, k214), (215, k215), (216, k216), (218, k218), (219, k219), (220, k220), (221, k221), (222, k222), (223, k223), (224, k224), (225, k225), (226, k226), (246, k246), (261, k261), (280, k280), (281, k281), (282, k282), (283, k283), (284, k284), (285, k285), (286, k286), (287, k287), (291, k291)]
def tab (f : Nat) : Option KFn := (fnsL.find? fun p => Nat.beq p.1 f).map (·.2)
theorem tab_3 : tab 3 = some k3 := rfl
theorem tab_13 : tab 13 = some k13 := rfl
theorem tab_14 : tab 14 = some k14 := rfl
theorem tab_15 : tab 15 = some k15 := rfl
theorem tab_16 : tab 16 = some k16 := rfl
theorem tab_17 : tab 17 = some k17 := rfl
theorem tab_18 : tab 18 = some k18 := rfl
theorem tab_27 : tab 27 = some k27 := rfl
theorem tab_30 : tab 30 = some k30 := rfl
theorem tab_31 : tab 31 = some k31 := rfl
theorem tab_32 : tab 32 = some k32 := rfl
theorem tab_46 : tab 46 = some k46 := rfl
theorem tab_47 : tab 47 = some k47 := rfl
theorem tab_48 : tab 48 = some k48 := rfl
theorem tab_49 : tab 49 = some k49 := rfl
theorem tab_50 : tab 50 = some k50 := rfl
theorem tab_51 : tab 51 = some k51 := rfl
theorem tab_52 : tab 52 = some k52 := rfl
theorem tab_53 : tab 53 = some k53 := rfl
theorem tab_54 : tab 54 = some k54 := rfl
theorem tab_55 : tab 55 = some k55 := rfl
theorem tab_56 : tab 56 = some k56 := rfl
theorem tab_57 : tab 57 = some k57 := rfl
theorem tab_58 : tab 58 = some k58 := rfl
theorem tab_75 : tab 75 = some k75 := rfl
theorem tab_76 : tab 76 = some k76 := rfl
theorem tab_77 : tab 77 = some k77 := rfl
theorem tab_78 : tab 78 = some k78 := rfl
theorem tab_79 : tab 79 = some k79 := rfl
theorem tab_80 : tab 80 = some k80 := rfl
theorem tab_81 : tab 81 = some k81 := rfl
theorem tab_82 : tab 82 = some k82 := rfl
theorem tab_89 : tab 89 = some k89 := rfl
theorem tab_90 : tab 90 = some k90 := rfl
theorem tab_94 : tab 94 = some k94 := rfl
theorem tab_95 : tab 95 = some k95 := rfl
theorem tab_96 : tab 96 = some k96 := rfl
theorem tab_97 : tab 97 = some k97 := rfl
theorem tab_98 : tab 98 = some k98 := rfl
theorem tab_99 : tab 99 = some k99 := rfl
theorem tab_100 : tab 100 = some k100 := rfl
theorem tab_101 : tab 101 = some k101 := rfl
theorem tab_102 : tab 102 = some k102 := rfl
theorem tab_103 : tab 103 = some k103 := rfl
theorem tab_104 : tab 104 = some k104 := rfl
theorem tab_105 : tab 105 = some k105 := rfl
theorem tab_106 : tab 106 = some k106 := rfl
theorem tab_107 : tab 107 = some k107 := rfl
theorem tab_110 : tab 110 = some k110 := rfl
theorem tab_111 : tab 111 = some k111 := rfl
theorem tab_118 : tab 118 = some k118 := rfl
theorem tab_119 : tab 119 = some k119 := rfl
theorem tab_140 : tab 140 = some k140 := rfl
theorem tab_141 : tab 141 = some k141 := rfl
theorem tab_142 : tab 142 = some k142 := rfl
theorem tab_143 : tab 143 = some k143 := rfl
theorem tab_144 : tab 144 = some k144 := rfl
theorem tab_145 : tab 145 = some k145 := rfl
theorem tab_146 : tab 146 = some k146 := rfl
theorem tab_147 : tab 147 = some k147 := rfl
theorem tab_148 : tab 148 = some k148 := rfl
theorem tab_150 : tab 150 = some k150 := rfl
theorem tab_154 : tab 154 = some k154 := rfl
theorem tab_168 : tab 168 = some k168 := rfl
theorem tab_170 : tab 170 = some k170 := rfl
theorem tab_181 : tab 181 = some k181 := rfl
theorem tab_199 : tab 199 = some k199 := rfl
theorem tab_200 : tab 200 = some k200 := rfl
theorem tab_201 : tab 201 = some k201 := rfl
theorem tab_202 : tab 202 = some k202 := rfl
theorem tab_203 : tab 203 = some k203 := rfl
theorem tab_204 : tab 204 = some k204 := rfl
theorem tab_205 : tab 205 = some k205 := rfl
theorem tab_206 : tab 206 = some k206 := rfl
theorem tab_207 : tab 207 = some k207 := rfl
theorem tab_208 : tab 208 = some k208 := rfl
theorem tab_209 : tab 209 = some k209 := rfl
theorem tab_210 : tab 210 = some k210 := rfl
theorem tab_211 : tab 211 = some k211 := rfl
theorem tab_212 : tab 212 = some k212 := rfl
theorem tab_213 : tab 213 = some k213 := rfl
theorem tab_214 : tab 214 = some k214 := rfl
theorem tab_215 : tab 215 = some k215 := rfl
theorem tab_216 : tab 216 = some k216 := rfl
theorem tab_218 : tab 218 = some k218 := rfl
theorem tab_219 : tab 219 = some k219 := rfl
theorem tab_220 : tab 220 = some k220 := rfl
theorem tab_221 : tab 221 = some k221 := rfl
theorem tab_222 : tab 222 = some k222 := rfl
theorem tab_223 : tab 223 = some k223 := rfl
theorem tab_224 : tab 224 = some k224 := rfl
theorem tab_225 : tab 225 = some k225 := rfl
theorem tab_226 : tab 226 = some k226 := rfl
theorem tab_246 : tab 246 = some k246 := rfl
theorem tab_261 : tab 261 = some k261 := rfl
theorem tab_280 : tab 280 = some k280 := rfl
theorem tab_281 : tab 281 = some k281 := rfl
theorem tab_282 : tab 282 = some k282 := rfl
theorem tab_283 : tab 283 = some k283 := rfl
theorem tab_284 : tab 284 = some k284 := rfl
theorem tab_285 : tab 285 = some k285 := rfl
theorem tab_286 : tab 286 = some k286 := rfl
theorem tab_287 : tab 287 = some k287 := rfl
theorem tab_291 : tab 291 = some k291 := rfl
theorem cl_3 {ext : Callee} {args : List V} {H : Heap} (hn : args.length = 4) : callL tab ext 3 args H = finF [.t 8] 0 H.length (runL tab ext B3 ⟨env0 args, hp H []⟩) := callL_F tab_3 hn
theorem cl_13 {ext : Callee} {args : List V} {H : Heap} (hn : args.length = 0) : callL tab ext 13 args H = finF [.t 0] 0 H.length (runL tab ext B13 ⟨env0 args, hp H []⟩) := callL_F tab_13 hn
theorem cl_14 {ext : Callee} {args : List V} {H : Heap} (hn : args.length = 4) : callL tab ext 14 args H = finF [.cells 8 9, .t 9] 0 H.length (runL tab ext B14 ⟨env0 args, hp H []⟩) := callL_F tab_14 hn
theorem cl_15 {ext : Callee} {args : List V} {H : Heap} (hn : args.length = 2) : callL tab ext 15 args H = finF [.t 4, .t 5] 0 H.length (runL tab ext B15 ⟨env0 args, hp H []⟩) := callL_F tab_15 hn
theorem cl_16 {ext : Callee} {args : List V} {H : Heap} (hn : args.length = 1) : callL tab ext 16 args H = finF [.cells 2 2] 0 H.length (runL tab ext B16 ⟨env0 args, hp H []⟩) := callL_F tab_16 hn
theorem cl_17 {ext : Callee} {args : List V} {H : Heap} (hn : args.length = 3) : callL tab ext 17 args H = finF [.t 6] 0 H.length (runL tab ext B17 ⟨env0 args, hp H []⟩) := callL_F tab_17 hn
theorem cl_18 {ext : Callee} {args : List V} {H : Heap} (hn : args.length = 1) : callL tab ext 18 args H = finF [.cells 2 9] 0 H.length (runL tab ext B18 ⟨env0 args, hp H []⟩) := callL_F tab_18 hn
theorem cl_27 {ext : Callee} {args : List V} {H : Heap} (hn : args.length = 2) : callL tab ext 27 args H = finF [.t 4] 0 H.length (runL tab ext B27 ⟨env0 args, hp H []⟩) := callL_F tab_27 hn
theorem cl_30 {ext : Callee} {args : List V} {H : Heap} (hn : args.length = 3) : callL tab ext 30 args H = finF [.t 6] 0 H.length (runL tab ext B30 ⟨env0 args, hp H []⟩) := callL_F tab_30 hn
theorem cl_31 {ext : Callee} {args : List V} {H : Heap} (hn : args.length = 4) : callL tab ext 31 args H = finF [.t 8] 0 H.length (runL tab ext B31 ⟨env0 args, hp H []⟩) := callL_F tab_31 hn
theorem cl_32 {ext : Callee} {args : List V} {H : Heap} (hn : args.length = 4) : callL tab ext 32 args H = finF [.cells 8 2] 0 H.length (runL tab ext B32 ⟨env0 args, hp H []⟩) := callL_F tab_32 hn
theorem cl_46 {ext : Callee} {args : List V} {H : Heap} (hn : args.length = 2) : callL tab ext 46 args H = finF [.t 4, .t 5] 0 H.length (runL tab ext B46 ⟨env0 args, hp H []⟩) := callL_F tab_46 hn
theorem cl_47 {ext : Callee} {args : List V} {H : Heap} (hn : args.length = 1) : callL tab ext 47 args H = finF [] 0 H.length (runL tab ext B47 ⟨env0 args, hp H []⟩) := callL_F tab_47 hn
theorem cl_48 {ext : Callee} {args : List V} {H : Heap} (hn : args.length = 2) : callL tab ext 48 args H = finF [.t 4] 0 H.length (runL tab ext B48 ⟨env0 args, hp H []⟩) := callL_F tab_48 hn
theorem cl_49 {ext : Callee} {args : List V} {H : Heap} (hn : args.length = 2) : callL tab ext 49 args H = finF [] 0 H.length (runL tab ext B49 ⟨env0 args, hp H []⟩) := callL_F tab_49 hn
theorem cl_50 {ext : Callee} {args : List V} {H : Heap} (hn : args.length = 1) : callL tab ext 50 args H = finF [.t 2] 0 H.length (runL tab ext B50 ⟨env0 args, hp H []⟩) := callL_F tab_50 hn
theorem cl_51 {ext : Callee} {args : List V} {H : Heap} (hn : args.length = 1) : callL tab ext 51 args H = finF [.t 2, .t 3] 0 H.length (runL tab ext B51 ⟨env0 args, hp H []⟩) := callL_F tab_51 hn
theorem cl_52 {ext : Callee} {args : List V} {H : Heap} (hn : args.length = 2) : callL tab ext 52 args H = finF [.t 4] 0 H.length (runL tab ext B52 ⟨env0 args, hp H []⟩) := callL_F tab_52 hn
theorem cl_53 {ext : Callee} {args : List V} {H : Heap} (hn : args.length = 2) : callL tab ext 53 args H = finF [.t 4] 0 H.length (runL tab ext B53 ⟨env0 args, hp H []⟩) := callL_F tab_53 hn
theorem cl_54 {ext : Callee} {args : List V} {H : Heap} (hn : args.length = 2) : callL tab ext 54 args H = finF [.t 4] 0 H.length (runL tab ext B54 ⟨env0 args, hp H []⟩) := callL_F tab_54 hn
theorem cl_55 {ext : Callee} {args : List V} {H : Heap} (hn : args.length = 2) : callL tab ext 55 args H = finF [.t 4] 0 H.length (runL tab ext B55 ⟨env0 args, hp H []⟩) := callL_F tab_55 hn
theorem cl_56 {ext : Callee} {args : List V} {H : Heap} (hn : args.length = 3) : callL tab ext 56 args H = finF [.t 6] 0 H.length (runL tab ext B56 ⟨env0 args, hp H []⟩) := callL_F tab_56 hn
theorem cl_57 {ext : Callee} {args : List V} {H : Heap} (hn : args.length = 3) : callL tab ext 57 args H = finF [.t 6] 0 H.length (runL tab ext B57 ⟨env0 args, hp H []⟩) := callL_F tab_57 hn
theorem cl_58 {ext : Callee} {args : List V} {H : Heap} (hn : args.length = 1) : callL tab ext 58 args H = finF [.t 2] 0 H.length (runL tab ext B58 ⟨env0 args, hp H []⟩) := callL_F tab_58 hn
theorem cl_75 {ext : Callee} {args : List V} {H : Heap} (hn : args.length = 1) : callL tab ext 75 args H = finF [.t 2] 0 H.length (runL tab ext B75 ⟨env0 args, hp H []⟩) := callL_F tab_75 hn
theorem cl_76 {ext : Callee} {args : List V} {H : Heap} (hn : args.length = 2) : callL tab ext 76 args H = finF [.t 4] 0 H.length (runL tab ext B76 ⟨env0 args, hp H []⟩) := callL_F tab_76 hn
theorem cl_77 {ext : Callee} {args : List V} {H : Heap} (hn : args.length = 2) : callL tab ext 77 args H = finF [.t 4] 0 H.length (runL tab ext B77 ⟨env0 args, hp H []⟩) := callL_F tab_77 hn
theorem cl_78 {ext : Callee} {args : List V} {H : Heap} (hn : args.length = 2) : callL tab ext 78 args H = finF [.t 4] 0 H.length (runL tab ext B78 ⟨env0 args, hp H []⟩) := callL_F tab_78 hn
theorem cl_79 {ext : Callee} {args : List V} {H : Heap} (hn : args.length = 2) : callL tab ext 79 args H = finF [.t 4, .t 5] 0 H.length (runL tab ext B79 ⟨env0 args, hp H []⟩) := callL_F tab_79 hn
theorem cl_80 {ext : Callee} {args : List V} {H : Heap} (hn : args.length = 4) : callL tab ext 80 args H = finF [.t 8] 0 H.length (runL tab ext B80 ⟨env0 args, hp H []⟩) := callL_F tab_80 hn
theorem cl_81 {ext : Callee} {args : List V} {H : Heap} (hn : args.length = 2) : callL tab ext 81 args H = finF [.t 4] 0 H.length (runL tab ext B81 ⟨env0 args, hp H []⟩) := callL_F tab_81 hn
theorem cl_82 {ext : Callee} {args : List V} {H : Heap} (hn : args.length = 4) : callL tab ext 82 args H = finF [.t 8, .t 9] 0 H.length (runL tab ext B82 ⟨env0 args, hp H []⟩) := callL_F tab_82 hn
theorem cl_89 {ext : Callee} {args : List V} {H : Heap} (hn : args.length = 3) : callL tab ext 89 args H = finF [.t 6, .t 7] 0 H.length (runL tab ext B89 ⟨env0 args, hp H []⟩) := callL_F tab_89 hn
theorem cl_90 {ext : Callee} {args : List V} {H : Heap} (hn : args.length = 2) : callL tab ext 90 args H = finF [.t 4] 0 H.length (runL tab ext B90 ⟨env0 args, hp H []⟩) := callL_F tab_90 hn
theorem cl_94 {ext : Callee} {args : List V} {H : Heap} (hn : args.length = 1) : callL tab ext 94 args H = finF [.t 2, .t 3] 0 H.length (runL tab ext B94 ⟨env0 args, hp H []⟩) := callL_F tab_94 hn
theorem cl_95 {ext : Callee} {args : List V} {H : Heap} (hn : args.length = 1) : callL tab ext 95 args H = finF [.t 2, .t 3] 0 H.length (runL tab ext B95 ⟨env0 args, hp H []⟩) := callL_F tab_95 hn
theorem cl_96 {ext : Callee} {args : List V} {H : Heap} (hn : args.length = 2) : callL tab ext 96 args H = finF [.t 4] 0 H.length (runL tab ext B96 ⟨env0 args, hp H []⟩) := callL_F tab_96 hn
theorem cl_97 {ext : Callee} {args : List V} {H : Heap} (hn : args.length = 3) : callL tab ext 97 args H = finF [.t 6] 0 H.length (runL tab ext B97 ⟨env0 args, hp H []⟩) := callL_F tab_97 hn
theorem cl_98 {ext : Callee} {args : List V} {H : Heap} (hn : args.length = 1) : callL tab ext 98 args H = finF [.t 2] 0 H.length (runL tab ext B98 ⟨env0 args, hp H []⟩) := callL_F tab_98 hn
theorem cl_99 {ext : Callee} {args : List V} {H : Heap} (hn : args.length = 2) : callL tab ext 99 args H = finF [.t 4] 0 H.length (runL tab ext B99 ⟨env0 args, hp H []⟩) := callL_F tab_99 hn
theorem cl_100 {ext : Callee} {args : List V} {H : Heap} (hn : args.length = 2) : callL tab ext 100 args H = finF [.cells 4 11] 0 H.length (runL tab ext B100 ⟨env0 args, hp H []⟩) := callL_F tab_100 hn
theorem cl_101 {ext : Callee} {args : List V} {H : Heap} (hn : args.length = 3) : callL tab ext 101 args H = finF [] 0 H.length (runL tab ext B101 ⟨env0 args, hp H []⟩) := callL_F tab_101 hn
theorem cl_102 {ext : Callee} {args : List V} {H : Heap} (hn : args.length = 2) : callL tab ext 102 args H = finF [.t 4] 0 H.length (runL tab ext B102 ⟨env0 args, hp H []⟩) := callL_F tab_102 hn
theorem cl_103 {ext : Callee} {args : List V} {H : Heap} (hn : args.length = 3) : callL tab ext 103 args H = finF [.t 6] 0 H.length (runL tab ext B103 ⟨env0 args, hp H []⟩) := callL_F tab_103 hn
theorem cl_104 {ext : Callee} {args : List V} {H : Heap} (hn : args.length = 3) : callL tab ext 104 args H = finF [.t 6] 0 H.length (runL tab ext B104 ⟨env0 args, hp H []⟩) := callL_F tab_104 hn
theorem cl_105 {ext : Callee} {args : List V} {H : Heap} (hn : args.length = 2) : callL tab ext 105 args H = finF [.cells 4 2, .t 5] 0 H.length (runL tab ext B105 ⟨env0 args, hp H []⟩) := callL_F tab_105 hn
theorem cl_106 {ext : Callee} {args : List V} {H : Heap} (hn : args.length = 4) : callL tab ext 106 args H = finF [.t 8] 0 H.length (runL tab ext B106 ⟨env0 args, hp H []⟩) := callL_F tab_106 hn
theorem cl_107 {ext : Callee} {args : List V} {H : Heap} (hn : args.length = 1) : callL tab ext 107 args H = finF [.cells 2 3, .t 3] 0 H.length (runL tab ext B107 ⟨env0 args, hp H []⟩) := callL_F tab_107 hn
theorem cl_110 {ext : Callee} {args : List V} {H : Heap} (hn : args.length = 1) : callL tab ext 110 args H = finF [.cells 2 2] 0 H.length (runL tab ext B110 ⟨env0 args, hp H []⟩) := callL_F tab_110 hn
theorem cl_111 {ext : Callee} {args : List V} {H : Heap} (hn : args.length = 3) : callL tab ext 111 args H = finF [.t 6, .t 7] 0 H.length (runL tab ext B111 ⟨env0 args, hp H []⟩) := callL_F tab_111 hn
theorem cl_118 {ext : Callee} {args : List V} {H : Heap} (hn : args.length = 2) : callL tab ext 118 args H = finF [.t 4] 0 H.length (runL tab ext B118 ⟨env0 args, hp H []⟩) := callL_F tab_118 hn
theorem cl_119 {ext : Callee} {args : List V} {H : Heap} (hn : args.length = 2) : callL tab ext 119 args H = finF [.t 4] 0 H.length (runL tab ext B119 ⟨env0 args, hp H []⟩) := callL_F tab_119 hn
theorem cl_140 {ext : Callee} {args : List V} {H : Heap} (hn : args.length = 1) : callL tab ext 140 args H = finF [.t 2] 2 H.length (runL tab ext B140 ⟨env0 args, hp H []⟩) := callL_F tab_140 hn
theorem cl_141 {ext : Callee} {args : List V} {H : Heap} (hn : args.length = 2) : callL tab ext 141 args H = finF [.t 4] 0 H.length (runL tab ext B141 ⟨env0 args, hp H []⟩) := callL_F tab_141 hn
theorem cl_142 {ext : Callee} {args : List V} {H : Heap} (hn : args.length = 3) : callL tab ext 142 args H = finF [.t 6] 0 H.length (runL tab ext B142 ⟨env0 args, hp H []⟩) := callL_F tab_142 hn
theorem cl_143 {ext : Callee} {args : List V} {H : Heap} (hn : args.length = 3) : callL tab ext 143 args H = finF [.t 6] 0 H.length (runL tab ext B143 ⟨env0 args, hp H []⟩) := callL_F tab_143 hn
theorem cl_144 {ext : Callee} {args : List V} {H : Heap} (hn : args.length = 2) : callL tab ext 144 args H = finF [.t 4] 0 H.length (runL tab ext B144 ⟨env0 args, hp H []⟩) := callL_F tab_144 hn
theorem cl_145 {ext : Callee} {args : List V} {H : Heap} (hn : args.length = 2) : callL tab ext 145 args H = finF [.t 4] 0 H.length (runL tab ext B145 ⟨env0 args, hp H []⟩) := callL_F tab_145 hn
theorem cl_146 {ext : Callee} {args : List V} {H : Heap} (hn : args.length = 2) : callL tab ext 146 args H = finF [.t 4] 0 H.length (runL tab ext B146 ⟨env0 args, hp H []⟩) := callL_F tab_146 hn
theorem cl_147 {ext : Callee} {args : List V} {H : Heap} (hn : args.length = 1) : callL tab ext 147 args H = finF [.t 2] 0 H.length (runL tab ext B147 ⟨env0 args, hp H []⟩) := callL_F tab_147 hn
theorem cl_148 {ext : Callee} {args : List V} {H : Heap} (hn : args.length = 1) : callL tab ext 148 args H = finF [.t 2] 0 H.length (runL tab ext B148 ⟨env0 args, hp H []⟩) := callL_F tab_148 hn
theorem cl_150 {ext : Callee} {args : List V} {H : Heap} (hn : args.length = 4) : callL tab ext 150 args H = finF [.t 8, .t 9] 0 H.length (runL tab ext B150 ⟨env0 args, hp H []⟩) := callL_F tab_150 hn
theorem cl_154 {ext : Callee} {args : List V} {H : Heap} (hn : args.length = 1) : callL tab ext 154 args H = finF [.cells 2 2, .t 3] 0 H.length (runL tab ext B154 ⟨env0 args, hp H []⟩) := callL_F tab_154 hn
theorem cl_168 {ext : Callee} {args : List V} {H : Heap} (hn : args.length = 1) : callL tab ext 168 args H = finF [.cells 2 2] 0 H.length (runL tab ext B168 ⟨env0 args, hp H []⟩) := callL_F tab_168 hn
theorem cl_170 {ext : Callee} {args : List V} {H : Heap} (hn : args.length = 2) : callL tab ext 170 args H = finF [.cells 4 2] 0 H.length (runL tab ext B170 ⟨env0 args, hp H []⟩) := callL_F tab_170 hn
theorem cl_181 {ext : Callee} {args : List V} {H : Heap} (hn : args.length = 2) : callL tab ext 181 args H = finF [.t 4, .t 5] 0 H.length (runL tab ext B181 ⟨env0 args, hp H []⟩) := callL_F tab_181 hn
theorem cl_199 {ext : Callee} {args : List V} {H : Heap} (hn : args.length = 1) : callL tab ext 199 args H = finF [.t 1] 0 H.length (runL tab ext B199 ⟨env0 args, hp H []⟩) := callL_F tab_199 hn
theorem cl_200 {ext : Callee} {args : List V} {H : Heap} (hn : args.length = 3) : callL tab ext 200 args H = finF [.t 6] 0 H.length (runL tab ext B200 ⟨env0 args, hp H []⟩) := callL_F tab_200 hn
theorem cl_201 {ext : Callee} {args : List V} {H : Heap} (hn : args.length = 1) : callL tab ext 201 args H = finF [.t 1] 0 H.length (runL tab ext B201 ⟨env0 args, hp H []⟩) := callL_F tab_201 hn
theorem cl_202 {ext : Callee} {args : List V} {H : Heap} (hn : args.length = 1) : callL tab ext 202 args H = finF [.t 1] 0 H.length (runL tab ext B202 ⟨env0 args, hp H []⟩) := callL_F tab_202 hn
theorem cl_203 {ext : Callee} {args : List V} {H : Heap} (hn : args.length = 1) : callL tab ext 203 args H = finF [.t 1] 0 H.length (runL tab ext B203 ⟨env0 args, hp H []⟩) := callL_F tab_203 hn
theorem cl_204 {ext : Callee} {args : List V} {H : Heap} (hn : args.length = 1) : callL tab ext 204 args H = finF [.t 1] 0 H.length (runL tab ext B204 ⟨env0 args, hp H []⟩) := callL_F tab_204 hn
theorem cl_205 {ext : Callee} {args : List V} {H : Heap} (hn : args.length = 1) : callL tab ext 205 args H = finF [.t 1] 0 H.length (runL tab ext B205 ⟨env0 args, hp H []⟩) := callL_F tab_205 hn
theorem cl_206 {ext : Callee} {args : List V} {H : Heap} (hn : args.length = 1) : callL tab ext 206 args H = finF [.t 1] 0 H.length (runL tab ext B206 ⟨env0 args, hp H []⟩) := callL_F tab_206 hn
theorem cl_207 {ext : Callee} {args : List V} {H : Heap} (hn : args.length = 1) : callL tab ext 207 args H = finF [.t 1] 0 H.length (runL tab ext B207 ⟨env0 args, hp H []⟩) := callL_F tab_207 hn
theorem cl_208 {ext : Callee} {args : List V} {H : Heap} (hn : args.length = 1) : callL tab ext 208 args H = finF [.t 1] 0 H.length (runL tab ext B208 ⟨env0 args, hp H []⟩) := callL_F tab_208 hn
theorem cl_209 {ext : Callee} {args : List V} {H : Heap} (hn : args.length = 1) : callL tab ext 209 args H = finF [.t 1] 0 H.length (runL tab ext B209 ⟨env0 args, hp H []⟩) := callL_F tab_209 hn
theorem cl_210 {ext : Callee} {args : List V} {H : Heap} (hn : args.length = 1) : callL tab ext 210 args H = finF [.t 2] 0 H.length (runL tab ext B210 ⟨env0 args, hp H []⟩) := callL_F tab_210 hn
theorem cl_211 {ext : Callee} {args : List V} {H : Heap} (hn : args.length = 1) : callL tab ext 211 args H = finF [.t 1] 0 H.length (runL tab ext B211 ⟨env0 args, hp H []⟩) := callL_F tab_211 hn
theorem cl_212 {ext : Callee} {args : List V} {H : Heap} (hn : args.length = 1) : callL tab ext 212 args H = finF [.t 1] 0 H.length (runL tab ext B212 ⟨env0 args, hp H []⟩) := callL_F tab_212 hn
theorem cl_213 {ext : Callee} {args : List V} {H : Heap} (hn : args.length = 2) : callL tab ext 213 args H = finF [.t 4] 0 H.length (runL tab ext B213 ⟨env0 args, hp H []⟩) := callL_F tab_213 hn
theorem cl_214 {ext : Callee} {args : List V} {H : Heap} (hn : args.length = 3) : callL tab ext 214 args H = finF [.cells 6 2] 0 H.length (runL tab ext B214 ⟨env0 args, hp H []⟩) := callL_F tab_214 hn
theorem cl_215 {ext : Callee} {args : List V} {H : Heap} (hn : args.length = 2) : callL tab ext 215 args H = finF [.cells 4 2] 0 H.length (runL tab ext B215 ⟨env0 args, hp H []⟩) := callL_F tab_215 hn
theorem cl_216 {ext : Callee} {args : List V} {H : Heap} (hn : args.length = 2) : callL tab ext 216 args H = finF [.t 4] 0 H.length (runL tab ext B216 ⟨env0 args, hp H []⟩) := callL_F tab_216 hn
theorem cl_218 {ext : Callee} {args : List V} {H : Heap} (hn : args.length = 2) : callL tab ext 218 args H = finF [.cells 4 2] 0 H.length (runL tab ext B218 ⟨env0 args, hp H []⟩) := callL_F tab_218 hn
theorem cl_219 {ext : Callee} {args : List V} {H : Heap} (hn : args.length = 1) : callL tab ext 219 args H = finF [.t 2] 0 H.length (runL tab ext B219 ⟨env0 args, hp H []⟩) := callL_F tab_219 hn
theorem cl_220 {ext : Callee} {args : List V} {H : Heap} (hn : args.length = 2) : callL tab ext 220 args H = finF [.cells 4 2, .t 5, .t 6] 0 H.length (runL tab ext B220 ⟨env0 args, hp H []⟩) := callL_F tab_220 hn
theorem cl_221 {ext : Callee} {args : List V} {H : Heap} (hn : args.length = 2) : callL tab ext 221 args H = finF [.cells 4 2, .t 5] 0 H.length (runL tab ext B221 ⟨env0 args, hp H []⟩) := callL_F tab_221 hn
theorem cl_222 {ext : Callee} {args : List V} {H : Heap} (hn : args.length = 2) : callL tab ext 222 args H = finF [.t 4, .t 5] 0 H.length (runL tab ext B222 ⟨env0 args, hp H []⟩) := callL_F tab_222 hn
theorem cl_223 {ext : Callee} {args : List V} {H : Heap} (hn : args.length = 2) : callL tab ext 223 args H = finF [.t 4] 0 H.length (runL tab ext B223 ⟨env0 args, hp H []⟩) := callL_F tab_223 hn
theorem cl_224 {ext : Callee} {args : List V} {H : Heap} (hn : args.length = 3) : callL tab ext 224 args H = finF [.cells 6 2, .t 7] 0 H.length (runL tab ext B224 ⟨env0 args, hp H []⟩) := callL_F tab_224 hn
theorem cl_225 {ext : Callee} {args : List V} {H : Heap} (hn : args.length = 2) : callL tab ext 225 args H = finF [.t 4] 0 H.length (runL tab ext B225 ⟨env0 args, hp H []⟩) := callL_F tab_225 hn
theorem cl_226 {ext : Callee} {args : List V} {H : Heap} (hn : args.length = 2) : callL tab ext 226 args H = finF [.cells 4 2, .t 5] 0 H.length (runL tab ext B226 ⟨env0 args, hp H []⟩) := callL_F tab_226 hn
theorem cl_246 {ext : Callee} {args : List V} {H : Heap} (hn : args.length = 2) : callL tab ext 246 args H = finF [.cells 4 2, .t 5] 0 H.length (runL tab ext B246 ⟨env0 args, hp H []⟩) := callL_F tab_246 hn
theorem cl_261 {ext : Callee} {args : List V} {H : Heap} (hn : args.length = 4) : callL tab ext 261 args H = finF [.cells 8 2, .t 9] 0 H.length (runL tab ext B261 ⟨env0 args, hp H []⟩) := callL_F tab_261 hn
theorem cl_280 {ext : Callee} {args : List V} {H : Heap} (hn : args.length = 3) : callL tab ext 280 args H = finF [.t 6, .t 7] 0 H.length (runL tab ext B280 ⟨env0 args, hp H []⟩) := callL_F tab_280 hn
theorem cl_281 {ext : Callee} {args : List V} {H : Heap} (hn : args.length = 3) : callL tab ext 281 args H = finF [.t 6] 0 H.length (runL tab ext B281 ⟨env0 args, hp H []⟩) := callL_F tab_281 hn
theorem cl_282 {ext : Callee} {args : List V} {H : Heap} (hn : args.length = 2) : callL tab ext 282 args H = finF [.cells 4 2, .t 5] 0 H.length (runL tab ext B282 ⟨env0 args, hp H []⟩) := callL_F tab_282 hn
theorem cl_283 {ext : Callee} {args : List V} {H : Heap} (hn : args.length = 2) : callL tab ext 283 args H = finF [.cells 4 2] 0 H.length (runL tab ext B283 ⟨env0 args, hp H []⟩) := callL_F tab_283 hn
theorem cl_284 {ext : Callee} {args : List V} {H : Heap} (hn : args.length = 2) : callL tab ext 284 args H = finF [.cells 4 2] 0 H.length (runL tab ext B284 ⟨env0 args, hp H []⟩) := callL_F tab_284 hn
theorem cl_285 {ext : Callee} {args : List V} {H : Heap} (hn : args.length = 2) : callL tab ext 285 args H = finF [.t 4] 0 H.length (runL tab ext B285 ⟨env0 args, hp H []⟩) := callL_F tab_285 hn
theorem cl_286 {ext : Callee} {args : List V} {H : Heap} (hn : args.length = 2) : callL tab ext 286 args H = finF [.cells 4 2, .t 5] 0 H.length (runL tab ext B286 ⟨env0 args, hp H []⟩) := callL_F tab_286 hn
theorem cl_287 {ext : Callee} {args : List V} {H : Heap} (hn : args.length = 3) : callL tab ext 287 args H = finF [.cells 6 2, .t 7] 0 H.length (runL tab ext B287 ⟨env0 args, hp H []⟩) := callL_F tab_287 hn
theorem cl_291 {ext : Callee} {args : List V} {H : Heap} (hn : args.length = 2) : callL tab ext 291 args H = finF [.t 4, .t 5] 0 H.length (runL tab ext B291 ⟨env0 args, hp H []⟩) := callL_F tab_291 hn
end Go.Ab
