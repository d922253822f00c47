/- The closed run of the chapter's examples: settled by the kernel. -/
import Derived.Test.YtidjlmjibfbmjaaGreatDoorXa4
import Derived.KernelRfl
namespace Go.DL
namespace X
set_option maxRecDepth 100000
noncomputable def tab : List (Nat × Func) := [(9, Go.Proofs.Tryz.f9), (11, Go.Proofs.Tryz.f11), (13, Go.Proofs.Tryz.f13), (17, Go.Proofs.Tryz.f17), (21, Go.Proofs.Tryz.f21), (22, Go.Proofs.Tryz.f22), (23, Go.Proofs.Tryz.f23), (25, Go.Proofs.Tryz.f25), (26, Go.Proofs.Tryz.f26), (27, Go.Proofs.Tryz.f27), (28, Go.Proofs.Tryz.f28), (29, Go.Proofs.Tryz.f29), (30, Go.Proofs.Tryz.f30), (38, Go.Proofs.Tryz.f38), (39, Go.Proofs.Tryz.f39), (40, Go.Proofs.Tryz.f40), (41, Go.Proofs.Tryz.f41), (51, Go.Proofs.Tryz.f51), (52, Go.Proofs.Tryz.f52), (53, Go.Proofs.Tryz.f53), (57, Go.Proofs.Tryz.f57), (58, Go.Proofs.Tryz.f58), (59, Go.Proofs.Tryz.f59), (60, Go.Proofs.Tryz.f60), (61, Go.Proofs.Tryz.f61), (62, Go.Proofs.Tryz.f62), (63, Go.Proofs.Tryz.f63), (64, Go.Proofs.Tryz.f64), (65, Go.Proofs.Tryz.f65), (66, Go.Proofs.Tryz.f66), (67, Go.Proofs.Tryz.f67), (68, Go.Proofs.Tryz.f68), (69, Go.Proofs.Tryz.f69), (82, Go.Proofs.Tryz.f82), (83, Go.Proofs.Tryz.f83), (84, Go.Proofs.Tryz.f84), (85, Go.Proofs.Tryz.f85), (86, Go.Proofs.Tryz.f86), (87, Go.Proofs.Tryz.f87), (88, Go.Proofs.Tryz.f88), (89, Go.Proofs.Tryz.f89), (90, Go.Proofs.Tryz.f90), (91, Go.Proofs.Tryz.f91), (92, Go.Proofs.Tryz.f92), (93, Go.Proofs.Tryz.f93), (94, Go.Proofs.Tryz.f94), (95, Go.Proofs.Tryz.f95), (96, Go.Proofs.Tryz.f96), (97, Go.Proofs.Tryz.f97), (103, Go.Proofs.Tryz.f103), (104, Go.Proofs.Tryz.f104), (105, Go.Proofs.Tryz.f105), (106, Go.Proofs.Tryz.f106), (107, Go.Proofs.Tryz.f107), (108, Go.Proofs.Tryz.f108), (109, Go.Proofs.Tryz.f109), (110, Go.Proofs.Tryz.f110), (111, Go.Proofs.Tryz.f111), (112, Go.Proofs.Tryz.f112), (123, Go.Proofs.Tryz.f123), (124, Go.Proofs.Tryz.f124), (125, Go.Proofs.Tryz.f125), (126, Go.Proofs.Tryz.f126), (127, Go.Proofs.Tryz.f127), (128, Go.Proofs.Tryz.f128), (129, Go.Proofs.Tryz.f129), (130, Go.Proofs.Tryz.f130), (142, Go.Proofs.Tryz.f142), (143, Go.Proofs.Tryz.f143), (144, Go.Proofs.Tryz.f144), (145, Go.Proofs.Tryz.f145), (146, Go.Proofs.Tryz.f146), (147, Go.Proofs.Tryz.f147), (148, Go.Proofs.Tryz.f148), (149, Go.Proofs.Tryz.f149), (150, Go.Proofs.Tryz.f150), (151, Go.Proofs.Tryz.f151), (152, Go.Proofs.Tryz.f152), (163, Go.Proofs.Tryz.f163), (164, Go.Proofs.Tryz.f164), (165, Go.Proofs.Tryz.f165), (166, Go.Proofs.Tryz.f166), (167, Go.Proofs.Tryz.f167), (168, Go.Proofs.Tryz.f168), (169, Go.Proofs.Tryz.f169), (170, Go.Proofs.Tryz.f170), (171, Go.Proofs.Tryz.f171), (172, Go.Proofs.Tryz.f172), (173, Go.Proofs.Tryz.f173), (174, Go.Proofs.Tryz.f174), (175, Go.Proofs.Tryz.f175), (176, Go.Proofs.Tryz.f176), (181, Go.Proofs.Tryz.f181), (182, Go.Proofs.Tryz.f182), (183, Go.Proofs.Tryz.f183), (184, Go.Proofs.Tryz.f184), (185, Go.Proofs.Tryz.f185), (186, Go.Proofs.Tryz.f186), (187, Go.Proofs.Tryz.f187), (188, Go.Proofs.Tryz.f188), (213, Go.Proofs.Tryz.f213), (214, Go.Proofs.Tryz.f214), (215, Go.Proofs.Tryz.f215), (216, Go.Proofs.Tryz.f216), (217, Go.Proofs.Tryz.f217), (218, Go.Proofs.Tryz.f218), (219, Go.Proofs.Tryz.f219), (220, Go.Proofs.Tryz.f220), (221, Go.Proofs.Tryz.f221), (222, Go.Proofs.Tryz.f222), (223, Go.Proofs.Tryz.f223), (224, Go.Proofs.Tryz.f224), (225, Go.Proofs.Tryz.f225), (226, Go.Proofs.Tryz.f226)]
theorem tabOk : TabOk Go.Proofs.Tryz.prog tab := by
  intro p hp
  simp only [tab, List.mem_cons, List.not_mem_nil, or_false] at hp
  rcases hp with rfl | rfl | rfl | rfl | rfl | rfl | rfl | rfl | rfl | rfl | rfl | rfl | rfl | rfl | rfl | rfl | rfl | rfl | rfl | rfl | rfl | rfl | rfl | rfl | rfl | rfl | rfl | rfl | rfl | rfl | rfl | rfl | rfl | rfl | rfl | rfl | rfl | rfl | rfl | rfl | rfl | rfl | rfl | rfl | rfl | rfl | rfl | rfl | rfl | rfl | rfl | rfl | rfl | rfl | rfl | rfl | rfl | rfl | rfl | rfl | rfl | rfl | rfl | rfl | rfl | rfl | rfl | rfl | rfl | rfl | rfl | rfl | rfl | rfl | rfl | rfl | rfl | rfl | rfl | rfl | rfl | rfl | rfl | rfl | rfl | rfl | rfl | rfl | rfl | rfl | rfl | rfl | rfl | rfl | rfl | rfl | rfl | rfl | rfl | rfl | rfl | rfl | rfl | rfl | rfl | rfl | rfl | rfl | rfl | rfl | rfl | rfl | rfl | rfl
  · exact ⟨Go.Proofs.Tryz.func9, Go.Proofs.Tryz.call9⟩
  · exact ⟨Go.Proofs.Tryz.func11, Go.Proofs.Tryz.call11⟩
  · exact ⟨Go.Proofs.Tryz.func13, Go.Proofs.Tryz.call13⟩
  · exact ⟨Go.Proofs.Tryz.func17, Go.Proofs.Tryz.call17⟩
  · exact ⟨Go.Proofs.Tryz.func21, Go.Proofs.Tryz.call21⟩
  · exact ⟨Go.Proofs.Tryz.func22, Go.Proofs.Tryz.call22⟩
  · exact ⟨Go.Proofs.Tryz.func23, Go.Proofs.Tryz.call23⟩
  · exact ⟨Go.Proofs.Tryz.func25, Go.Proofs.Tryz.call25⟩
  · exact ⟨Go.Proofs.Tryz.func26, Go.Proofs.Tryz.call26⟩
  · exact ⟨Go.Proofs.Tryz.func27, Go.Proofs.Tryz.call27⟩
  · exact ⟨Go.Proofs.Tryz.func28, Go.Proofs.Tryz.call28⟩
  · exact ⟨Go.Proofs.Tryz.func29, Go.Proofs.Tryz.call29⟩
  · exact ⟨Go.Proofs.Tryz.func30, Go.Proofs.Tryz.call30⟩
  · exact ⟨Go.Proofs.Tryz.func38, Go.Proofs.Tryz.call38⟩
  · exact ⟨Go.Proofs.Tryz.func39, Go.Proofs.Tryz.call39⟩
  · exact ⟨Go.Proofs.Tryz.func40, Go.Proofs.Tryz.call40⟩
  · exact ⟨Go.Proofs.Tryz.func41, Go.Proofs.Tryz.call41⟩
  · exact ⟨Go.Proofs.Tryz.func51, Go.Proofs.Tryz.call51⟩
  · exact ⟨Go.Proofs.Tryz.func52, Go.Proofs.Tryz.call52⟩
  · exact ⟨Go.Proofs.Tryz.func53, Go.Proofs.Tryz.call53⟩
  · exact ⟨Go.Proofs.Tryz.func57, Go.Proofs.Tryz.call57⟩
  · exact ⟨Go.Proofs.Tryz.func58, Go.Proofs.Tryz.call58⟩
  · exact ⟨Go.Proofs.Tryz.func59, Go.Proofs.Tryz.call59⟩
  · exact ⟨Go.Proofs.Tryz.func60, Go.Proofs.Tryz.call60⟩
  · exact ⟨Go.Proofs.Tryz.func61, Go.Proofs.Tryz.call61⟩
  · exact ⟨Go.Proofs.Tryz.func62, Go.Proofs.Tryz.call62⟩
  · exact ⟨Go.Proofs.Tryz.func63, Go.Proofs.Tryz.call63⟩
  · exact ⟨Go.Proofs.Tryz.func64, Go.Proofs.Tryz.call64⟩
  · exact ⟨Go.Proofs.Tryz.func65, Go.Proofs.Tryz.call65⟩
  · exact ⟨Go.Proofs.Tryz.func66, Go.Proofs.Tryz.call66⟩
  · exact ⟨Go.Proofs.Tryz.func67, Go.Proofs.Tryz.call67⟩
  · exact ⟨Go.Proofs.Tryz.func68, Go.Proofs.Tryz.call68⟩
  · exact ⟨Go.Proofs.Tryz.func69, Go.Proofs.Tryz.call69⟩
  · exact ⟨Go.Proofs.Tryz.func82, Go.Proofs.Tryz.call82⟩
  · exact ⟨Go.Proofs.Tryz.func83, Go.Proofs.Tryz.call83⟩
  · exact ⟨Go.Proofs.Tryz.func84, Go.Proofs.Tryz.call84⟩
  · exact ⟨Go.Proofs.Tryz.func85, Go.Proofs.Tryz.call85⟩
  · exact ⟨Go.Proofs.Tryz.func86, Go.Proofs.Tryz.call86⟩
  · exact ⟨Go.Proofs.Tryz.func87, Go.Proofs.Tryz.call87⟩
  · exact ⟨Go.Proofs.Tryz.func88, Go.Proofs.Tryz.call88⟩
  · exact ⟨Go.Proofs.Tryz.func89, Go.Proofs.Tryz.call89⟩
  · exact ⟨Go.Proofs.Tryz.func90, Go.Proofs.Tryz.call90⟩
  · exact ⟨Go.Proofs.Tryz.func91, Go.Proofs.Tryz.call91⟩
  · exact ⟨Go.Proofs.Tryz.func92, Go.Proofs.Tryz.call92⟩
  · exact ⟨Go.Proofs.Tryz.func93, Go.Proofs.Tryz.call93⟩
  · exact ⟨Go.Proofs.Tryz.func94, Go.Proofs.Tryz.call94⟩
  · exact ⟨Go.Proofs.Tryz.func95, Go.Proofs.Tryz.call95⟩
  · exact ⟨Go.Proofs.Tryz.func96, Go.Proofs.Tryz.call96⟩
  · exact ⟨Go.Proofs.Tryz.func97, Go.Proofs.Tryz.call97⟩
  · exact ⟨Go.Proofs.Tryz.func103, Go.Proofs.Tryz.call103⟩
  · exact ⟨Go.Proofs.Tryz.func104, Go.Proofs.Tryz.call104⟩
  · exact ⟨Go.Proofs.Tryz.func105, Go.Proofs.Tryz.call105⟩
  · exact ⟨Go.Proofs.Tryz.func106, Go.Proofs.Tryz.call106⟩
  · exact ⟨Go.Proofs.Tryz.func107, Go.Proofs.Tryz.call107⟩
  · exact ⟨Go.Proofs.Tryz.func108, Go.Proofs.Tryz.call108⟩
  · exact ⟨Go.Proofs.Tryz.func109, Go.Proofs.Tryz.call109⟩
  · exact ⟨Go.Proofs.Tryz.func110, Go.Proofs.Tryz.call110⟩
  · exact ⟨Go.Proofs.Tryz.func111, Go.Proofs.Tryz.call111⟩
  · exact ⟨Go.Proofs.Tryz.func112, Go.Proofs.Tryz.call112⟩
  · exact ⟨Go.Proofs.Tryz.func123, Go.Proofs.Tryz.call123⟩
  · exact ⟨Go.Proofs.Tryz.func124, Go.Proofs.Tryz.call124⟩
  · exact ⟨Go.Proofs.Tryz.func125, Go.Proofs.Tryz.call125⟩
  · exact ⟨Go.Proofs.Tryz.func126, Go.Proofs.Tryz.call126⟩
  · exact ⟨Go.Proofs.Tryz.func127, Go.Proofs.Tryz.call127⟩
  · exact ⟨Go.Proofs.Tryz.func128, Go.Proofs.Tryz.call128⟩
  · exact ⟨Go.Proofs.Tryz.func129, Go.Proofs.Tryz.call129⟩
  · exact ⟨Go.Proofs.Tryz.func130, Go.Proofs.Tryz.call130⟩
  · exact ⟨Go.Proofs.Tryz.func142, Go.Proofs.Tryz.call142⟩
  · exact ⟨Go.Proofs.Tryz.func143, Go.Proofs.Tryz.call143⟩
  · exact ⟨Go.Proofs.Tryz.func144, Go.Proofs.Tryz.call144⟩
  · exact ⟨Go.Proofs.Tryz.func145, Go.Proofs.Tryz.call145⟩
  · exact ⟨Go.Proofs.Tryz.func146, Go.Proofs.Tryz.call146⟩
  · exact ⟨Go.Proofs.Tryz.func147, Go.Proofs.Tryz.call147⟩
  · exact ⟨Go.Proofs.Tryz.func148, Go.Proofs.Tryz.call148⟩
  · exact ⟨Go.Proofs.Tryz.func149, Go.Proofs.Tryz.call149⟩
  · exact ⟨Go.Proofs.Tryz.func150, Go.Proofs.Tryz.call150⟩
  · exact ⟨Go.Proofs.Tryz.func151, Go.Proofs.Tryz.call151⟩
  · exact ⟨Go.Proofs.Tryz.func152, Go.Proofs.Tryz.call152⟩
  · exact ⟨Go.Proofs.Tryz.func163, Go.Proofs.Tryz.call163⟩
  · exact ⟨Go.Proofs.Tryz.func164, Go.Proofs.Tryz.call164⟩
  · exact ⟨Go.Proofs.Tryz.func165, Go.Proofs.Tryz.call165⟩
  · exact ⟨Go.Proofs.Tryz.func166, Go.Proofs.Tryz.call166⟩
  · exact ⟨Go.Proofs.Tryz.func167, Go.Proofs.Tryz.call167⟩
  · exact ⟨Go.Proofs.Tryz.func168, Go.Proofs.Tryz.call168⟩
  · exact ⟨Go.Proofs.Tryz.func169, Go.Proofs.Tryz.call169⟩
  · exact ⟨Go.Proofs.Tryz.func170, Go.Proofs.Tryz.call170⟩
  · exact ⟨Go.Proofs.Tryz.func171, Go.Proofs.Tryz.call171⟩
  · exact ⟨Go.Proofs.Tryz.func172, Go.Proofs.Tryz.call172⟩
  · exact ⟨Go.Proofs.Tryz.func173, Go.Proofs.Tryz.call173⟩
  · exact ⟨Go.Proofs.Tryz.func174, Go.Proofs.Tryz.call174⟩
  · exact ⟨Go.Proofs.Tryz.func175, Go.Proofs.Tryz.call175⟩
  · exact ⟨Go.Proofs.Tryz.func176, Go.Proofs.Tryz.call176⟩
  · exact ⟨Go.Proofs.Tryz.func181, Go.Proofs.Tryz.call181⟩
  · exact ⟨Go.Proofs.Tryz.func182, Go.Proofs.Tryz.call182⟩
  · exact ⟨Go.Proofs.Tryz.func183, Go.Proofs.Tryz.call183⟩
  · exact ⟨Go.Proofs.Tryz.func184, Go.Proofs.Tryz.call184⟩
  · exact ⟨Go.Proofs.Tryz.func185, Go.Proofs.Tryz.call185⟩
  · exact ⟨Go.Proofs.Tryz.func186, Go.Proofs.Tryz.call186⟩
  · exact ⟨Go.Proofs.Tryz.func187, Go.Proofs.Tryz.call187⟩
  · exact ⟨Go.Proofs.Tryz.func188, Go.Proofs.Tryz.call188⟩
  · exact ⟨Go.Proofs.Tryz.func213, Go.Proofs.Tryz.call213⟩
  · exact ⟨Go.Proofs.Tryz.func214, Go.Proofs.Tryz.call214⟩
  · exact ⟨Go.Proofs.Tryz.func215, Go.Proofs.Tryz.call215⟩
  · exact ⟨Go.Proofs.Tryz.func216, Go.Proofs.Tryz.call216⟩
  · exact ⟨Go.Proofs.Tryz.func217, Go.Proofs.Tryz.call217⟩
  · exact ⟨Go.Proofs.Tryz.func218, Go.Proofs.Tryz.call218⟩
  · exact ⟨Go.Proofs.Tryz.func219, Go.Proofs.Tryz.call219⟩
  · exact ⟨Go.Proofs.Tryz.func220, Go.Proofs.Tryz.call220⟩
  · exact ⟨Go.Proofs.Tryz.func221, Go.Proofs.Tryz.call221⟩
  · exact ⟨Go.Proofs.Tryz.func222, Go.Proofs.Tryz.call222⟩
  · exact ⟨Go.Proofs.Tryz.func223, Go.Proofs.Tryz.call223⟩
  · exact ⟨Go.Proofs.Tryz.func224, Go.Proofs.Tryz.call224⟩
  · exact ⟨Go.Proofs.Tryz.func225, Go.Proofs.Tryz.call225⟩
  · exact ⟨Go.Proofs.Tryz.func226, Go.Proofs.Tryz.call226⟩
def Θ9 : List (Nat × TI) := [(3, ⟨.int .i64, 1, 8, [.d (.i .i64 0)]⟩),
  (52, ⟨.slice 3, 1, 24, [.es]⟩),
  (24, ⟨.struct [(0, 22), (1, 22)], 2, 48, [.es, .es]⟩),
  (22, ⟨.slice 62, 1, 24, [.es]⟩),
  (62, ⟨.int .i64, 1, 8, [.d (.i .i64 0)]⟩),
  (64, ⟨.int .i64, 1, 8, [.d (.i .i64 0)]⟩),
  (27, ⟨.struct [(0, 24), (2, 22), (3, 25)], 4, 96, [.es, .es, .es, .es]⟩),
  (25, ⟨.slice 59, 1, 24, [.es]⟩),
  (9, ⟨.str, 1, 16, [.d (.s ⟨#[]⟩)]⟩),
  (59, ⟨.struct [(0, 52), (1, 53), (2, 57)], 7, 120, [.es, .es, .d (.i .i64 0), .d (.i .i64 0), .es, .es, .d (.i .i64 0)]⟩),
  (66, ⟨.struct [(0, 3), (1, 64), (2, 3), (3, 3), (4, 63), (5, 52), (6, 52)], 7, 88, [.d (.i .i64 0), .d (.i .i64 0), .d (.i .i64 0), .d (.i .i64 0), .d (.i .u64 0), .es, .es]⟩),
  (4, ⟨.bool, 1, 1, [.d (.b false)]⟩),
  (57, ⟨.struct [(0, 3), (1, 3), (2, 52), (3, 54), (4, 55)], 5, 72, [.d (.i .i64 0), .d (.i .i64 0), .es, .es, .d (.i .i64 0)]⟩),
  (153, ⟨.struct [(0, 64), (1, 3), (2, 3), (3, 63), (4, 151), (7, 22), (8, 52)], 9, 104, [.d (.i .i64 0), .d (.i .i64 0), .d (.i .i64 0), .d (.i .u64 0), .d (.i .i64 0), .d (.i .i64 0), .d (.i .i64 0), .es, .es]⟩),
  (99, ⟨.struct [(0, 3), (1, 52)], 2, 32, [.d (.i .i64 0), .es]⟩),
  (53, ⟨.slice 66, 1, 24, [.es]⟩),
  (54, ⟨.slice 99, 1, 24, [.es]⟩),
  (142, ⟨.struct [(0, 62), (1, 140)], 4, 32, [.d (.i .i64 0), .d (.i .i64 0), .d (.i .i64 0), .d (.b false)]⟩),
  (132, ⟨.ptr 136, 1, 8, [.nilp]⟩),
  (250, ⟨.struct [(0, 64), (1, 9), (2, 9)], 3, 40, [.d (.i .i64 0), .d (.s ⟨#[]⟩), .d (.s ⟨#[]⟩)]⟩),
  (136, ⟨.struct [(0, 33), (1, 52), (2, 36), (3, 37), (4, 134), (5, 22), (6, 3), (7, 133), (8, 72)], 9, 168, [.es, .es, .es, .es, .es, .es, .d (.i .i64 0), .nilm, .nilm]⟩),
  (144, ⟨.struct [(0, 62), (1, 4)], 2, 16, [.d (.i .i64 0), .d (.b false)]⟩),
  (31, ⟨.slice 4, 1, 24, [.es]⟩),
  (206, ⟨.arr 4 4, 4, 4, [.d (.b false), .d (.b false), .d (.b false), .d (.b false)]⟩),
  (63, ⟨.int .u64, 1, 8, [.d (.i .u64 0)]⟩),
  (72, ⟨.map 3 4, 1, 8, [.nilm]⟩),
  (114, ⟨.struct [(0, 111), (2, 27), (6, 52), (7, 112)], 8, 160, [.nilp, .es, .es, .es, .es, .es, .es, .nilm]⟩),
  (140, ⟨.struct [(0, 3), (1, 3), (2, 4)], 3, 24, [.d (.i .i64 0), .d (.i .i64 0), .d (.b false)]⟩),
  (269, ⟨.int .i64, 1, 8, [.d (.i .i64 0)]⟩),
  (70, ⟨.slice 52, 1, 24, [.es]⟩),
  (111, ⟨.struct [(0, 108), (1, 22)], 2, 32, [.nilp, .es]⟩),
  (177, ⟨.struct [(0, 3), (1, 3)], 2, 16, [.d (.i .i64 0), .d (.i .i64 0)]⟩),
  (108, ⟨.ptr 160, 1, 8, [.nilp]⟩),
  (36, ⟨.slice 142, 1, 24, [.es]⟩),
  (37, ⟨.slice 140, 1, 24, [.es]⟩),
  (134, ⟨.slice 144, 1, 24, [.es]⟩),
  (280, ⟨.struct [(0, 3), (1, 3)], 2, 16, [.d (.i .i64 0), .d (.i .i64 0)]⟩),
  (164, ⟨.struct [(0, 3), (1, 3)], 2, 16, [.d (.i .i64 0), .d (.i .i64 0)]⟩),
  (138, ⟨.int .i64, 1, 8, [.d (.i .i64 0)]⟩),
  (33, ⟨.slice 24, 1, 24, [.es]⟩),
  (115, ⟨.map 3 3, 1, 8, [.nilm]⟩),
  (44, ⟨.struct [(0, 33), (1, 34), (2, 35), (3, 36), (4, 37), (5, 38), (6, 39), (7, 4), (8, 3), (9, 40), (10, 41), (11, 42)], 12, 256, [.es, .es, .es, .es, .es, .es, .es, .d (.b false), .d (.i .i64 0), .es, .es, .es]⟩),
  (146, ⟨.struct [(0, 9), (1, 9), (2, 138), (3, 3), (4, 142), (8, 140), (11, 144)], 13, 120, [.d (.s ⟨#[]⟩), .d (.s ⟨#[]⟩), .d (.i .i64 0), .d (.i .i64 0), .d (.i .i64 0), .d (.i .i64 0), .d (.i .i64 0), .d (.b false), .d (.i .i64 0), .d (.i .i64 0), .d (.b false), .d (.i .i64 0), .d (.b false)]⟩),
  (5, ⟨.int .u8, 1, 1, [.d (.i .u8 0)]⟩),
  (112, ⟨.map 3 164, 1, 8, [.nilm]⟩),
  (151, ⟨.struct [(0, 3), (1, 62), (2, 3)], 3, 24, [.d (.i .i64 0), .d (.i .i64 0), .d (.i .i64 0)]⟩),
  (175, ⟨.slice 177, 1, 24, [.es]⟩),
  (55, ⟨.int .i64, 1, 8, [.d (.i .i64 0)]⟩),
  (231, ⟨.slice 9, 1, 24, [.es]⟩),
  (21, ⟨.int .i32, 1, 4, [.d (.i .i32 0)]⟩),
  (278, ⟨.slice 280, 1, 24, [.es]⟩),
  (156, ⟨.struct [(0, 144), (2, 82)], 3, 40, [.d (.i .i64 0), .d (.b false), .es]⟩),
  (82, ⟨.slice 153, 1, 24, [.es]⟩),
  (85, ⟨.struct [(0, 3), (1, 3), (2, 82), (3, 62), (4, 83)], 5, 72, [.d (.i .i64 0), .d (.i .i64 0), .es, .d (.i .i64 0), .es]⟩),
  (158, ⟨.struct [(0, 9), (1, 138), (2, 3)], 3, 32, [.d (.s ⟨#[]⟩), .d (.i .i64 0), .d (.i .i64 0)]⟩),
  (107, ⟨.ptr 114, 1, 8, [.nilp]⟩),
  (133, ⟨.map 138 3, 1, 8, [.nilm]⟩),
  (149, ⟨.struct [(0, 3), (1, 22), (2, 82)], 3, 56, [.d (.i .i64 0), .es, .es]⟩),
  (49, ⟨.int .i64, 1, 8, [.d (.i .i64 0)]⟩),
  (34, ⟨.slice 146, 1, 24, [.es]⟩),
  (35, ⟨.slice 149, 1, 24, [.es]⟩),
  (38, ⟨.slice 156, 1, 24, [.es]⟩),
  (40, ⟨.slice 85, 1, 24, [.es]⟩),
  (83, ⟨.slice 82, 1, 24, [.es]⟩),
  (39, ⟨.slice 158, 1, 24, [.es]⟩),
  (160, ⟨.struct [(0, 132)], 1, 8, [.nilp]⟩),
  (41, ⟨.slice 324, 1, 24, [.es]⟩),
  (247, ⟨.slice 250, 1, 24, [.es]⟩),
  (281, ⟨.int .u32, 1, 4, [.d (.i .u32 0)]⟩),
  (324, ⟨.struct [(0, 3), (1, 3), (2, 82), (3, 322)], 4, 64, [.d (.i .i64 0), .d (.i .i64 0), .es, .es]⟩),
  (74, ⟨.fn, 1, 8, [.nilf]⟩),
  (283, ⟨.ptr 296, 1, 8, [.nilp]⟩)]
noncomputable def eqTK : TK → TK → Bool
  | .int k, .int j => decide (k = j)
  | .bool, .bool => true
  | .str, .str => true
  | .slice e, .slice e' => Nat.beq e e'
  | .struct fs, .struct fs' => fs == fs'
  | .arr n e, .arr n' e' => Nat.beq n n' && Nat.beq e e'
  | .ptr e, .ptr e' => Nat.beq e e'
  | .map k e, .map k' e' => Nat.beq k k' && Nat.beq e e'
  | .fn, .fn => true
  | _, _ => false
theorem eqTK_out {a b : TK} (h : eqTK a b = true) : a = b := by
  cases a <;> cases b <;> simp_all [eqTK]
noncomputable def inB (l : List (Nat × TI)) (p : Nat × TI) : Bool := l.any fun q => Nat.beq q.1 p.1 && (eqTK q.2.k p.2.k && (Nat.beq q.2.size p.2.size && (Nat.beq q.2.bytes p.2.bytes && eqAs q.2.zero p.2.zero)))
theorem inB_out {l : List (Nat × TI)} {p : Nat × TI} (h : inB l p = true) : p ∈ l := by
  obtain ⟨q, hq, h⟩ := List.any_eq_true.1 h
  simp only [Bool.and_eq_true, Nat.beq_eq] at h
  obtain ⟨h1, h2, h3, h4, h5⟩ := h
  have : q = p := by
    obtain ⟨a, ⟨b, c, d, e⟩⟩ := q
    obtain ⟨a', ⟨b', c', d', e'⟩⟩ := p
    simp only at h1 h2 h3 h4 h5
    rw [h1, eqTK_out h2, h3, h4, eqAs_out _ _ h5]
  rwa [← this]
theorem Θ9in : (Θ9.all fun p => inB Θ p) = true := by kernel_rfl
theorem Θ9ok : ΘOk Go.Proofs.Tryz.prog Θ9 := fun t ti h => Θok t ti (inB_out (List.all_eq_true.1 Θ9in (t, ti) h))
theorem follows : Go.Proofs.Tryz.prog.follows .mixedOrders = true := by kernel_rfl
def cls : List Cl := [⟨57, 1, 8⟩, ⟨58, 1, 8⟩]
theorem clsOk (wb : World) : ClOk Go.Proofs.Tryz.prog wb cls := by
  intro c hc
  simp only [cls, List.mem_cons, List.not_mem_nil, or_false] at hc
  rcases hc with rfl | rfl
  · exact clone57 wb
  · exact clone58 wb
theorem run_out {n f : Nat} {xs : List A} {H : List Ob} {κ : A → List Ob → Bool} (wb : World) (e : callX tab Θ9 cls n f xs H κ = true) : CallOk Go.Proofs.Tryz.prog wb f xs H fun r H' => κ r H' = true :=
  (callX_out Θ9ok follows tabOk (clsOk wb) n).1 _ _ _ _ e
noncomputable def isB (t : Bool) (x : A) : Bool := match x with
  | .d (.b b) => beqB b t
  | _ => false
end X
end Go.DL
