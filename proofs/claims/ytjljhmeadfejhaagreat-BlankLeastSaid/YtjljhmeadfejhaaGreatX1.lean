/- The example of chapter 19, run by the kernel. -/
import Derived.Test.YtjljhmeadfejhaaGreatO2
import Derived.Test.YtjljhmeadfejhaaGreatT0
import Derived.Test.YtjljhmeadfejhaaGreatC1
set_option maxRecDepth 100000
namespace Go.Proofs.YtjljhmeadfejhaaGreat
open Go.Eng
def tab19 : List (FuncId × AFun) := [(11, A11), (13, A13), (14, A14), (15, A15), (21, A21), (23, A23), (33, A33), (34, A34), (42, A42), (43, A43), (44, A44), (45, A45), (46, A46), (56, A56), (57, A57), (58, A58), (71, A71), (72, A72), (73, A73), (74, A74), (75, A75), (77, A77), (78, A78), (79, A79), (81, A81), (83, A83), (84, A84), (85, A85), (86, A86), (91, A91), (92, A92), (93, A93), (94, A94), (95, A95), (96, A96), (97, A97), (98, A98), (103, A103), (122, A122), (123, A123), (124, A124), (125, A125), (126, A126), (127, A127), (128, A128), (129, A129), (130, A130), (131, A131), (132, A132), (133, A133), (134, A134), (135, A135), (136, A136), (137, A137), (140, A140), (141, A141), (148, A148), (149, A149), (169, A169), (170, A170), (171, A171), (172, A172), (173, A173), (175, A175), (176, A176), (177, A177), (178, A178), (183, A183), (184, A184), (196, A196), (197, A197), (199, A199), (202, A202), (203, A203), (204, A204), (209, A209), (221, A221), (198, A198), (210, A210), (24, A24), (26, A26), (61, A61), (101, A101), (152, A152), (153, A153), (154, A154)]
theorem tab19_ok : tabOk Tryz.prog tab19 := ⟨c11, c13, c14, c15, c21, c23, c33, c34, c42, c43, c44, c45, c46, c56, c57, c58, c71, c72, c73, c74, c75, c77, c78, c79, c81, c83, c84, c85, c86, c91, c92, c93, c94, c95, c96, c97, c98, c103, c122, c123, c124, c125, c126, c127, c128, c129, c130, c131, c132, c133, c134, c135, c136, c137, c140, c141, c148, c149, c169, c170, c171, c172, c173, c175, c176, c177, c178, c183, c184, c196, c197, c199, c202, c203, c204, c209, c221, c198, c210, c24, c26, c61, c101, c152, c153, c154, trivial⟩
theorem w24 {h : List AO} {K : ARes → List AO → Prop} (k : K (.ok (.bool true)) h) : W 24 [] h K :=
  WC_runT mixed (T := ⟨fun i => lookF i tab19, oPrim, oHp⟩) ⟨fun g F hF => tabOk_look tab19_ok hF, oPrim_ok, oHp_ok⟩ 100000 (by kernel_rfl) k
end Go.Proofs.YtjljhmeadfejhaaGreat
