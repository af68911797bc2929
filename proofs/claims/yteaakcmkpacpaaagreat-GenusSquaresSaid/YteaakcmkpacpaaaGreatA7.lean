import Derived.Test.YteaakcmkpacpaaaGreatA6
open Nat renaming lt_or_ge→iA,sub_zero→hR
open List renaming length_map→hB,getD_eq_getElem?_getD→iB,take_succ_eq_append_getElem→hD,foldl_cons→aE,mem_map→hE,countP_eq_length_filter→zE,mem_singleton→hG,getElem?_eq_getElem→hI,getElem_mem→xK,mem_append→yK,take_of_length_le→cP,length_pos_iff→hQ
open Option renaming bind_some→hC
open Int renaming toNat_natCast→pC
open Bool renaming and_self→hP
set_option linter.unusedVariables false
set_option linter.unusedSimpArgs false
namespace Go.Proofs.YteaakcmkpacpaaaGreat.Gen
set_option maxRecDepth 100000
theorem G3:pA 256 16384=true:=by kernel_rfl
theorem G4:pA 256 16640=true:=by kernel_rfl
theorem G5:pA 256 16896=true:=by kernel_rfl
theorem G6:pA 256 17152=true:=by kernel_rfl
theorem G7:pA 256 17408=true:=by kernel_rfl
theorem G8:pA 256 17664=true:=by kernel_rfl
theorem G9:pA 256 17920=true:=by kernel_rfl
theorem Ga:pA 256 18176=true:=by kernel_rfl
theorem Gb:pA 256 18432=true:=by kernel_rfl
theorem Gc:pA 256 18688=true:=by kernel_rfl
theorem Gd:pA 256 18944=true:=by kernel_rfl
theorem Ge:pA 256 19200=true:=by kernel_rfl
theorem Gf:pA 256 19456=true:=by kernel_rfl
theorem Gg:pA 256 19712=true:=by kernel_rfl
theorem Gh:pA 256 19968=true:=by kernel_rfl
theorem Gi:pA 256 20224=true:=by kernel_rfl
theorem Gj:pA 256 20480=true:=by kernel_rfl
theorem Gk:pA 256 20736=true:=by kernel_rfl
theorem Gl:pA 256 20992=true:=by kernel_rfl
theorem Gm:pA 256 21248=true:=by kernel_rfl
theorem Gn:pA 256 21504=true:=by kernel_rfl
theorem Gp:pA 256 21760=true:=by kernel_rfl
theorem Gq:pA 256 22016=true:=by kernel_rfl
theorem Gr:pA 256 22272=true:=by kernel_rfl
theorem Gs:pA 256 22528=true:=by kernel_rfl
theorem Gt:pA 256 22784=true:=by kernel_rfl
theorem Gu:pA 256 23040=true:=by kernel_rfl
theorem Gv:pA 256 23296=true:=by kernel_rfl
theorem Gw:pA 256 23552=true:=by kernel_rfl
theorem Gx:pA 256 23808=true:=by kernel_rfl
theorem Gy:pA 256 24064=true:=by kernel_rfl
theorem Gz:pA 256 24320=true:=by kernel_rfl
theorem H0:pA 256 24576=true:=by kernel_rfl
theorem H1:pA 256 24832=true:=by kernel_rfl
theorem H2:pA 256 25088=true:=by kernel_rfl
theorem H3:pA 256 25344=true:=by kernel_rfl
theorem H4:pA 256 25600=true:=by kernel_rfl
theorem H5:pA 256 25856=true:=by kernel_rfl
theorem H6:pA 256 26112=true:=by kernel_rfl
theorem H7:pA 256 26368=true:=by kernel_rfl
theorem H8:pA 256 26624=true:=by kernel_rfl
theorem H9:pA 256 26880=true:=by kernel_rfl
theorem Ha:pA 256 27136=true:=by kernel_rfl
theorem Hb:pA 256 27392=true:=by kernel_rfl
theorem Hc:pA 256 27648=true:=by kernel_rfl
theorem Hd:pA 256 27904=true:=by kernel_rfl
theorem He:pA 256 28160=true:=by kernel_rfl
theorem Hf:pA 256 28416=true:=by kernel_rfl
theorem Hg:pA 256 28672=true:=by kernel_rfl
theorem Hi:pA 256 28928=true:=by kernel_rfl
theorem Hj:pA 256 29184=true:=by kernel_rfl
theorem Hk:pA 256 29440=true:=by kernel_rfl
theorem Hl:pA 256 29696=true:=by kernel_rfl
theorem Hn:pA 256 29952=true:=by kernel_rfl
theorem Ho:pA 256 30208=true:=by kernel_rfl
theorem Hp:pA 256 30464=true:=by kernel_rfl
theorem Hq:pA 256 30720=true:=by kernel_rfl
theorem Hr:pA 256 30976=true:=by kernel_rfl
theorem Hs:pA 256 31232=true:=by kernel_rfl
theorem Ht:pA 256 31488=true:=by kernel_rfl
theorem Hu:pA 256 31744=true:=by kernel_rfl
theorem Hv:pA 256 32000=true:=by kernel_rfl
theorem Hw:pA 256 32256=true:=by kernel_rfl
theorem Hy:pA 256 32512=true:=by kernel_rfl
theorem n9 (n:Nat)(h1:16384≤n)(h2:n<32768):Bv n=true:=by
 rcases iA n 16640 with q|q
 ·exact bA G3 n (by omega) (by omega)
 clear h1;have h1:=q;clear q;rcases iA n 16896 with q|q
 ·exact bA G4 n (by omega) (by omega)
 clear h1;have h1:=q;clear q;rcases iA n 17152 with q|q
 ·exact bA G5 n (by omega) (by omega)
 clear h1;have h1:=q;clear q;rcases iA n 17408 with q|q
 ·exact bA G6 n (by omega) (by omega)
 clear h1;have h1:=q;clear q;rcases iA n 17664 with q|q
 ·exact bA G7 n (by omega) (by omega)
 clear h1;have h1:=q;clear q;rcases iA n 17920 with q|q
 ·exact bA G8 n (by omega) (by omega)
 clear h1;have h1:=q;clear q;rcases iA n 18176 with q|q
 ·exact bA G9 n (by omega) (by omega)
 clear h1;have h1:=q;clear q;rcases iA n 18432 with q|q
 ·exact bA Ga n (by omega) (by omega)
 clear h1;have h1:=q;clear q;rcases iA n 18688 with q|q
 ·exact bA Gb n (by omega) (by omega)
 clear h1;have h1:=q;clear q;rcases iA n 18944 with q|q
 ·exact bA Gc n (by omega) (by omega)
 clear h1;have h1:=q;clear q;rcases iA n 19200 with q|q
 ·exact bA Gd n (by omega) (by omega)
 clear h1;have h1:=q;clear q;rcases iA n 19456 with q|q
 ·exact bA Ge n (by omega) (by omega)
 clear h1;have h1:=q;clear q;rcases iA n 19712 with q|q
 ·exact bA Gf n (by omega) (by omega)
 clear h1;have h1:=q;clear q;rcases iA n 19968 with q|q
 ·exact bA Gg n (by omega) (by omega)
 clear h1;have h1:=q;clear q;rcases iA n 20224 with q|q
 ·exact bA Gh n (by omega) (by omega)
 clear h1;have h1:=q;clear q;rcases iA n 20480 with q|q
 ·exact bA Gi n (by omega) (by omega)
 clear h1;have h1:=q;clear q;rcases iA n 20736 with q|q
 ·exact bA Gj n (by omega) (by omega)
 clear h1;have h1:=q;clear q;rcases iA n 20992 with q|q
 ·exact bA Gk n (by omega) (by omega)
 clear h1;have h1:=q;clear q;rcases iA n 21248 with q|q
 ·exact bA Gl n (by omega) (by omega)
 clear h1;have h1:=q;clear q;rcases iA n 21504 with q|q
 ·exact bA Gm n (by omega) (by omega)
 clear h1;have h1:=q;clear q;rcases iA n 21760 with q|q
 ·exact bA Gn n (by omega) (by omega)
 clear h1;have h1:=q;clear q;rcases iA n 22016 with q|q
 ·exact bA Gp n (by omega) (by omega)
 clear h1;have h1:=q;clear q;rcases iA n 22272 with q|q
 ·exact bA Gq n (by omega) (by omega)
 clear h1;have h1:=q;clear q;rcases iA n 22528 with q|q
 ·exact bA Gr n (by omega) (by omega)
 clear h1;have h1:=q;clear q;rcases iA n 22784 with q|q
 ·exact bA Gs n (by omega) (by omega)
 clear h1;have h1:=q;clear q;rcases iA n 23040 with q|q
 ·exact bA Gt n (by omega) (by omega)
 clear h1;have h1:=q;clear q;rcases iA n 23296 with q|q
 ·exact bA Gu n (by omega) (by omega)
 clear h1;have h1:=q;clear q;rcases iA n 23552 with q|q
 ·exact bA Gv n (by omega) (by omega)
 clear h1;have h1:=q;clear q;rcases iA n 23808 with q|q
 ·exact bA Gw n (by omega) (by omega)
 clear h1;have h1:=q;clear q;rcases iA n 24064 with q|q
 ·exact bA Gx n (by omega) (by omega)
 clear h1;have h1:=q;clear q;rcases iA n 24320 with q|q
 ·exact bA Gy n (by omega) (by omega)
 clear h1;have h1:=q;clear q;rcases iA n 24576 with q|q
 ·exact bA Gz n (by omega) (by omega)
 clear h1;have h1:=q;clear q;rcases iA n 24832 with q|q
 ·exact bA H0 n (by omega) (by omega)
 clear h1;have h1:=q;clear q;rcases iA n 25088 with q|q
 ·exact bA H1 n (by omega) (by omega)
 clear h1;have h1:=q;clear q;rcases iA n 25344 with q|q
 ·exact bA H2 n (by omega) (by omega)
 clear h1;have h1:=q;clear q;rcases iA n 25600 with q|q
 ·exact bA H3 n (by omega) (by omega)
 clear h1;have h1:=q;clear q;rcases iA n 25856 with q|q
 ·exact bA H4 n (by omega) (by omega)
 clear h1;have h1:=q;clear q;rcases iA n 26112 with q|q
 ·exact bA H5 n (by omega) (by omega)
 clear h1;have h1:=q;clear q;rcases iA n 26368 with q|q
 ·exact bA H6 n (by omega) (by omega)
 clear h1;have h1:=q;clear q;rcases iA n 26624 with q|q
 ·exact bA H7 n (by omega) (by omega)
 clear h1;have h1:=q;clear q;rcases iA n 26880 with q|q
 ·exact bA H8 n (by omega) (by omega)
 clear h1;have h1:=q;clear q;rcases iA n 27136 with q|q
 ·exact bA H9 n (by omega) (by omega)
 clear h1;have h1:=q;clear q;rcases iA n 27392 with q|q
 ·exact bA Ha n (by omega) (by omega)
 clear h1;have h1:=q;clear q;rcases iA n 27648 with q|q
 ·exact bA Hb n (by omega) (by omega)
 clear h1;have h1:=q;clear q;rcases iA n 27904 with q|q
 ·exact bA Hc n (by omega) (by omega)
 clear h1;have h1:=q;clear q;rcases iA n 28160 with q|q
 ·exact bA Hd n (by omega) (by omega)
 clear h1;have h1:=q;clear q;rcases iA n 28416 with q|q
 ·exact bA He n (by omega) (by omega)
 clear h1;have h1:=q;clear q;rcases iA n 28672 with q|q
 ·exact bA Hf n (by omega) (by omega)
 clear h1;have h1:=q;clear q;rcases iA n 28928 with q|q
 ·exact bA Hg n (by omega) (by omega)
 clear h1;have h1:=q;clear q;rcases iA n 29184 with q|q
 ·exact bA Hi n (by omega) (by omega)
 clear h1;have h1:=q;clear q;rcases iA n 29440 with q|q
 ·exact bA Hj n (by omega) (by omega)
 clear h1;have h1:=q;clear q;rcases iA n 29696 with q|q
 ·exact bA Hk n (by omega) (by omega)
 clear h1;have h1:=q;clear q;rcases iA n 29952 with q|q
 ·exact bA Hl n (by omega) (by omega)
 clear h1;have h1:=q;clear q;rcases iA n 30208 with q|q
 ·exact bA Hn n (by omega) (by omega)
 clear h1;have h1:=q;clear q;rcases iA n 30464 with q|q
 ·exact bA Ho n (by omega) (by omega)
 clear h1;have h1:=q;clear q;rcases iA n 30720 with q|q
 ·exact bA Hp n (by omega) (by omega)
 clear h1;have h1:=q;clear q;rcases iA n 30976 with q|q
 ·exact bA Hq n (by omega) (by omega)
 clear h1;have h1:=q;clear q;rcases iA n 31232 with q|q
 ·exact bA Hr n (by omega) (by omega)
 clear h1;have h1:=q;clear q;rcases iA n 31488 with q|q
 ·exact bA Hs n (by omega) (by omega)
 clear h1;have h1:=q;clear q;rcases iA n 31744 with q|q
 ·exact bA Ht n (by omega) (by omega)
 clear h1;have h1:=q;clear q;rcases iA n 32000 with q|q
 ·exact bA Hu n (by omega) (by omega)
 clear h1;have h1:=q;clear q;rcases iA n 32256 with q|q
 ·exact bA Hv n (by omega) (by omega)
 clear h1;have h1:=q;clear q;rcases iA n 32512 with q|q
 ·exact bA Hw n (by omega) (by omega)
 clear h1;have h1:=q;clear q;exact bA Hy n (by omega) (by omega)
theorem Hz:pA 256 32768=true:=by kernel_rfl
theorem I0:pA 256 33024=true:=by kernel_rfl
theorem I1:pA 256 33280=true:=by kernel_rfl
theorem I2:pA 256 33536=true:=by kernel_rfl
theorem I3:pA 256 33792=true:=by kernel_rfl
theorem I4:pA 256 34048=true:=by kernel_rfl
theorem I5:pA 256 34304=true:=by kernel_rfl
theorem I6:pA 256 34560=true:=by kernel_rfl
theorem I7:pA 256 34816=true:=by kernel_rfl
theorem I8:pA 256 35072=true:=by kernel_rfl
theorem I9:pA 256 35328=true:=by kernel_rfl
theorem Ia:pA 256 35584=true:=by kernel_rfl
theorem Ib:pA 256 35840=true:=by kernel_rfl
theorem Ic:pA 256 36096=true:=by kernel_rfl
theorem Ie:pA 256 36352=true:=by kernel_rfl
theorem If:pA 256 36608=true:=by kernel_rfl
theorem Ig:pA 256 36864=true:=by kernel_rfl
theorem Ih:pA 256 37120=true:=by kernel_rfl
theorem Ii:pA 256 37376=true:=by kernel_rfl
theorem Ij:pA 256 37632=true:=by kernel_rfl
theorem Ik:pA 256 37888=true:=by kernel_rfl
theorem Il:pA 256 38144=true:=by kernel_rfl
theorem Im:pA 256 38400=true:=by kernel_rfl
theorem Io:pA 256 38656=true:=by kernel_rfl
theorem Ip:pA 256 38912=true:=by kernel_rfl
theorem Iq:pA 256 39168=true:=by kernel_rfl
theorem Ir:pA 256 39424=true:=by kernel_rfl
theorem It:pA 256 39680=true:=by kernel_rfl
theorem Iu:pA 256 39936=true:=by kernel_rfl
theorem Iv:pA 256 40192=true:=by kernel_rfl
theorem Iw:pA 256 40448=true:=by kernel_rfl
theorem Ix:pA 256 40704=true:=by kernel_rfl
theorem Iy:pA 256 40960=true:=by kernel_rfl
theorem Iz:pA 256 41216=true:=by kernel_rfl
theorem J0:pA 256 41472=true:=by kernel_rfl
theorem J1:pA 256 41728=true:=by kernel_rfl
theorem J2:pA 256 41984=true:=by kernel_rfl
theorem J3:pA 256 42240=true:=by kernel_rfl
theorem J4:pA 256 42496=true:=by kernel_rfl
theorem J5:pA 256 42752=true:=by kernel_rfl
theorem J6:pA 256 43008=true:=by kernel_rfl
theorem J7:pA 256 43264=true:=by kernel_rfl
theorem J8:pA 256 43520=true:=by kernel_rfl
theorem J9:pA 256 43776=true:=by kernel_rfl
theorem Ja:pA 256 44032=true:=by kernel_rfl
theorem Jb:pA 256 44288=true:=by kernel_rfl
theorem Jc:pA 256 44544=true:=by kernel_rfl
theorem Jd:pA 256 44800=true:=by kernel_rfl
theorem Je:pA 256 45056=true:=by kernel_rfl
theorem Jf:pA 256 45312=true:=by kernel_rfl
theorem Jg:pA 256 45568=true:=by kernel_rfl
theorem Jh:pA 256 45824=true:=by kernel_rfl
theorem Ji:pA 256 46080=true:=by kernel_rfl
theorem Jj:pA 256 46336=true:=by kernel_rfl
theorem Jk:pA 256 46592=true:=by kernel_rfl
theorem Jl:pA 256 46848=true:=by kernel_rfl
theorem Jm:pA 256 47104=true:=by kernel_rfl
theorem Jn:pA 256 47360=true:=by kernel_rfl
theorem Jo:pA 256 47616=true:=by kernel_rfl
theorem Jp:pA 256 47872=true:=by kernel_rfl
theorem Jq:pA 256 48128=true:=by kernel_rfl
theorem Jr:pA 256 48384=true:=by kernel_rfl
theorem Js:pA 256 48640=true:=by kernel_rfl
theorem Jt:pA 256 48896=true:=by kernel_rfl
theorem o9 (n:Nat)(h1:32768≤n)(h2:n<49152):Bv n=true:=by
 rcases iA n 33024 with q|q
 ·exact bA Hz n (by omega) (by omega)
 clear h1;have h1:=q;clear q;rcases iA n 33280 with q|q
 ·exact bA I0 n (by omega) (by omega)
 clear h1;have h1:=q;clear q;rcases iA n 33536 with q|q
 ·exact bA I1 n (by omega) (by omega)
 clear h1;have h1:=q;clear q;rcases iA n 33792 with q|q
 ·exact bA I2 n (by omega) (by omega)
 clear h1;have h1:=q;clear q;rcases iA n 34048 with q|q
 ·exact bA I3 n (by omega) (by omega)
 clear h1;have h1:=q;clear q;rcases iA n 34304 with q|q
 ·exact bA I4 n (by omega) (by omega)
 clear h1;have h1:=q;clear q;rcases iA n 34560 with q|q
 ·exact bA I5 n (by omega) (by omega)
 clear h1;have h1:=q;clear q;rcases iA n 34816 with q|q
 ·exact bA I6 n (by omega) (by omega)
 clear h1;have h1:=q;clear q;rcases iA n 35072 with q|q
 ·exact bA I7 n (by omega) (by omega)
 clear h1;have h1:=q;clear q;rcases iA n 35328 with q|q
 ·exact bA I8 n (by omega) (by omega)
 clear h1;have h1:=q;clear q;rcases iA n 35584 with q|q
 ·exact bA I9 n (by omega) (by omega)
 clear h1;have h1:=q;clear q;rcases iA n 35840 with q|q
 ·exact bA Ia n (by omega) (by omega)
 clear h1;have h1:=q;clear q;rcases iA n 36096 with q|q
 ·exact bA Ib n (by omega) (by omega)
 clear h1;have h1:=q;clear q;rcases iA n 36352 with q|q
 ·exact bA Ic n (by omega) (by omega)
 clear h1;have h1:=q;clear q;rcases iA n 36608 with q|q
 ·exact bA Ie n (by omega) (by omega)
 clear h1;have h1:=q;clear q;rcases iA n 36864 with q|q
 ·exact bA If n (by omega) (by omega)
 clear h1;have h1:=q;clear q;rcases iA n 37120 with q|q
 ·exact bA Ig n (by omega) (by omega)
 clear h1;have h1:=q;clear q;rcases iA n 37376 with q|q
 ·exact bA Ih n (by omega) (by omega)
 clear h1;have h1:=q;clear q;rcases iA n 37632 with q|q
 ·exact bA Ii n (by omega) (by omega)
 clear h1;have h1:=q;clear q;rcases iA n 37888 with q|q
 ·exact bA Ij n (by omega) (by omega)
 clear h1;have h1:=q;clear q;rcases iA n 38144 with q|q
 ·exact bA Ik n (by omega) (by omega)
 clear h1;have h1:=q;clear q;rcases iA n 38400 with q|q
 ·exact bA Il n (by omega) (by omega)
 clear h1;have h1:=q;clear q;rcases iA n 38656 with q|q
 ·exact bA Im n (by omega) (by omega)
 clear h1;have h1:=q;clear q;rcases iA n 38912 with q|q
 ·exact bA Io n (by omega) (by omega)
 clear h1;have h1:=q;clear q;rcases iA n 39168 with q|q
 ·exact bA Ip n (by omega) (by omega)
 clear h1;have h1:=q;clear q;rcases iA n 39424 with q|q
 ·exact bA Iq n (by omega) (by omega)
 clear h1;have h1:=q;clear q;rcases iA n 39680 with q|q
 ·exact bA Ir n (by omega) (by omega)
 clear h1;have h1:=q;clear q;rcases iA n 39936 with q|q
 ·exact bA It n (by omega) (by omega)
 clear h1;have h1:=q;clear q;rcases iA n 40192 with q|q
 ·exact bA Iu n (by omega) (by omega)
 clear h1;have h1:=q;clear q;rcases iA n 40448 with q|q
 ·exact bA Iv n (by omega) (by omega)
 clear h1;have h1:=q;clear q;rcases iA n 40704 with q|q
 ·exact bA Iw n (by omega) (by omega)
 clear h1;have h1:=q;clear q;rcases iA n 40960 with q|q
 ·exact bA Ix n (by omega) (by omega)
 clear h1;have h1:=q;clear q;rcases iA n 41216 with q|q
 ·exact bA Iy n (by omega) (by omega)
 clear h1;have h1:=q;clear q;rcases iA n 41472 with q|q
 ·exact bA Iz n (by omega) (by omega)
 clear h1;have h1:=q;clear q;rcases iA n 41728 with q|q
 ·exact bA J0 n (by omega) (by omega)
 clear h1;have h1:=q;clear q;rcases iA n 41984 with q|q
 ·exact bA J1 n (by omega) (by omega)
 clear h1;have h1:=q;clear q;rcases iA n 42240 with q|q
 ·exact bA J2 n (by omega) (by omega)
 clear h1;have h1:=q;clear q;rcases iA n 42496 with q|q
 ·exact bA J3 n (by omega) (by omega)
 clear h1;have h1:=q;clear q;rcases iA n 42752 with q|q
 ·exact bA J4 n (by omega) (by omega)
 clear h1;have h1:=q;clear q;rcases iA n 43008 with q|q
 ·exact bA J5 n (by omega) (by omega)
 clear h1;have h1:=q;clear q;rcases iA n 43264 with q|q
 ·exact bA J6 n (by omega) (by omega)
 clear h1;have h1:=q;clear q;rcases iA n 43520 with q|q
 ·exact bA J7 n (by omega) (by omega)
 clear h1;have h1:=q;clear q;rcases iA n 43776 with q|q
 ·exact bA J8 n (by omega) (by omega)
 clear h1;have h1:=q;clear q;rcases iA n 44032 with q|q
 ·exact bA J9 n (by omega) (by omega)
 clear h1;have h1:=q;clear q;rcases iA n 44288 with q|q
 ·exact bA Ja n (by omega) (by omega)
 clear h1;have h1:=q;clear q;rcases iA n 44544 with q|q
 ·exact bA Jb n (by omega) (by omega)
 clear h1;have h1:=q;clear q;rcases iA n 44800 with q|q
 ·exact bA Jc n (by omega) (by omega)
 clear h1;have h1:=q;clear q;rcases iA n 45056 with q|q
 ·exact bA Jd n (by omega) (by omega)
 clear h1;have h1:=q;clear q;rcases iA n 45312 with q|q
 ·exact bA Je n (by omega) (by omega)
 clear h1;have h1:=q;clear q;rcases iA n 45568 with q|q
 ·exact bA Jf n (by omega) (by omega)
 clear h1;have h1:=q;clear q;rcases iA n 45824 with q|q
 ·exact bA Jg n (by omega) (by omega)
 clear h1;have h1:=q;clear q;rcases iA n 46080 with q|q
 ·exact bA Jh n (by omega) (by omega)
 clear h1;have h1:=q;clear q;rcases iA n 46336 with q|q
 ·exact bA Ji n (by omega) (by omega)
 clear h1;have h1:=q;clear q;rcases iA n 46592 with q|q
 ·exact bA Jj n (by omega) (by omega)
 clear h1;have h1:=q;clear q;rcases iA n 46848 with q|q
 ·exact bA Jk n (by omega) (by omega)
 clear h1;have h1:=q;clear q;rcases iA n 47104 with q|q
 ·exact bA Jl n (by omega) (by omega)
 clear h1;have h1:=q;clear q;rcases iA n 47360 with q|q
 ·exact bA Jm n (by omega) (by omega)
 clear h1;have h1:=q;clear q;rcases iA n 47616 with q|q
 ·exact bA Jn n (by omega) (by omega)
 clear h1;have h1:=q;clear q;rcases iA n 47872 with q|q
 ·exact bA Jo n (by omega) (by omega)
 clear h1;have h1:=q;clear q;rcases iA n 48128 with q|q
 ·exact bA Jp n (by omega) (by omega)
 clear h1;have h1:=q;clear q;rcases iA n 48384 with q|q
 ·exact bA Jq n (by omega) (by omega)
 clear h1;have h1:=q;clear q;rcases iA n 48640 with q|q
 ·exact bA Jr n (by omega) (by omega)
 clear h1;have h1:=q;clear q;rcases iA n 48896 with q|q
 ·exact bA Js n (by omega) (by omega)
 clear h1;have h1:=q;clear q;exact bA Jt n (by omega) (by omega)
theorem Ju:pA 256 49152=true:=by kernel_rfl
theorem Jv:pA 256 49408=true:=by kernel_rfl
theorem Jw:pA 256 49664=true:=by kernel_rfl
theorem Jx:pA 256 49920=true:=by kernel_rfl
theorem Jy:pA 256 50176=true:=by kernel_rfl
theorem Jz:pA 256 50432=true:=by kernel_rfl
theorem K1:pA 256 50688=true:=by kernel_rfl
theorem K2:pA 256 50944=true:=by kernel_rfl
theorem K3:pA 256 51200=true:=by kernel_rfl
theorem K4:pA 256 51456=true:=by kernel_rfl
theorem K5:pA 256 51712=true:=by kernel_rfl
theorem K6:pA 256 51968=true:=by kernel_rfl
theorem K7:pA 256 52224=true:=by kernel_rfl
theorem K8:pA 256 52480=true:=by kernel_rfl
theorem K9:pA 256 52736=true:=by kernel_rfl
theorem Ka:pA 256 52992=true:=by kernel_rfl
theorem Kb:pA 256 53248=true:=by kernel_rfl
theorem Kc:pA 256 53504=true:=by kernel_rfl
theorem Kd:pA 256 53760=true:=by kernel_rfl
theorem Ke:pA 256 54016=true:=by kernel_rfl
theorem Kf:pA 256 54272=true:=by kernel_rfl
theorem Kg:pA 256 54528=true:=by kernel_rfl
theorem Kh:pA 256 54784=true:=by kernel_rfl
theorem Ki:pA 256 55040=true:=by kernel_rfl
theorem Kj:pA 256 55296=true:=by kernel_rfl
theorem Kk:pA 256 55552=true:=by kernel_rfl
theorem Km:pA 256 55808=true:=by kernel_rfl
theorem Kn:pA 256 56064=true:=by kernel_rfl
theorem Ko:pA 256 56320=true:=by kernel_rfl
theorem Kp:pA 256 56576=true:=by kernel_rfl
theorem Kq:pA 256 56832=true:=by kernel_rfl
theorem Ks:pA 256 57088=true:=by kernel_rfl
theorem Kt:pA 256 57344=true:=by kernel_rfl
theorem Ku:pA 256 57600=true:=by kernel_rfl
theorem Kv:pA 256 57856=true:=by kernel_rfl
theorem Kw:pA 256 58112=true:=by kernel_rfl
theorem Kx:pA 256 58368=true:=by kernel_rfl
theorem Ky:pA 256 58624=true:=by kernel_rfl
theorem Kz:pA 256 58880=true:=by kernel_rfl
theorem L0:pA 256 59136=true:=by kernel_rfl
theorem L3:pA 256 59392=true:=by kernel_rfl
theorem L4:pA 256 59648=true:=by kernel_rfl
theorem L5:pA 256 59904=true:=by kernel_rfl
theorem L6:pA 256 60160=true:=by kernel_rfl
theorem L7:pA 256 60416=true:=by kernel_rfl
theorem L8:pA 256 60672=true:=by kernel_rfl
theorem L9:pA 256 60928=true:=by kernel_rfl
theorem Lb:pA 256 61184=true:=by kernel_rfl
theorem Ld:pA 256 61440=true:=by kernel_rfl
theorem Le:pA 256 61696=true:=by kernel_rfl
theorem Lf:pA 256 61952=true:=by kernel_rfl
theorem Lg:pA 256 62208=true:=by kernel_rfl
theorem Lh:pA 256 62464=true:=by kernel_rfl
theorem Li:pA 256 62720=true:=by kernel_rfl
theorem Lj:pA 256 62976=true:=by kernel_rfl
theorem Lk:pA 256 63232=true:=by kernel_rfl
theorem Ll:pA 256 63488=true:=by kernel_rfl
theorem Lm:pA 256 63744=true:=by kernel_rfl
theorem Ln:pA 256 64000=true:=by kernel_rfl
theorem Lo:pA 256 64256=true:=by kernel_rfl
theorem Lq:pA 256 64512=true:=by kernel_rfl
theorem Lr:pA 256 64768=true:=by kernel_rfl
theorem Ls:pA 256 65024=true:=by kernel_rfl
theorem Lt:pA 256 65280=true:=by kernel_rfl
theorem p9 (n:Nat)(h1:49152≤n)(h2:n<65536):Bv n=true:=by
 rcases iA n 49408 with q|q
 ·exact bA Ju n (by omega) (by omega)
 clear h1;have h1:=q;clear q;rcases iA n 49664 with q|q
 ·exact bA Jv n (by omega) (by omega)
 clear h1;have h1:=q;clear q;rcases iA n 49920 with q|q
 ·exact bA Jw n (by omega) (by omega)
 clear h1;have h1:=q;clear q;rcases iA n 50176 with q|q
 ·exact bA Jx n (by omega) (by omega)
 clear h1;have h1:=q;clear q;rcases iA n 50432 with q|q
 ·exact bA Jy n (by omega) (by omega)
 clear h1;have h1:=q;clear q;rcases iA n 50688 with q|q
 ·exact bA Jz n (by omega) (by omega)
 clear h1;have h1:=q;clear q;rcases iA n 50944 with q|q
 ·exact bA K1 n (by omega) (by omega)
 clear h1;have h1:=q;clear q;rcases iA n 51200 with q|q
 ·exact bA K2 n (by omega) (by omega)
 clear h1;have h1:=q;clear q;rcases iA n 51456 with q|q
 ·exact bA K3 n (by omega) (by omega)
 clear h1;have h1:=q;clear q;rcases iA n 51712 with q|q
 ·exact bA K4 n (by omega) (by omega)
 clear h1;have h1:=q;clear q;rcases iA n 51968 with q|q
 ·exact bA K5 n (by omega) (by omega)
 clear h1;have h1:=q;clear q;rcases iA n 52224 with q|q
 ·exact bA K6 n (by omega) (by omega)
 clear h1;have h1:=q;clear q;rcases iA n 52480 with q|q
 ·exact bA K7 n (by omega) (by omega)
 clear h1;have h1:=q;clear q;rcases iA n 52736 with q|q
 ·exact bA K8 n (by omega) (by omega)
 clear h1;have h1:=q;clear q;rcases iA n 52992 with q|q
 ·exact bA K9 n (by omega) (by omega)
 clear h1;have h1:=q;clear q;rcases iA n 53248 with q|q
 ·exact bA Ka n (by omega) (by omega)
 clear h1;have h1:=q;clear q;rcases iA n 53504 with q|q
 ·exact bA Kb n (by omega) (by omega)
 clear h1;have h1:=q;clear q;rcases iA n 53760 with q|q
 ·exact bA Kc n (by omega) (by omega)
 clear h1;have h1:=q;clear q;rcases iA n 54016 with q|q
 ·exact bA Kd n (by omega) (by omega)
 clear h1;have h1:=q;clear q;rcases iA n 54272 with q|q
 ·exact bA Ke n (by omega) (by omega)
 clear h1;have h1:=q;clear q;rcases iA n 54528 with q|q
 ·exact bA Kf n (by omega) (by omega)
 clear h1;have h1:=q;clear q;rcases iA n 54784 with q|q
 ·exact bA Kg n (by omega) (by omega)
 clear h1;have h1:=q;clear q;rcases iA n 55040 with q|q
 ·exact bA Kh n (by omega) (by omega)
 clear h1;have h1:=q;clear q;rcases iA n 55296 with q|q
 ·exact bA Ki n (by omega) (by omega)
 clear h1;have h1:=q;clear q;rcases iA n 55552 with q|q
 ·exact bA Kj n (by omega) (by omega)
 clear h1;have h1:=q;clear q;rcases iA n 55808 with q|q
 ·exact bA Kk n (by omega) (by omega)
 clear h1;have h1:=q;clear q;rcases iA n 56064 with q|q
 ·exact bA Km n (by omega) (by omega)
 clear h1;have h1:=q;clear q;rcases iA n 56320 with q|q
 ·exact bA Kn n (by omega) (by omega)
 clear h1;have h1:=q;clear q;rcases iA n 56576 with q|q
 ·exact bA Ko n (by omega) (by omega)
 clear h1;have h1:=q;clear q;rcases iA n 56832 with q|q
 ·exact bA Kp n (by omega) (by omega)
 clear h1;have h1:=q;clear q;rcases iA n 57088 with q|q
 ·exact bA Kq n (by omega) (by omega)
 clear h1;have h1:=q;clear q;rcases iA n 57344 with q|q
 ·exact bA Ks n (by omega) (by omega)
 clear h1;have h1:=q;clear q;rcases iA n 57600 with q|q
 ·exact bA Kt n (by omega) (by omega)
 clear h1;have h1:=q;clear q;rcases iA n 57856 with q|q
 ·exact bA Ku n (by omega) (by omega)
 clear h1;have h1:=q;clear q;rcases iA n 58112 with q|q
 ·exact bA Kv n (by omega) (by omega)
 clear h1;have h1:=q;clear q;rcases iA n 58368 with q|q
 ·exact bA Kw n (by omega) (by omega)
 clear h1;have h1:=q;clear q;rcases iA n 58624 with q|q
 ·exact bA Kx n (by omega) (by omega)
 clear h1;have h1:=q;clear q;rcases iA n 58880 with q|q
 ·exact bA Ky n (by omega) (by omega)
 clear h1;have h1:=q;clear q;rcases iA n 59136 with q|q
 ·exact bA Kz n (by omega) (by omega)
 clear h1;have h1:=q;clear q;rcases iA n 59392 with q|q
 ·exact bA L0 n (by omega) (by omega)
 clear h1;have h1:=q;clear q;rcases iA n 59648 with q|q
 ·exact bA L3 n (by omega) (by omega)
 clear h1;have h1:=q;clear q;rcases iA n 59904 with q|q
 ·exact bA L4 n (by omega) (by omega)
 clear h1;have h1:=q;clear q;rcases iA n 60160 with q|q
 ·exact bA L5 n (by omega) (by omega)
 clear h1;have h1:=q;clear q;rcases iA n 60416 with q|q
 ·exact bA L6 n (by omega) (by omega)
 clear h1;have h1:=q;clear q;rcases iA n 60672 with q|q
 ·exact bA L7 n (by omega) (by omega)
 clear h1;have h1:=q;clear q;rcases iA n 60928 with q|q
 ·exact bA L8 n (by omega) (by omega)
 clear h1;have h1:=q;clear q;rcases iA n 61184 with q|q
 ·exact bA L9 n (by omega) (by omega)
 clear h1;have h1:=q;clear q;rcases iA n 61440 with q|q
 ·exact bA Lb n (by omega) (by omega)
 clear h1;have h1:=q;clear q;rcases iA n 61696 with q|q
 ·exact bA Ld n (by omega) (by omega)
 clear h1;have h1:=q;clear q;rcases iA n 61952 with q|q
 ·exact bA Le n (by omega) (by omega)
 clear h1;have h1:=q;clear q;rcases iA n 62208 with q|q
 ·exact bA Lf n (by omega) (by omega)
 clear h1;have h1:=q;clear q;rcases iA n 62464 with q|q
 ·exact bA Lg n (by omega) (by omega)
 clear h1;have h1:=q;clear q;rcases iA n 62720 with q|q
 ·exact bA Lh n (by omega) (by omega)
 clear h1;have h1:=q;clear q;rcases iA n 62976 with q|q
 ·exact bA Li n (by omega) (by omega)
 clear h1;have h1:=q;clear q;rcases iA n 63232 with q|q
 ·exact bA Lj n (by omega) (by omega)
 clear h1;have h1:=q;clear q;rcases iA n 63488 with q|q
 ·exact bA Lk n (by omega) (by omega)
 clear h1;have h1:=q;clear q;rcases iA n 63744 with q|q
 ·exact bA Ll n (by omega) (by omega)
 clear h1;have h1:=q;clear q;rcases iA n 64000 with q|q
 ·exact bA Lm n (by omega) (by omega)
 clear h1;have h1:=q;clear q;rcases iA n 64256 with q|q
 ·exact bA Ln n (by omega) (by omega)
 clear h1;have h1:=q;clear q;rcases iA n 64512 with q|q
 ·exact bA Lo n (by omega) (by omega)
 clear h1;have h1:=q;clear q;rcases iA n 64768 with q|q
 ·exact bA Lq n (by omega) (by omega)
 clear h1;have h1:=q;clear q;rcases iA n 65024 with q|q
 ·exact bA Lr n (by omega) (by omega)
 clear h1;have h1:=q;clear q;rcases iA n 65280 with q|q
 ·exact bA Ls n (by omega) (by omega)
 clear h1;have h1:=q;clear q;exact bA Lt n (by omega) (by omega)
theorem Lu:pA 1 65536=true:=by kernel_rfl
theorem q9 (n:Nat)(h1:65536≤n)(h2:n<65537):Bv n=true:=by
 exact bA Lu n (by omega) (by omega)
open Go Go.Proofs.YteaakcmkpacpaaaGreat.Ev
open Go.Proofs.YteaakcmkpacpaaaGreat.Pure (fJ lT cQ jE qH vE vO)
open Go.Proofs.YteaakcmkpacpaaaGreat.Cls (oG jF Rd Cl)
open Go.Proofs.YteaakcmkpacpaaaGreat.Grp (K Kl mul inv AG Pz Mt xa kI wQ bk lX Ca wg)
theorem N5 {n:Nat}(h1:1≤n)(h2:n≤65536):Bv n=true:=by
 rcases iA n 16384 with q|q
 ·exact Ab n h1 q
 ·rcases iA n 32768 with r|r
  ·exact n9 n q r
  ·rcases iA n 49152 with s|s
   ·exact o9 n r s
   ·rcases iA n 65536 with t|t
    ·exact p9 n s t
    ·exact q9 n t (by omega)
def row (x:R3):List Int:=[x.1,x.2.1,x.2.2]
theorem yj {x y:R3}(h:row x=row y):x=y:=by
 unfold row at h;simp only[List.cons.injEq,and_true]at h;exact Prod.ext h.1 (Prod.ext h.2.1 h.2.2)
section
variable {N:Nat}{d:Int}{X:List Int}
theorem Au (hd:oG d)(z:K d):Fm d z.1.1 z.1.2.1 z.1.2.2:=mc hd z.2
noncomputable def sg (N:Nat)(z:K d)(q:Int):Int:=sv N z.1.1 z.1.2.1 z.1.2.2 q
theorem jy (hN:8589934600<N)(hd:oG d)(hX:∀q∈X,fh d q)(x y:K d):∀q∈X,sg N (mul hd x y) q=sg N x q*sg N y q:=fun q hq=>by
 obtain⟨a,b,c,ec,hr⟩:=vE hN (Au hd x).val (Au hd y).val;have:=bk hN hd x y;rw[ec]at this;simp only[Option.some.injEq,Prod.mk.injEq,and_true]at this;obtain⟨e1,e2,e3⟩:=this;have h3:=Au hd (mul hd x y);unfold sg;rw[←e1,←e2,←e3]at h3⊢;exact kh hN (Au hd x) (Au hd y) h3 hr (hX q hq)
theorem Qz (hN:8589934600<N)(hd:oG d)(hX:∀q∈X,fh d q)(x:K d):∀q∈X,sg N x q=1∨sg N x q= -1:=fun q hq=>(fT hN (Au hd x) (hX q hq).sy).2.2
theorem Sd (hN:8589934600<N)(hd:oG d)(hX:∀q∈X,fh d q):∀q∈X,sg N (Grp.one hd) q=1:=fun q hq=>by
 have h1:=jy hN hd hX (Grp.one hd) (Grp.one hd) q hq;have h2:mul hd (Grp.one hd) (Grp.one hd)=Grp.one hd:=(Grp.rG hd).one_mul (Grp.one hd);rw[h2]at h1;rcases Qz hN hd hX (Grp.one hd) q hq with e|e
 ·exact e
 ·rw[e]at h1;exact absurd h1 (by decide)
noncomputable def kf (N:Nat)(X:List Int)(z:K d):List Int:=lB (X.map (sg N z))
noncomputable def sf (hd:oG d)(z:K d):List Int:=row (mul hd z z).1
theorem Do (h8:X.length≤8)(x y:K d):kf N X x=kf N X y↔∀q∈X,sg N x q=sg N y q:=by
 unfold kf;constructor
 ·intro h;have:=yg (by rw[hB];exact h8) (by rw[hB,hB]) h;exact List.map_inj_left.mp this
 ·intro h;rw[List.map_congr_left h]
theorem Rs (hN:8589934600<N)(hd:oG d)(hX:∀q∈X,fh d q)(h8:X.length≤8):Mt (Grp.rG hd) (kf N X):=fun x y z h=>by
 rw[Do h8]at h⊢;intro q hq;show sg N (mul hd z x) q=sg N (mul hd z y) q;rw[jy hN hd hX z x q hq,jy hN hd hX z y q hq,h q hq]
theorem Ly (hd:oG d)(x y:K d):sf hd x=sf hd y↔mul hd x x=mul hd y y:=by
 unfold sf;exact⟨fun h=>Subtype.ext (yj h),fun h=>by rw[h]⟩
theorem Sa (hd:oG d):Mt (Grp.rG hd) (sf hd):=fun x y z h=>by
 rw[Ly]at h⊢;have:=(Grp.rG hd).four z x z x;have h2:=(Grp.rG hd).four z y z y;show mul hd (mul hd z x) (mul hd z x)=mul hd (mul hd z y) (mul hd z y);have e1:mul hd (mul hd z x) (mul hd z x)=mul hd (mul hd z z) (mul hd x x):=this;have e2:mul hd (mul hd z y) (mul hd z y)=mul hd (mul hd z z) (mul hd y y):=h2;rw[e1,e2,h]
theorem Qn (hN:8589934600<N)(hd:oG d)(hX:∀q∈X,fh d q)(h8:X.length≤8)(z:K d):kf N X (mul hd z z)=kf N X (Grp.one hd):=by
 rw[Do h8];intro q hq;rw[jy hN hd hX z z q hq,Sd hN hd hX q hq];rcases Qz hN hd hX z q hq with e|e<;>rw[e]<;>rfl
theorem np (hN:8589934600<N)(hd:oG d)(hX:qq d X){L:List R3}(hL:Cl d L){KL:List (K d)}(hK:KL.map (·.1)=L)(hF:Pz KL){key sq:R3→List Int}(hkey:∀z:K d,key z.1=kf N X z)(hsq:∀z:K d,sq z.1=sf hd z):
  ∃c,(xB key L).length=2^(X.length-1)∧(xB key L).length*c=L.length∧(∀k∈xB key L,(qM key L k).length=c)∧(xB sq L).length=c:=by
 have hadm:=fun q (hq:q∈X)=>hX.adm hd hq;have h8:=hX.len hd.1;have hh:=Rs hN hd hadm h8;have hs:=Sa hd;have mem:∀(k:R3→List Int) (f:K d→List Int),(∀z:K d,k z.1=f z)→∀v,v∈xB k L↔∃z,f z=v:=fun k f h v=>by
  rw[gM];constructor
  ·rintro⟨x,hx,rfl⟩;rw[←hK]at hx;obtain⟨z,_,rfl⟩:=hE.mp hx;exact⟨z,(h z).symm⟩
  ·rintro⟨z,rfl⟩;exact⟨z.1,by rw[←hK];exact hE.mpr ⟨z,hF.all z,rfl⟩,h z⟩
 have c1:=hh.count hF (gK key L) (mem key _ hkey);have c2:=hs.count hF (gK sq L) (mem sq _ hsq);have hlen:KL.length=L.length:=by rw[←hK,hB]
 rw[hlen]at c1 c2;have hsel:∀k∈xB key L,(qM key L k).length=KL.countP (fun x=>decide (kf N X x=kf N X (Grp.rG hd).one)):=fun k hk=>by obtain⟨z,rfl⟩:=(mem key _ hkey k).mp hk;rw[←hh.fibre hF z];unfold qM;rw[←zE,←hK,List.countP_map];refine List.countP_congr fun x _=>?_;simp only[Function.comp,hkey]
 have hamb:KL.countP (fun x=>decide (sf hd x=sf hd (Grp.rG hd).one))=L.countP Rf:=by rw[←hK,List.countP_map];refine List.countP_congr fun x _=>?_;simp only[Function.comp,Rf,decide_eq_true_eq];rw[Ly,←wg hd x];have:mul hd (Grp.rG hd).one (Grp.rG hd).one=Grp.one hd:=(Grp.rG hd).one_mul (Grp.one hd);rw[this]
 have hle:=Rh hd hX hL;have hm:0<X.length:=hQ.mpr (hX.ne hd);have ht:L.countP Rf≤2^(X.length-1):=by
  obtain⟨j,hj⟩:∃j,X.length=j+1:=⟨X.length-1,by omega⟩
  rw[hj,Nat.pow_succ]at hle;rw[hj,Nat.add_sub_cancel];omega
 have hsc:(xB sq L).length≤KL.countP (fun x=>decide (kf N X x=kf N X (Grp.rG hd).one)):=by
  have:=ue (l:=xB sq L) (m:=(KL.filter (fun x=>decide (kf N X x=kf N X (Grp.rG hd).one))).map fun z=>row z.1) (gK sq L) fun v hv=>by obtain⟨z,rfl⟩:=(mem sq _ hsq v).mp hv;refine hE.mpr ⟨mul hd z z,List.mem_filter.mpr ⟨hF.all _,?_⟩,rfl⟩;exact decide_eq_true (Qn hN hd hadm h8 z)
  rw[hB,←zE]at this;exact this
 have hen:=Ro hN hd hX hL (s:=fun x=>X.map (sv N x.1 x.2.1 x.2.2)) (fun x _=>rfl) (N5 (n:=(-d).toNat) (by have:=hd.2.1;omega) (by have:=hd.1;omega));have hkk:xB (fun x=>lB (X.map (sv N x.1 x.2.1 x.2.2))) L=xB key L:=by
  unfold xB;have:∀(P:List R3) (acc:List (List Int)),(∀x∈P,x∈L)→P.foldl (fun ks x=>oB (lB (X.map (sv N x.1 x.2.1 x.2.2))) ks) acc=P.foldl (fun ks x=>oB (key x) ks) acc:=by
   intro P;induction P with
   |nil=>intro acc _;rfl
   |cons x P ih=>intro acc h;rw[aE,aE];have hx:=h x (by simp);rw[←hK]at hx;obtain⟨z,_,rfl⟩:=hE.mp hx;rw[hkey z];exact ih _ fun y hy=>h y (List.mem_cons_of_mem _ hy)
  exact this L [] fun _ h=>h
 rw[hkk]at hen;rw[hamb]at c2;have hLp:0<L.length:=by rw[←hlen];exact hF.pos (Grp.rG hd)
 obtain⟨g1,g2⟩:=xa c1 c2 hsc ht hen hLp;exact⟨_,g1,c1,hsel,g2⟩
end
open Go.Proofs.YteaakcmkpacpaaaGreat.Pure (gA)
open Go.Proofs.YteaakcmkpacpaaaGreat.Cls (oG jF Rd Cl bJ zD zL fi vp)
open Go.Proofs.YteaakcmkpacpaaaGreat.Grp (K Kl mul inv Pz Ca mX lX pw F1 uk)
theorem wW:∀(l:List Int) (ks:List (List Int)) (n j:Nat),sD l ks n=some j→n≤j∧j-n<ks.length∧ks.getD (j-n) []=l
 |l,[],n,j,h=>by cases h
 |l,k::ks,n,j,h=>by
  simp only[sD]at h;cases hb:rQ l k<;>rw[hb]at h<;>simp only[cond_true,cond_false]at h
  ·obtain⟨h1,h2,h3⟩:=wW l ks (n+1) j h;have e:j-n=(j- (n+1))+1:=by omega
   exact⟨by omega,by simp;omega,by rw[e];simpa using h3⟩
  ·simp only[Option.some.injEq]at h;subst h;have:=(Cls.zM l k).mp hb;subst this;exact⟨Nat.le_refl _,by simp,by simp⟩
theorem Dz:∀(l m:List Int) (ks:List (List Int)) (n:Nat),sD l (ks++[m]) n=match sD l ks n with
  |some j=>some j
  |none=>if l=m then some (n+ks.length)else none
 |l,m,[],n=>by
  simp only[List.nil_append,sD];by_cases h:l=m
  ·subst h;rw[(Cls.zM l l).mpr rfl];simp
  ·have:rQ l m=false:=by
    cases hb:rQ l m
    ·rfl
    ·exact absurd ((Cls.zM l m).mp hb) h
   rw[this];simp[h]
 |l,m,k::ks,n=>by
  simp only[List.cons_append,sD];cases hb:rQ l k<;>simp only[cond_true,cond_false];rw[Dz l m ks (n+1)];have e:n+1+ks.length=n+(k::ks).length:=by simp;omega
  rw[e]
theorem Rw (l:List Int)(x:Int)(ks:List (List Int))(vs:List Int)(h:ks.length=vs.length):(oB l ks).length=(iH l x ks vs).length:=by
 unfold oB iH hJ;cases sD l ks 0<;>simp[h]
theorem Dv (l l':List Int)(x:Int)(ks:List (List Int))(vs:List Int)(h:ks.length=vs.length):mD l' (oB l ks) (iH l x ks vs)=if l'=l then x else mD l' ks vs:=by
 unfold oB iH hJ mD;cases hp:sD l ks 0 with
 |some j=>
  obtain⟨_,h1,h2⟩:=wW l ks 0 j hp;simp only[Option.isSome_some,cond_true,hR]at h1 h2⊢;by_cases e:l'=l
  ·subst e;rw[if_pos rfl,hp];simp only[iB];rw[List.getElem?_set_self (by omega)];rfl
  ·rw[if_neg e];cases hq:sD l' ks 0 with
   |none=>rfl
   |some j'=>
    obtain⟨_,h3,h4⟩:=wW l' ks 0 j' hq;simp only[hR]at h3 h4;have hne:j≠j':=by rintro rfl;rw[h2]at h4;exact e h4.symm
    simp only[iB];rw[List.getElem?_set_ne hne]
 |none=>
  simp only[Option.isSome_none,cond_false];rw[Dz];cases hq:sD l' ks 0 with
  |some j'=>
   obtain⟨_,h3,h4⟩:=wW l' ks 0 j' hq;simp only[hR]at h3 h4;have e:l'≠l:=by rintro rfl;rw[hp]at hq;cases hq
   simp only[if_neg e,iB];rw[List.getElem?_append_left (by omega)]
  |none=>
   simp only[Nat.zero_add];by_cases e:l'=l
   ·subst e;simp only[if_true,iB];rw[List.getElem?_append_right (by omega)];simp[h]
   ·simp[e]
structure At (ks:List (List Int))(vs:List Int)(φ:R3→Int):Prop where
 len:ks.length=vs.length
 val:∀x,mD (row x) ks vs=φ x
theorem At.put {ks:List (List Int)}{vs:List Int}{φ:R3→Int}(h:At ks vs φ)(x:R3)(v:Int):At (oB (row x) ks) (iH (row x) v ks vs) (fun y=>if y=x then v else φ y) where
 len:=Rw _ _ _ _ h.len
 val y:=by
  rw[Dv _ _ _ _ _ h.len,h.val];by_cases e:y=x
  ·rw[if_pos (by rw[e]),if_pos e]
  ·rw[if_neg fun q=>e (yj q),if_neg e]
theorem xr (N:Nat){R:List R3}(hn:R.Nodup)(hl:R.length≤45000){i:Nat}(hi:i≤45000){φ:R3→Int}(h0:∀x∈R,φ x=0){T:Type}(kr:Bool→Option T)(G:List (List Int))(p:List Int)(g1 g2:Int)(L:List Int)(k2:List (List Int)→List Int→Int→Int→List Int→List (List Int)→List Int→Option T)(r:T)(hk:∀ks vs,At ks vs (fun y=>if y∈R then(i:Int)+1 else φ y)→k2 G p g1 g2 L ks vs=some r):∀(n j:Nat) (ks:List (List Int)) (vs:List Int),j≤R.length→R.length-j<n→At ks vs (fun y=>if y∈R.take j then(i:Int)+1 else φ y)→
  Q83.l18 N n G p (i:Int) g1 g2 (rB R) (R.length:Int) (j:Int) L ks vs k2 kr=some r
 |0,j,_,_,_,h,_=>by omega
 |n+1,j,ks,vs,hj,hf,hA=>by
  rw[Q83.l18,zD];by_cases h:j<R.length
  ·have c1:decide ((j:Int)<(R.length:Int))=true:=decide_eq_true (by omega);have c2:decide (0≤(j:Int))=true:=decide_eq_true (by omega);obtain⟨e1,e2,e3⟩:=bJ h;have w:aA ((j:Int)+1)=((j+1:Nat):Int):=oL (by omega);have wi:aA ((i:Int)+1)=(i:Int)+1:=gA (by omega) (by omega);have et:R.take (j+1)=R.take j++[R[j]]:=hD h;have hnot:R[j]∉R.take j:=fun q=>by
    have hn2:=hn;rw[←List.take_append_drop j R,List.nodup_append]at hn2;have hd2:R[j]∈R.drop j:=by rw[List.drop_eq_getElem_cons h];exact List.mem_cons_self
    exact hn2.2.2 _ q _ hd2 rfl
   have hv:=hA.val R[j];rw[if_neg hnot,h0 _ (xK h)]at hv;have hrow:row R[j]=[R[j].1,R[j].2.1,R[j].2.2]:=rfl;simp only[c1,c2,cond_true,hP,pC,e1,e2,e3,←hrow,hv,bne_self_eq_false,cond_false,w,wi];have hp:=hA.put R[j] ((i:Int)+1);refine xr N hn hl hi h0 kr G p g1 g2 L k2 r hk n (j+1) _ _ (by omega) (by omega) ⟨hp.len,fun y=>?_⟩;rw[hp.val y,et];by_cases e:y=R[j]
   ·rw[if_pos e,if_pos (yK.mpr (.inr (hG.mpr e)))]
   ·rw[if_neg e];by_cases q:y∈R.take j
    ·rw[if_pos q,if_pos (yK.mpr (.inl q))]
    ·rw[if_neg q,if_neg (fun r=>(yK.mp r).elim q (fun r=>e (hG.mp r)))]
  ·have c1:decide ((j:Int)<(R.length:Int))=false:=decide_eq_false (by omega);rw[c1,cond_false];rw[cP (by omega)]at hA;exact hk ks vs hA
section
variable {key:R3→List Int}{L:List R3}{c:Nat}
theorem Dc {i:Nat}(h:i<(xB key L).length):(rG key L).getD i []=rB (qM key L (xB key L)[i]):=by
 rw[iB];unfold rG;rw[List.getElem?_map,hI h];rfl
theorem aX {k:List Int}{x:R3}:x∈qM key L k↔x∈L∧key x=k:=by unfold qM;rw[List.mem_filter];simp
structure Mk (key:R3→List Int)(L:List R3)(i:Nat)(φ:R3→Int):Prop where
 told:∀t (h:t<(xB key L).length),t<i→∀x∈qM key L (xB key L)[t],φ x=(t:Int)+1
 rest:∀x,(∀t (h:t<(xB key L).length),t<i→x∉qM key L (xB key L)[t])→φ x=0
theorem cq (N:Nat)(hn:L.Nodup)(hl:L.length≤45000)(hc:(xB key L).length*c=L.length)(hs:∀k∈xB key L,(qM key L k).length=c){T:Type}(kr:Bool→Option T)(p:List Int)(k0:List (List Int)→List Int→List Int→List (List Int)→List Int→Option T)(r:T)(hN:100000<N)
  (hk:∀ks vs φ,At ks vs φ→Mk key L (xB key L).length φ→k0 (rG key L) p (rB L) ks vs=some r):∀(n i:Nat) (ks:List (List Int)) (vs:List Int) (φ:R3→Int),i≤(xB key L).length→(xB key L).length-i<n→At ks vs φ→Mk key L i φ→
  Q83.l13 N n (rG key L) p ((rG key L).length:Int) (i:Int) (rB L) ks vs k0 kr=some r
 |0,i,_,_,_,_,h,_,_=>by omega
 |n+1,i,ks,vs,φ,hi,hf,hA,hM=>by
  have hgl:=bS key L;have hkl:=oO key L;rw[Q83.l13];by_cases h:i<(xB key L).length
  ·have c1:decide ((i:Int)<((rG key L).length:Int))=true:=decide_eq_true (by omega);have c2:decide (0≤(i:Int))=true:=decide_eq_true (by omega);have hsl:=hs _ (xK h);have w:aA ((i:Int)+1)=((i+1:Nat):Int):=oL (by omega);have wm:aA ((c:Int)*((rG key L).length:Int))=(L.length:Int):=by
    have e:(c:Int)*((rG key L).length:Int)=(L.length:Int):=by rw[hgl,←Int.natCast_mul,Nat.mul_comm,hc]
    rw[e,gA (by omega) (by omega)]
   have hcl:c≤45000:=by have:c≤(xB key L).length*c:=Nat.le_mul_of_pos_left _ (by omega);omega
   simp only[c1,c2,cond_true,hP,pC,Dc h,zD,hsl,wm,bne_self_eq_false,cond_false];have hdis:∀x∈qM key L (xB key L)[i],∀t (ht:t<(xB key L).length),t<i→x∉qM key L (xB key L)[t]:=fun x hx t ht hti hx2=>by have e1:=(aX.mp hx).2;have e2:=(aX.mp hx2).2;have:=pc (gK key L) ht h (by rw[←e2,e1]);omega
   have:=xr N (R:=qM key L (xB key L)[i]) (hn.filter _) (by rw[hsl];exact hcl) (i:=i) (by omega) (φ:=φ) (fun x hx=>hM.rest x (hdis x hx)) kr (rG key L) p ((rG key L).length:Int) (i:Int) (rB L)
    (fun y35 y36 y37 y38 y39 y40 y41=>Q83.l13 N n y35 y36 y37 (aA (y38+1)) y39 y40 y41 k0 kr) r (fun ks' vs' hA'=>by
     simp only[w];refine cq N hn hl hc hs kr p k0 r hN hk n (i+1) ks' vs' _ (by omega) (by omega) hA' ⟨fun t ht hti x hx=>?_,fun x hx=>?_⟩
     ·rcases iA t i with q|q
      ·have:x∉qM key L (xB key L)[i]:=fun hx2=>hdis x hx2 t ht q hx;rw[if_neg this];exact hM.told t ht q x hx
      ·have:t=i:=by omega
       subst this;rw[if_pos hx]
     ·have h1:=hx i h (by omega);rw[if_neg h1];exact hM.rest x fun t ht hti=>hx t ht (by omega)) N 0 ks vs (by omega) (by omega) ⟨hA.len,fun y=>by rw[hA.val];simp⟩
   rw[hsl]at this;exact this
  ·have c1:decide ((i:Int)<((rG key L).length:Int))=false:=decide_eq_false (by omega);rw[c1,cond_false];have:i=(xB key L).length:=by omega
   subst this;exact hk ks vs φ hA hM
end
theorem Aw (key:R3→List Int)(x:R3)(P:List R3):∃r,xB key (x::P)=key x::r:=by
 have go:∀(P:List R3) (a:List Int) (r:List (List Int)),∃r',P.foldl (fun ks x=>oB (key x) ks) (a::r)=a::r':=by
  intro P;induction P with
  |nil=>intro a r;exact⟨r,rfl⟩
  |cons y P ih=>
   intro a r;rw[aE];by_cases h:key y∈a::r
   ·rw[tJ h];exact ih a r
   ·rw[jI h];exact ih a (r++[key y])
 unfold xB;rw[aE];have:oB (key x) []=[key x]:=jI (by simp);rw[this];exact go P (key x) []
theorem S3 {d:Int}(hd:oG d)(z:K d):pw (Grp.rG hd) z 2=mul hd z z:=by
 have:=uk (A:=Grp.rG hd) z 1 1;rw[F1]at this;exact this
theorem o7 {N:Nat}(hN:8589934600<N){d:Int}(hd:oG d){KL:List (K d)}(hl:KL.length≤45000){sq:R3→List Int}(hsq:∀z:K d,sq z.1=sf hd z){ks:List (List Int)}{vs:List Int}{φ:R3→Int}(hA:At ks vs φ)(h1:∀z:K d,φ z.1≠0)(h2:∀z:K d,φ (mul hd z z).1=1){T:Type}(kr:Bool→Option T)(G:List (List Int))(p:List Int)(k4:List (List Int)→List Int→List (List Int)→List Bool→Option T)(r:T)(hk:∀bs,k4 G p (xB sq (KL.map (·.1))) bs=some r):∀(n i:Nat) (bs:List Bool),i≤KL.length→KL.length-i<n→
  Q83.l27 N n G p (KL.length:Int) (i:Int) ks vs (xB sq ((KL.map (·.1)).take i)) bs (rB (KL.map (·.1))) k4 kr=some r
 |0,i,_,_,h=>by omega
 |n+1,i,bs,hi,hf=>by
  rw[Q83.l27,zD,hB];by_cases h:i<KL.length
  ·have c1:decide ((i:Int)<(KL.length:Int))=true:=decide_eq_true (by omega);have c2:decide (0≤(i:Int))=true:=decide_eq_true (by omega);have hm:i<(KL.map (·.1)).length:=by rw[hB];exact h
   obtain⟨e1,e2,e3⟩:=bJ hm;have el:(KL.map (·.1))[i]=KL[i].1:=List.getElem_map ..;rw[el]at e1 e2 e3;have w:aA ((i:Int)+1)=((i+1:Nat):Int):=oL (by omega);have et:(KL.map (·.1)).take (i+1)=(KL.map (·.1)).take i++[KL[i].1]:=by rw[hD hm,el]
   have hpw:=mX hN hd KL[i] (n:=2) (by decide) (by decide);rw[show(2:Int).toNat=2 from rfl,S3]at hpw;have v1:(mD [KL[i].1.1,KL[i].1.2.1,KL[i].1.2.2] ks vs==0)=false:=by have:mD [KL[i].1.1,KL[i].1.2.1,KL[i].1.2.2] ks vs=φ KL[i].1:=hA.val KL[i].1;rw[this];exact beq_eq_false_iff_ne.mpr (h1 _)
   have v2:mD [(mul hd KL[i] KL[i]).1.1,(mul hd KL[i] KL[i]).1.2.1,(mul hd KL[i] KL[i]).1.2.2] ks vs=1:=by have:mD [(mul hd KL[i] KL[i]).1.1,(mul hd KL[i] KL[i]).1.2.1,(mul hd KL[i] KL[i]).1.2.2] ks vs=φ (mul hd KL[i] KL[i]).1:=hA.val _;rw[this];exact h2 _
   have v3:oB [(mul hd KL[i] KL[i]).1.1,(mul hd KL[i] KL[i]).1.2.1,(mul hd KL[i] KL[i]).1.2.2] (xB sq ((KL.map (·.1)).take i))=xB sq ((KL.map (·.1)).take (i+1)):=by rw[et,iM,hsq];rfl
   simp only[c1,c2,cond_true,hP,pC,e1,e2,e3,v1,cond_false,hpw,hC,bne_self_eq_false,v2,v3,w];exact o7 hN hd hl hsq hA h1 h2 kr G p k4 r hk n (i+1) _ (by omega) (by omega)
  ·have c1:decide ((i:Int)<(KL.length:Int))=false:=decide_eq_false (by omega);rw[c1,cond_false,cP (by rw[hB];omega)];exact hk bs
open Classical in
theorem GenusSquares (a1:Int)(w1:(Lit.int .i64 a1).wf=true):∃N,Q83.f N a1=some true:=by
 refine⟨N0,?_⟩;have hN:8589934600<N0:=by decide
 obtain⟨l0,l1⟩:=vp w1;rcases zL N0 a1 l0 l1 with⟨hd,k1,k2⟩|⟨hd,k1,k2⟩
 ·obtain⟨X,L,s,hX,h8,e1,e2,hL,hs,e3,e4⟩:=nk hN hd;have hadm:=fun q (hq:q∈X)=>hX.adm hd hq;obtain⟨KL,hK,hF⟩:=Ca hL;have hzL:∀z:K a1,z.1∈L:=fun z=>by rw[←hK];exact hE.mpr ⟨z,hF.all z,rfl⟩
  have hkey:∀z:K a1,(fun x=>lB (s x)) z.1=kf N0 X z:=fun z=>by show lB (s z.1)=_;rw[hs z.1 (hzL z)];rfl
  let sq:R3→List Int:=fun x=>if h:Kl a1 x then sf hd ⟨x,h⟩else []
  have hsq:∀z:K a1,sq z.1=sf hd z:=fun z=>dif_pos z.2;obtain⟨c,g1,g2,g3,g4⟩:=np (key:=fun x=>lB (s x)) (sq:=sq) hN hd hX hL hK hF hkey hsq;have hGR:=Dd (fun x=>lB (s x)) hL.len;generalize hkk:(fun x=>lB (s x))=key at*;have hm:0<X.length:=hQ.mpr (hX.ne hd);have hgl:=bS key L;have hpos:0<(xB key L).length:=by rw[g1];exact Nat.pow_pos (by decide)
  obtain⟨b,cc,eo,hr⟩:=Pure.vO N0 (d:=a1) (by have:=hd.2.1;omega) (by have:=hd.1;omega) hd.2.2;have hone:=lX N0 hd;rw[eo]at hone;simp only[Option.some.injEq,Prod.mk.injEq,and_true]at hone;obtain⟨o1,o2,o3⟩:=hone;have hfirst:(xB key L)[0]?=some (kf N0 X (Grp.one hd)):=by
   cases hLc:L with
   |nil=>exact absurd hLc (Qh hd hL)
   |cons x P=>
    obtain⟨r,hr2⟩:=Aw key x P;rw[hr2];have hx:x∈L:=by rw[hLc];simp
    have hone:(Grp.one hd).1∈L:=hzL _;have h1:=((hL.mem x).mp hx).1;have h2:=((hL.mem _).mp hone).1;have hle:x=(Grp.one hd).1∨Cls.Qp x (Grp.one hd).1:=by
     have hup:=hL.up;rw[hLc]at hup hone;rcases List.mem_cons.mp hone with q|q
     ·exact .inl q.symm
     ·exact .inr ((List.pairwise_cons.mp hup).1 _ q)
    have hxo:x=(Grp.one hd).1:=by
     rcases hle with q|q
     ·exact q
     ·exfalso;have p1:=h1.pos;have p2:=h1.parity;have p3:=h2.parity;have q1:=h1.eq;have q2:=h2.eq;obtain⟨_,_,l1,l2,l3⟩:=h1;obtain⟨_,_,m1,m2,m3⟩:=h2;unfold Cls.Qp at q;rw[←o1]at q m1 m2 q2;have hx1:x.1=1:=by omega
      rw[hx1]at l1 l2 q1;have hb:x.2.1=(Grp.one hd).1.2.1:=by omega
      rw[hb]at q1;omega
    rw[hxo,hkey];rfl
  have hf0:(xB key L)[0]=kf N0 X (Grp.one hd):=by rw[hI hpos]at hfirst;exact Option.some.inj hfirst
  have ec:Q75.f N0 a1=some (X,0):=by unfold Q75.f;rw[k1];simp only[hC,bne_self_eq_false,cond_false,e1]
  have c0:decide (0<((rG key L).length:Int))=true:=decide_eq_true (by omega);have eg:Q76.f N0 a1=some (rG key L,0):=by rw[nj];exact e3
  have ep:Q77.f N0 a1=some ((rG key L).getD 0 [],0):=by unfold Q77.f;rw[eg];simp only[hC,bne_self_eq_false,cond_false,c0,cond_true]
  obtain⟨L',hL',_,_,ea,_⟩:=Cls.me (N:=N0) (by decide) hd;have hLL:L'=L:=by
   have r1:Cls.nT (fun a b c=>Rd a1 a b c∧jF a b c=1) L':=⟨hL'.up,fun x=>hL'.mem x⟩
   have r2:Cls.nT (fun a b c=>Rd a1 a b c∧jF a b c=1) L:=⟨hL.up,fun x=>hL.mem x⟩
   exact r1.one r2
  rw[hLL]at ea;have hrows1:Q79.f N0 ((rG key L).getD 0 []) ((rG key L).getD 0 [])=some true:=by
   unfold Q79.f;have:ao [(rG key L).getD 0 []]:=⟨by simp,fun r hr=>by simp only[hG]at hr;subst hr;exact hGR.at (by omega)⟩
   rw[Bb (by decide) this];rfl
  have hlen0:((((rG key L).getD 0 []).length)/3:Int)=(c:Int):=by rw[Dc hpos,zD,g3 _ (xK hpos)]
  have hKLl:KL.length=L.length:=by rw[←hK,hB]
  have wm1:aA ((X.length:Int)-1)=((X.length-1:Nat):Int):=by rw[gA (by omega) (by omega)];omega
  have wpow:aA (1*2^(min ((X.length-1:Nat):Int).toNat 64))=((2^(X.length-1):Nat):Int):=by
   rw[pC,Nat.min_eq_left (by omega),Int.one_mul];have hle:2^(X.length-1)≤2^7:=Nat.pow_le_pow_right (by decide) (by omega);have e:(2:Int)^(X.length-1)=((2^(X.length-1):Nat):Int):=by rw[Int.natCast_pow];rfl
   rw[e,gA (by omega) (by omega)]
  have c3:((X.length:Int)==0)=false:=beq_eq_false_iff_ne.mpr (by omega);have c4:decide (0≤((X.length-1:Nat):Int))=true:=decide_eq_true (by omega);have c5:(((rG key L).length:Int) != ((2^(X.length-1):Nat):Int))=false:=by rw[bne_eq_false_iff_eq,hgl,g1]
  unfold Q83.f;rw[j8,eg,ea,ec,ep];simp only[hC,Bool.not_true,cond_false,bne_self_eq_false,c3,wm1,c4,cond_true,wpow,c5];have:=cq (key:=key) (L:=L) (c:=c) N0 hL.nodup hL.len g2 g3 (fun y74=>some y74) ((rG key L).getD 0 []) (fun y48 y49 y50 y51 y52=>
    Q83.l27 N0 N0 y48 y49 (y50.length/3:Int) 0 y51 y52 [] [] y50
     (fun y68 y69 y70 y71=>
      bif decide (0<(y68.length:Int))then
       bif (y70.length:Int)==(((y68.getD 0 []).length)/3:Int)then
        bif decide (0<(y68.length:Int))then
         (Q79.f N0 y69 (y68.getD 0 [])).bind fun r72=>
         some r72
        else none
       else
       some false
      else none)
     (fun y73=>
      some y73)) true (by decide) (fun ks vs φ hA hM=>by
   have hnz:∀z:K a1,φ z.1≠0:=fun z=>by have hm:=(gM key L (key z.1)).mpr ⟨z.1,hzL z,rfl⟩;obtain⟨t,ht,et⟩:=List.getElem_of_mem hm;rw[hM.told t ht ht z.1 (aX.mpr ⟨hzL z,et.symm⟩)];omega
   have hsq1:∀z:K a1,φ (mul hd z z).1=1:=fun z=>by rw[hM.told 0 hpos hpos (mul hd z z).1 (aX.mpr ⟨hzL _,by rw[hf0,hkey,Qn hN hd hadm h8]⟩)];rfl
   have:=o7 hN hd (KL:=KL) (by have:=hL.len;omega) hsq hA hnz hsq1 (fun y73=>some y73) (rG key L) ((rG key L).getD 0 []) (fun y68 y69 y70 y71=>
      bif decide (0<(y68.length:Int))then
       bif (y70.length:Int)==(((y68.getD 0 []).length)/3:Int)then
        bif decide (0<(y68.length:Int))then
         (Q79.f N0 y69 (y68.getD 0 [])).bind fun r72=>
         some r72
        else none
       else
       some false
      else none) true (fun bs=>by
    rw[hK];simp only[c0,cond_true,g4,hlen0,beq_self_eq_true,hrows1,hC]) N0 0 [] (by omega) (by have:=hL.len;unfold N0;omega)
   rw[hK,hKLl,List.take_zero]at this;simp only[zD];exact this) N0 0 [] [] (fun _=>0) (by omega) (by have:=oO key L;have:=hL.len;unfold N0;omega) ⟨rfl,fun x=>rfl⟩ ⟨fun t ht hti=>by omega,fun _ _=>rfl⟩
  exact this
 ·obtain⟨b1,_,_,_⟩:=fi (N:=N0) l0 l1 hd;have eg:Q76.f N0 a1=some ([],80):=by
   unfold Q76.f;rw[b1];rfl
  unfold Q83.f;rw[j8,eg,k1];rfl
end Go.Proofs.YteaakcmkpacpaaaGreat.Gen
