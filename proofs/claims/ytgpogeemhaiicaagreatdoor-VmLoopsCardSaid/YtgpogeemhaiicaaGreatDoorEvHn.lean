/- VmLoops: what is said of the loops' numbers. No condition. -/
import Derived.Test.YtgpogeemhaiicaaGreatDoorEvHd
import Derived.Test.YtgpogeemhaiicaaGreatDoorEvMi
set_option linter.all false
namespace Go.Proofs.YtgpogeemhaiicaaGreatDoor.Hd
open Go.Ev Go.Proofs.YtgpogeemhaiicaaGreatDoor.Sn
def sy (id c lo hi : Nat) : V := .msk 0 (Nat.succ (Nat.mul 4 (sPack id (Nat.add 1073741824 c) (Nat.add 1073741824 c) lo hi)))
def gI : V := sy 40001 0 0 39
def gK : V := .cl1 0 13
def g0 : V := .cl1 0 16
def g1 : V := .cl1 0 20
def g2 : V := .cl1 0 24
/-- What is said otherwise behind some rounds: steps, safepoints, collections; the number, the count; the law's numbers. -/
def cvG (fs fp fw : Nat) (uK uI u0 u1 u2 : V) : List (V × V) :=
  [(sy 40002 0 0 1000000, sy 40002 fs fs (Nat.add 1000000 fs)), (sy 40003 0 0 1000000, sy 40003 fp fp (Nat.add 1000000 fp)), (sy 40004 0 0 1000000, sy 40004 fw fw (Nat.add 1000000 fw)),
   (gK, uK), (gI, uI), (g0, u0), (g1, u1), (g2, u2)]
/-- A loop is over. -/
def cvO : List (V × V) := [(.cl1 0 12, .cl1 0 13)]
/-- Ways through a round. -/
def cvY (vI vK v0 v1 v2 : V) : List (V × V) := [(sy 40002 0 0 1000000, sy 40002 0 0 1000000), (sy 40003 0 0 1000000, sy 40003 0 0 1000000), (sy 40004 0 0 1000000, sy 40004 0 0 1000000), (vI, gI), (vK, gK), (v0, g0), (v1, g1), (v2, g2)]
def hH1F (vI vK v0 v1 v2 : V) : H × Fr := (hOf xH1F (mkO (rH1F vI vK v0 v1 v2) []), frOf lH1F fr0)
def sH1F (vI vK v0 v1 v2 : V) (os : List Nat) : Snap := ⟨xH1F, mkO (rH1F vI vK v0 v1 v2) os, lH1F⟩
def hH2e0 (vI vK v0 v1 v2 : V) : H × Fr := (hOf xH2e0 (mkO (rH2e0 vI vK v0 v1 v2) []), frOf lH2e0 fr0)
def sH2e0 (vI vK v0 v1 v2 : V) (os : List Nat) : Snap := ⟨xH2e0, mkO (rH2e0 vI vK v0 v1 v2) os, lH2e0⟩
def hP3e0 (vI vK v0 v1 v2 : V) : H × Fr := (hOf xP3e0 (mkO (rP3e0 vI vK v0 v1 v2) []), frOf lP3e0 fr0)
def sP3e0 (vI vK v0 v1 v2 : V) (os : List Nat) : Snap := ⟨xP3e0, mkO (rP3e0 vI vK v0 v1 v2) os, lP3e0⟩
def hH1o0 (vI vK v0 v1 v2 : V) : H × Fr := (hOf xH1o0 (mkO (rH1o0 vI vK v0 v1 v2) []), frOf lH1o0 fr0)
def sH1o0 (vI vK v0 v1 v2 : V) (os : List Nat) : Snap := ⟨xH1o0, mkO (rH1o0 vI vK v0 v1 v2) os, lH1o0⟩
def hH2o0 (vI vK v0 v1 v2 : V) : H × Fr := (hOf xH2o0 (mkO (rH2o0 vI vK v0 v1 v2) []), frOf lH2o0 fr0)
def sH2o0 (vI vK v0 v1 v2 : V) (os : List Nat) : Snap := ⟨xH2o0, mkO (rH2o0 vI vK v0 v1 v2) os, lH2o0⟩
def hP3o0 (vI vK v0 v1 v2 : V) : H × Fr := (hOf xP3o0 (mkO (rP3o0 vI vK v0 v1 v2) []), frOf lP3o0 fr0)
def sP3o0 (vI vK v0 v1 v2 : V) (os : List Nat) : Snap := ⟨xP3o0, mkO (rP3o0 vI vK v0 v1 v2) os, lP3o0⟩
def hG3o0 (vI vK v0 v1 v2 : V) : H × Fr := (hOf xG3o0 (mkO (rG3o0 vI vK v0 v1 v2) []), frOf lG3o0 fr0)
def sG3o0 (vI vK v0 v1 v2 : V) (os : List Nat) : Snap := ⟨xG3o0, mkO (rG3o0 vI vK v0 v1 v2) os, lG3o0⟩
def hM3o0 (vI vK v0 v1 v2 : V) : H × Fr := (hOf xM3o0 (mkO (rM3o0 vI vK v0 v1 v2) []), frOf lM3o0 fr0)
def sM3o0 (vI vK v0 v1 v2 : V) (os : List Nat) : Snap := ⟨xM3o0, mkO (rM3o0 vI vK v0 v1 v2) os, lM3o0⟩
def hH1e0 (vI vK v0 v1 v2 : V) : H × Fr := (hOf xH1e0 (mkO (rH1e0 vI vK v0 v1 v2) []), frOf lH1e0 fr0)
def sH1e0 (vI vK v0 v1 v2 : V) (os : List Nat) : Snap := ⟨xH1e0, mkO (rH1e0 vI vK v0 v1 v2) os, lH1e0⟩
def hH1o1 (vI vK v0 v1 v2 : V) : H × Fr := (hOf xH1o1 (mkO (rH1o1 vI vK v0 v1 v2) []), frOf lH1o1 fr0)
def sH1o1 (vI vK v0 v1 v2 : V) (os : List Nat) : Snap := ⟨xH1o1, mkO (rH1o1 vI vK v0 v1 v2) os, lH1o1⟩
def hH1e1 (vI vK v0 v1 v2 : V) : H × Fr := (hOf xH1e1 (mkO (rH1e1 vI vK v0 v1 v2) []), frOf lH1e1 fr0)
def sH1e1 (vI vK v0 v1 v2 : V) (os : List Nat) : Snap := ⟨xH1e1, mkO (rH1e1 vI vK v0 v1 v2) os, lH1e1⟩
def hH2o1 (vI vK v0 v1 v2 : V) : H × Fr := (hOf xH2o1 (mkO (rH2o1 vI vK v0 v1 v2) []), frOf lH2o1 fr0)
def sH2o1 (vI vK v0 v1 v2 : V) (os : List Nat) : Snap := ⟨xH2o1, mkO (rH2o1 vI vK v0 v1 v2) os, lH2o1⟩
def hP3o1 (vI vK v0 v1 v2 : V) : H × Fr := (hOf xP3o1 (mkO (rP3o1 vI vK v0 v1 v2) []), frOf lP3o1 fr0)
def sP3o1 (vI vK v0 v1 v2 : V) (os : List Nat) : Snap := ⟨xP3o1, mkO (rP3o1 vI vK v0 v1 v2) os, lP3o1⟩
def hG3o1 (vI vK v0 v1 v2 : V) : H × Fr := (hOf xG3o1 (mkO (rG3o1 vI vK v0 v1 v2) []), frOf lG3o1 fr0)
def sG3o1 (vI vK v0 v1 v2 : V) (os : List Nat) : Snap := ⟨xG3o1, mkO (rG3o1 vI vK v0 v1 v2) os, lG3o1⟩
def hM3o1 (vI vK v0 v1 v2 : V) : H × Fr := (hOf xM3o1 (mkO (rM3o1 vI vK v0 v1 v2) []), frOf lM3o1 fr0)
def sM3o1 (vI vK v0 v1 v2 : V) (os : List Nat) : Snap := ⟨xM3o1, mkO (rM3o1 vI vK v0 v1 v2) os, lM3o1⟩
def hH3o1 (vI vK v0 v1 v2 : V) : H × Fr := (hOf xH3o1 (mkO (rH3o1 vI vK v0 v1 v2) []), frOf lH3o1 fr0)
def sH3o1 (vI vK v0 v1 v2 : V) (os : List Nat) : Snap := ⟨xH3o1, mkO (rH3o1 vI vK v0 v1 v2) os, lH3o1⟩
def hH2e1 (vI vK v0 v1 v2 : V) : H × Fr := (hOf xH2e1 (mkO (rH2e1 vI vK v0 v1 v2) []), frOf lH2e1 fr0)
def sH2e1 (vI vK v0 v1 v2 : V) (os : List Nat) : Snap := ⟨xH2e1, mkO (rH2e1 vI vK v0 v1 v2) os, lH2e1⟩
def hP3e1 (vI vK v0 v1 v2 : V) : H × Fr := (hOf xP3e1 (mkO (rP3e1 vI vK v0 v1 v2) []), frOf lP3e1 fr0)
def sP3e1 (vI vK v0 v1 v2 : V) (os : List Nat) : Snap := ⟨xP3e1, mkO (rP3e1 vI vK v0 v1 v2) os, lP3e1⟩
def hG3e1 (vI vK v0 v1 v2 : V) : H × Fr := (hOf xG3e1 (mkO (rG3e1 vI vK v0 v1 v2) []), frOf lG3e1 fr0)
def sG3e1 (vI vK v0 v1 v2 : V) (os : List Nat) : Snap := ⟨xG3e1, mkO (rG3e1 vI vK v0 v1 v2) os, lG3e1⟩
def hM3e1 (vI vK v0 v1 v2 : V) : H × Fr := (hOf xM3e1 (mkO (rM3e1 vI vK v0 v1 v2) []), frOf lM3e1 fr0)
def sM3e1 (vI vK v0 v1 v2 : V) (os : List Nat) : Snap := ⟨xM3e1, mkO (rM3e1 vI vK v0 v1 v2) os, lM3e1⟩
def hH3e1 (vI vK v0 v1 v2 : V) : H × Fr := (hOf xH3e1 (mkO (rH3e1 vI vK v0 v1 v2) []), frOf lH3e1 fr0)
def sH3e1 (vI vK v0 v1 v2 : V) (os : List Nat) : Snap := ⟨xH3e1, mkO (rH3e1 vI vK v0 v1 v2) os, lH3e1⟩
def hH3o0 (vI vK v0 v1 v2 : V) : H × Fr := (hOf xH3o0 (mkO (rH3o0 vI vK v0 v1 v2) []), frOf lH3o0 fr0)
def sH3o0 (vI vK v0 v1 v2 : V) (os : List Nat) : Snap := ⟨xH3o0, mkO (rH3o0 vI vK v0 v1 v2) os, lH3o0⟩
def hG3e0 (vI vK v0 v1 v2 : V) : H × Fr := (hOf xG3e0 (mkO (rG3e0 vI vK v0 v1 v2) []), frOf lG3e0 fr0)
def sG3e0 (vI vK v0 v1 v2 : V) (os : List Nat) : Snap := ⟨xG3e0, mkO (rG3e0 vI vK v0 v1 v2) os, lG3e0⟩
def hM3e0 (vI vK v0 v1 v2 : V) : H × Fr := (hOf xM3e0 (mkO (rM3e0 vI vK v0 v1 v2) []), frOf lM3e0 fr0)
def sM3e0 (vI vK v0 v1 v2 : V) (os : List Nat) : Snap := ⟨xM3e0, mkO (rM3e0 vI vK v0 v1 v2) os, lM3e0⟩
def hH3e0 (vI vK v0 v1 v2 : V) : H × Fr := (hOf xH3e0 (mkO (rH3e0 vI vK v0 v1 v2) []), frOf lH3e0 fr0)
def sH3e0 (vI vK v0 v1 v2 : V) (os : List Nat) : Snap := ⟨xH3e0, mkO (rH3e0 vI vK v0 v1 v2) os, lH3e0⟩
def sE0 : Snap := ⟨6479, mkO [(0,gL),(1,gT),(5892,c 163 [.slice 6477 0 25 25 2,Z,Z,i 25]),(5893,c 89 [p 5892,i 1]),(5894,c 59 [p 5893,i 1,i 2,i 3,i 4,i 5,i 6,i 7,i 8,i 9,i 10,i 11,i 12,i 13,i 14,i 15,i 16,i 17,i 18,i 19,i 20,i 21,i 24,i 8,i 22,E,.iface 50 (.agg []),i 4194304,i 200,i 1048576,Z,T,Z,i 0,Z,i 0,i 1,Z,Z,Z,Z,.slice 6024 0 1 1 1,i 0]),(5895,e2),(5896,e3),(5899,e4),(5900,e5),(5903,e6),(5904,e7),(5907,e8),(5908,e9),(5911,e10),(5912,e11),(5915,e12),(5916,e13),(5919,e14),(5920,e15),(5923,e16),(5924,e17),(5927,e18),(5928,e19),(5931,e20),(5932,e21),(5935,e22),(5936,e23),(5939,e24),(5940,e25),(5943,e26),(5944,e27),(5947,e28),(5948,e29),(5951,e30),(5952,e31),(5955,e32),(5956,e33),(5959,e34),(5960,e35),(5963,e36),(5964,e37),(5967,e38),(5968,e39),(5971,e40),(5972,e41),(5975,e42),(5976,e43),(5981,e44),(5985,c 135 [Z,Z,i 0,.slice 6106 0 0 1 1]),(5986,e45),(5989,e46),(5990,e47),(5996,e48),(5997,e49),(5998,e50),(5999,e51),(6000,e52),(6001,e53),(6002,e54),(6003,cr 28 [i 3,.cl1 0 528,E]),(6004,cr 28 [i 3,.cl1 0 529,E]),(6005,cr 28 [i 3,.cl1 0 530,E]),(6006,e55),(6007,e56),(6020,c 107 [i 0,i 0,E,i 0,p 5996,i 0,Z,i 25,i 0,i 0,E,i 0,i 0,E,Z,Z,Z,Z,i 0,i 0,i 0,E,i 0,i 0,i 0,E,i 0,i 0,E,F,F]),(6024,e57),(6104,e58),(6106,c 77 [p 6104]),(6118,e58),(6120,c 77 [p 6118]),(6132,e58),(6134,c 77 [p 6132]),(6146,e58),(6148,c 77 [p 6146]),(6160,e58),(6162,c 77 [p 6160]),(6174,e58),(6176,c 77 [p 6174]),(6188,e58),(6190,c 77 [p 6188]),(6202,e58),(6204,c 77 [p 6202]),(6216,e58),(6218,c 77 [p 6216]),(6230,e58),(6232,c 77 [p 6230]),(6244,e58),(6246,c 77 [p 6244]),(6258,e58),(6260,c 77 [p 6258]),(6272,e58),(6274,c 77 [p 6272]),(6286,e58),(6288,c 77 [p 6286]),(6300,e58),(6302,c 77 [p 6300]),(6314,e58),(6316,c 77 [p 6314]),(6328,e58),(6330,c 77 [p 6328]),(6342,e58),(6344,c 77 [p 6342]),(6356,e58),(6358,c 77 [p 6356]),(6370,e58),(6372,c 77 [p 6370]),(6384,e58),(6386,c 77 [p 6384]),(6398,e58),(6400,c 77 [p 6398]),(6474,e59),(6475,e60),(6477,c 165 [.iface 26 (p 5896),F,.iface 26 (p 5900),F,.iface 26 (p 5904),F,.iface 26 (p 5908),F,.iface 26 (p 5912),F,.iface 26 (p 5916),F,.iface 26 (p 5920),F,.iface 26 (p 5924),F,.iface 26 (p 5928),F,.iface 26 (p 5932),F,.iface 26 (p 5936),F,.iface 26 (p 5940),F,.iface 26 (p 5944),F,.iface 26 (p 5948),F,.iface 26 (p 5952),F,.iface 26 (p 5956),F,.iface 26 (p 5960),F,.iface 26 (p 5964),F,.iface 26 (p 5968),F,.iface 26 (p 5972),F,.iface 26 (p 5976),F,.iface 91 (p 5981),F,.iface 26 (p 5986),F,.iface 64 (p 5990),F,.iface 64 (p 6475),F]),(6478,e66)] [], [(0,p 5894),(1,p 6020),(4,p 6478),(5,i 0)]⟩
def cvE : List (V × V) := [(sy 40002 0 0 1000000, i 21), (sy 40003 0 0 1000000, i 1), (sy 40004 0 0 1000000, i 1), (gK, i 1), (gI, i 0), (g0, .cl1 0 528), (g1, .cl1 0 529), (g2, .cl1 0 530)]
end Go.Proofs.YtgpogeemhaiicaaGreatDoor.Hd
