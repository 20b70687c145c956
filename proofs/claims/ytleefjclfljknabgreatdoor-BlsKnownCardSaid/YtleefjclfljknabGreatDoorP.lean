/-
Lists and blocks that come again and again.
-/
import Derived.Test.YtleefjclfljknabGreatDoorLb
namespace Go.Proofs.YtleefjclfljknabGreatDoor
open Go.Rx
abbrev w (n : Nat) : Cell := .sc (.int .u64 (.ofNat n))
abbrev y (n : Nat) : Cell := .sc (.int .u8 (.ofNat n))
abbrev z (n : Nat) : Cell := .sc (.int .u32 (.ofNat n))
abbrev i (n : Int) : Cell := .sc (.int .i64 n)
abbrev tt : Cell := .sc (.bool true)
abbrev ff : Cell := .sc (.bool false)
abbrev np : Cell := .sc (.pointer none)
abbrev ns : Cell := .sc (.slice none 0 0)
abbrev nm : Cell := .sc (.map none)
def st (l : List Nat) : Cell := .sc (.string ⟨(l.map fun n => UInt8.ofNat n).toArray⟩)
def W (l : List Nat) : List Cell := l.map w
def Y (l : List Nat) : List Cell := l.map y
def Z (l : List Nat) : List Cell := l.map z
def N (l : List Int) : List Cell := l.map i
abbrev xx : Blk := deadBlk
def rep (c : Cell) (n : Nat) : List Cell := List.replicate n c
def bx (l : List Cell) (t : Nat) : Blk := ⟨l, t, false, .exact, none⟩
def bo (l : List Cell) (t s : Nat) : Blk := ⟨l, t, false, .opened s, none⟩
def l0 : List Cell := W [786251, 65521, 12, 9723, 164643] ++ [ff]
def l1 : List Cell := Z [1779033703, 3144134277, 1013904242, 2773480762, 1359893119, 2600822924, 528734635, 1541459225]
def l2 : List Cell := Z [1779033703, 3144134277, 1013904242, 2773480762, 1359893119, 2600822924, 528734635, 1541459225] ++ (rep (y 0) 64 ++ [i 0, tt])
def l3 : List Cell := Z [1779033703, 3144134277, 1013904242, 2773480762, 1359893119, 2600822924, 528734635, 1541459225] ++ (Y [3, 0, 0, 0, 0, 1, 109] ++ (rep (y 0) 57 ++ [i 7, tt]))
def l4 : List Cell := Y [163, 107, 206, 185, 82, 205, 197, 110, 174, 232, 165, 249, 99, 208, 39, 30, 7, 145, 170, 113, 207, 156, 29, 187, 124, 35, 230, 13, 238, 227, 70, 36]
def l5 : List Cell := Z [1779033703, 3144134277, 1013904242, 2773480762, 1359893119, 2600822924, 528734635, 1541459225] ++ (Y [3, 1, 0, 0, 0, 1, 109] ++ (rep (y 0) 57 ++ [i 7, tt]))
def l6 : List Cell := Y [162, 177, 210, 82, 37, 45, 220, 48, 136, 113, 247, 26, 35, 216, 208, 59, 85, 6, 204, 100, 48, 56, 100, 245, 154, 27, 174, 166, 90, 63, 100, 69]
def l7 : List Cell := Y [163, 107, 206, 185, 82, 205, 197, 110, 174, 232, 165, 249, 99, 208, 39, 30, 7, 145, 170, 113, 207, 156, 29, 187, 124, 35, 230, 13, 238, 227, 70, 36, 162, 177, 210, 82, 37, 45, 220, 48, 136, 113, 247, 26, 35, 216, 208, 59, 85, 6, 204, 100, 48, 56, 100, 245, 154, 27, 174, 166, 90, 63, 100, 69]
def l8 : List Cell := W [12603506047736358686, 11775732946043782510, 0, 0, 0, 0]
def l9 : List Cell := W [11104661335713997893, 6126809073761936629, 9831911153169125435, 11723382555275025456, 8945246232404772388, 545404435679681979]
def l10 : List Cell := W [786251, 0, 0, 0, 0, 0, 10390319207809346973, 727978, 0, 0, 0, 0, 0]
def l11 : List Cell := [i 1] ++ (rep (w 0) 24 ++ [ff, w 315666, w 524223, ff])
def l12 : List Cell := [i 1] ++ (rep (w 0) 24 ++ [ff, w 225263, w 195974, ff])
def l13 : List Cell := [i 1] ++ (rep (w 0) 24 ++ [ff, w 365261, w 748921, ff])
def l14 : List Cell := [i 1] ++ (rep (w 0) 24 ++ ([ff, w 225263, w 195974, ff, i 1] ++ (rep (w 0) 24 ++ [ff, w 365261, w 748921, ff])))
def l15 : List Cell := [i 1] ++ (rep (w 0) 24 ++ [ff, w 331888, w 558202, ff])
def l16 : List Cell := [i 1] ++ (rep (w 0) 12 ++ [ff, w 9723, w 164643, ff])
def l17 : List Cell := [i 1] ++ (rep (w 0) 12 ++ [ff, w 235929, w 424835, ff])
def l18 : List Cell := [i 1] ++ (rep (w 0) 12 ++ [ff, w 489674, w 271737, ff])
def l19 : List Cell := [i 1] ++ (rep (w 0) 12 ++ ([ff, w 235929, w 424835, ff, i 1] ++ (rep (w 0) 12 ++ [ff, w 489674, w 271737, ff])))
def l20 : List Cell := [i 1] ++ (rep (w 0) 12 ++ [ff, w 459524, w 603534, ff])
def l21 : List Cell := [i 1] ++ (rep (w 0) 12 ++ [ff, w 412975, w 657130, ff])
def l22 : List Cell := [i 1] ++ (rep (w 0) 12 ++ [ff, w 286073, w 714627, ff])
def l23 : List Cell := [i 1] ++ (rep (w 0) 12 ++ [ff, w 147226, w 705633, ff])
def l24 : List Cell := [i 1] ++ (rep (w 0) 12 ++ [ff, w 389245, w 497882, ff])
def l25 : List Cell := [i 1] ++ (rep (w 0) 12 ++ ([ff, w 235929, w 424835, ff, i 1] ++ (rep (w 0) 12 ++ ([ff, w 412975, w 657130, ff, i 1] ++ (rep (w 0) 12 ++ ([ff, w 286073, w 714627, ff, i 1] ++ (rep (w 0) 12 ++ ([ff, w 147226, w 705633, ff, i 1] ++ (rep (w 0) 12 ++ [ff, w 389245, w 497882, ff])))))))))
def l26 : List Cell := [i 1] ++ (rep (w 0) 12 ++ ([ff, w 412975, w 657130, ff, i 1] ++ (rep (w 0) 12 ++ ([ff, w 286073, w 714627, ff, i 1] ++ (rep (w 0) 12 ++ ([ff, w 147226, w 705633, ff, i 1] ++ (rep (w 0) 12 ++ [ff, w 389245, w 497882, ff])))))))
def l27 : List Cell := [i 1] ++ (rep (w 0) 24 ++ [ff, w 303299, w 366243, ff])
def l28 : List Cell := [i 1] ++ (rep (w 0) 24 ++ [ff, w 419574, w 351643, ff])
def l29 : List Cell := [i 1] ++ (rep (w 0) 12 ++ ([ff, w 235929, w 424835, ff, .slu 1 2 17 0 4, i 1] ++ (rep (w 0) 24 ++ [ff, w 315666, w 524223, ff, .mp 3, ns])))
def l30 : List Cell := [i 1] ++ (rep (w 0) 12 ++ ([ff, w 235929, w 424835, ff, .slu 1 2 17 0 4, i 1] ++ (rep (w 0) 24 ++ [ff, w 315666, w 524223, ff, .mp 3, .slu 4 5 1 0 1])))
def l31 : List Cell := [i 0] ++ (rep (w 0) 24 ++ [ff, w 0, w 0, ff])
def l32 : List Cell := [i 1] ++ (rep (w 0) 12 ++ ([ff, w 235929, w 424835, ff, .slu 1 2 17 0 4, i 1] ++ (rep (w 0) 24 ++ [ff, w 315666, w 524223, ff, .mp 3, .slu 4 5 1 0 2])))
def l33 : List Cell := [i 1] ++ (rep (w 0) 24 ++ ([ff, w 303299, w 366243, ff, i 1] ++ (rep (w 0) 24 ++ [ff, w 419574, w 351643, ff])))
def l34 : List Cell := W [65521, 0, 0, 0, 0, 0, 12067905526098292463, 48361, 0, 0, 0, 0, 0]
def l35 : List Cell := rep (w 0) 6 ++ W [4, 0, 0, 0, 0, 0]
def l36 : List Cell := W [1, 0, 0, 0, 0, 0, 65517, 0, 0, 0, 0, 0]
def l37 : List Cell := W [2, 0, 0, 0, 0, 0, 4, 0, 0, 0, 0, 0]
def l38 : List Cell := W [1, 0, 0, 0, 0, 0, 65519, 0, 0, 0, 0, 0]
def l39 : List Cell := W [65517, 0, 0, 0, 0, 0, 32760, 0, 0, 0, 0, 0]
def l40 : List Cell := rep (w 0) 6 ++ W [2, 0, 0, 0, 0, 0]
def l41 : List Cell := W [4, 0, 0, 0, 0, 0, 2, 0, 0, 0, 0, 0]
def l42 : List Cell := W [1, 0, 0, 0, 0, 0, 2, 0, 0, 0, 0, 0]
def l43 : List Cell := W [65519, 0, 0, 0, 0, 0, 32761, 0, 0, 0, 0, 0]
def l44 : List Cell := [i 1] ++ (rep (w 0) 24 ++ [ff, w 125378, w 245512, ff])
def l45 : List Cell := [i 1] ++ (rep (w 0) 24 ++ [ff, w 419574, w 434608, ff])
def l46 : List Cell := [i 1] ++ (rep (w 0) 12 ++ [ff, w 105173, w 146613, ff])
def b0 : Blk := bo (Y [0, 0, 0, 1, 109]) 5 3
def b1 : Blk := ⟨Z [1116352408, 1899447441, 3049323471, 3921009573, 961987163, 1508970993, 2453635748, 2870763221, 3624381080, 310598401, 607225278, 1426881987, 1925078388, 2162078206, 2614888103, 3248222580, 3835390401, 4022224774, 264347078, 604807628, 770255983, 1249150122, 1555081692, 1996064986, 2554220882, 2821834349, 2952996808, 3210313671, 3336571891, 3584528711, 113926993, 338241895, 666307205, 773529912, 1294757372, 1396182291, 1695183700, 1986661051, 2177026350, 2456956037, 2730485921, 2820302411, 3259730800, 3345764771, 3516065817, 3600352804, 4094571909, 275423344, 430227734, 506948616, 659060556, 883997877, 958139571, 1322822218, 1537002063, 1747873779, 1955562222, 2024104815, 2227730452, 2361852424, 2428436474, 2756734187, 3204031479, 3329325298], 308, true, .exact, some 0⟩
def b2 : Blk := bo (Y [0, 0, 0, 1, 109]) 5 2
def b3 : Blk := bx [w 315666, w 524223, ff] 31
def b4 : Blk := bx [w 9723, w 164643, ff] 31
def b5 : Blk := bx [w 436220, w 558202] 104
def b6 : Blk := bx [w 331888, w 558202, ff] 31
def b7 : Blk := bx [w 422498, w 773562, ff] 31
def b8 : Blk := bx [w 359802, w 653925] 104
def b9 : Blk := bx [w 261290, w 279259, ff] 31
def b10 : Blk := bx [w 105173, w 146613, ff] 31
def b11 : Blk := bx [w 172996, w 774144] 104
def b12 : Blk := bx [w 489674, w 271737, ff] 31
def b13 : Blk := bx [w 147226, w 705633, ff] 31
def b14 : Blk := bx [w 176356, w 529908] 104
def b15 : Blk := bx [w 38773, w 537271, ff] 31
def b16 : Blk := bx [w 679610, w 241205, ff] 31
def b17 : Blk := bx [w 782535, w 656641] 104
def b18 : Blk := bx [w 616876, w 621609, ff] 31
def b19 : Blk := bx [w 687067, w 298796, ff] 31
def b20 : Blk := bx [w 769725, w 552626] 104
def b21 : Blk := bx [w 655008, w 53940, ff] 31
def b22 : Blk := bx [w 248133, w 630727, ff] 31
def b23 : Blk := bx [w 131430, w 524679] 104
def b24 : Blk := bx [w 260463, w 509259, ff] 31
def b25 : Blk := bx [w 63403, w 429128, ff] 31
def b26 : Blk := bx [w 708884, w 621148] 104
def b27 : Blk := bx [w 646577, w 89926, ff] 31
def b28 : Blk := bx [w 157377, w 205890, ff] 31
def b29 : Blk := bx [w 720081, w 219592] 104
def b30 : Blk := bx [w 450081, w 267502, ff] 31
def b31 : Blk := bx [w 768881, w 319320, ff] 31
def b32 : Blk := bx [w 399452, w 47785] 104
def b33 : Blk := bx [w 684158, w 355338, ff] 31
def b34 : Blk := bx [w 757513, w 259750, ff] 31
def b35 : Blk := bx [w 744677, w 72217] 104
def b36 : Blk := bx [w 309652, w 337314, ff] 31
def b37 : Blk := bx [w 374434, w 56953, ff] 31
def b38 : Blk := bx [w 385633, w 338161, ff] 31
def b39 : Blk := bx [w 766420, w 622775, ff] 31
def b40 : Blk := bx [w 338484, w 345351, ff] 31
def b41 : Blk := bx [w 571114, w 695067, ff] 31
def b42 : Blk := bx [w 373256, w 524223] 104
def b43 : Blk := bx [w 459524, w 603534, ff] 31
def b44 : Blk := bx [w 769329, w 186930] 104
def b45 : Blk := bx [w 341328, w 688678, ff] 31
def b46 : Blk := bx [w 523125, w 507099] 104
def b47 : Blk := bx [w 713167, w 269914, ff] 31
def b48 : Blk := bx [w 511440, w 199857] 104
def b49 : Blk := bx [w 656962, w 343312, ff] 31
def b50 : Blk := bx [w 124139, w 317635] 104
def b51 : Blk := bx [w 109319, w 161149, ff] 31
def b52 : Blk := bx [w 161138, w 752990] 104
def b53 : Blk := bx [w 314876, w 583657, ff] 31
def b54 : Blk := bx [w 559824, w 742536] 104
def b55 : Blk := bx [w 244214, w 664568, ff] 31
def b56 : Blk := bx [w 74508, w 555730] 104
def b57 : Blk := bx [w 235118, w 251024, ff] 31
def b58 : Blk := bx [w 206887, w 97022] 104
def b59 : Blk := bx [w 399464, w 211476, ff] 31
def b60 : Blk := bx [w 69983, w 230347] 104
def b61 : Blk := bx [w 153546, w 93904, ff] 31
def b62 : Blk := bx [w 322351, w 505093] 104
def b63 : Blk := bx [w 85920, w 496952, ff] 31
def b64 : Blk := bx [w 781931, w 125499, ff] 31
def b65 : Blk := bx [w 726801, w 591141, ff] 31
def b66 : Blk := bx [w 261290, w 506992, ff] 31
def b67 : Blk := ⟨[], 0, false, .map [] 0, none⟩
def b68 : Blk := bx [w 775786, w 366243] 104
def b69 : Blk := bx [w 303299, w 366243, ff] 31
def b70 : Blk := bx [w 330362, w 12262] 104
def b71 : Blk := bx [w 782828, w 562692] 104
def b72 : Blk := bx [w 142028, w 706979] 104
def b73 : Blk := bx [w 209679, w 349121] 104
def b74 : Blk := bx [w 273383, w 665749] 104
def b75 : Blk := bx [w 180890, w 98646] 104
def b76 : Blk := bx [w 590235, w 429079] 104
def b77 : Blk := bx [w 597472, w 264729] 104
def b78 : Blk := bx [w 21436, w 757746] 104
def b79 : Blk := bx [w 281425, w 240294] 104
def b80 : Blk := bx [w 504203, w 524223] 104
def b81 : Blk := bx [w 648002, w 49291] 104
def b82 : Blk := bx [w 295282, w 157582] 104
def b83 : Blk := bx [w 91733, w 143724] 104
def b84 : Blk := bx [w 190766, w 11098] 104
def b85 : Blk := bx [w 308125, w 409648] 104
def b86 : Blk := bx [w 711529, w 374958] 104
def b87 : Blk := bx [w 452974, w 602665] 104
def b88 : Blk := bx [w 470570, w 359451] 104
def b89 : Blk := bx [w 31466, w 341998] 104
def b90 : Blk := bx [w 480015, w 267364] 104
def b91 : Blk := ⟨[], 0, false, .map [(.int .i64 2, .agg l27, 0)] 1, none⟩
def b92 : Blk := bx [w 99162, w 351643] 104
def b93 : Blk := bx [w 419574, w 351643, ff] 31
def b94 : Blk := bx [w 58427, w 613117] 104
def b95 : Blk := bx [w 414755, w 46782] 104
def b96 : Blk := bx [w 141852, w 104562] 104
def b97 : Blk := bx [w 487173, w 305383] 104
def b98 : Blk := bx [w 350969, w 430903] 104
def b99 : Blk := bx [w 350589, w 306741] 104
def b100 : Blk := bx [w 484447, w 388907] 104
def b101 : Blk := bx [w 481099, w 36323] 104
def b102 : Blk := bx [w 38886, w 330286] 104
def b103 : Blk := bx [w 274924, w 293067] 104
def b104 : Blk := bx [w 418937, w 524223] 104
def b105 : Blk := bx [w 275296, w 661655] 104
def b106 : Blk := bx [w 672519, w 432932, ff] 31
def b107 : Blk := bx [w 342091, w 380105] 104
def b108 : Blk := bx [w 17705, w 478465] 104
def b109 : Blk := bx [w 418001, w 186904] 104
def b110 : Blk := bx [w 327712, w 41995] 104
def b111 : Blk := bx [w 649511, w 570963] 104
def b112 : Blk := bx [w 606994, w 784701] 104
def b113 : Blk := bx [w 109554, w 582465] 104
def b114 : Blk := bx [w 495357, w 520476] 104
def b115 : Blk := bx [w 375900, w 664192] 104
def b116 : Blk := bx [w 305825, w 524223] 104
def b117 : Blk := bx [w 249624, w 778766] 104
def b118 : Blk := bx [w 496060, w 178367] 104
def b119 : Blk := bx [w 499581, w 482622] 104
def b120 : Blk := bx [w 524516, w 744431] 104
def b121 : Blk := bx [w 91488, w 537404] 104
def b122 : Blk := bx [w 338127, w 409393] 104
def b123 : Blk := bx [w 199602, w 197504] 104
def b124 : Blk := bx [w 228052, w 391059] 104
def b125 : Blk := bx [w 168030, w 533892] 104
def b126 : Blk := bx [w 389033, w 58414] 104
def b127 : Blk := ⟨[], 0, false, .map [(.int .i64 2, .agg l27, 0), (.int .i64 4, .agg l28, 1)] 2, none⟩
def b128 : Blk := bx (W [4, 0, 0, 0, 0, 0]) 25
def b129 : Blk := bx (W [1, 0, 0, 0, 0, 0]) 25
def b130 : Blk := bx (W [65517, 0, 0, 0, 0, 0]) 25
def b131 : Blk := bx (W [2, 0, 0, 0, 0, 0]) 25
def b132 : Blk := bx (W [65519, 0, 0, 0, 0, 0]) 25
def b133 : Blk := bx (W [32760, 0, 0, 0, 0, 0]) 25
def b134 : Blk := bx (W [32761, 0, 0, 0, 0, 0]) 25
def b135 : Blk := bx [w 497472, w 195974] 104
def b136 : Blk := bx [w 225263, w 195974, ff] 31
def b137 : Blk := bx [w 337255, w 705867] 104
def b138 : Blk := bx [w 195701, w 439211] 104
def b139 : Blk := bx [w 141197, w 165238] 104
def b140 : Blk := bx [w 622261, w 355289] 104
def b141 : Blk := bx [w 449515, w 5097] 104
def b142 : Blk := bx [w 192901, w 56356] 104
def b143 : Blk := bx [w 691854, w 732247] 104
def b144 : Blk := bx [w 553704, w 391637] 104
def b145 : Blk := bx [w 210601, w 509072] 104
def b146 : Blk := bx [w 35618, w 535270] 104
def b147 : Blk := bx [w 354259, w 524223] 104
def b148 : Blk := bx [w 628059, w 277537] 104
def b149 : Blk := bx [w 605578, w 30087] 104
def b150 : Blk := bx [w 579562, w 248850] 104
def b151 : Blk := bx [w 542640, w 286905] 104
def b152 : Blk := bx [w 157953, w 510482] 104
def b153 : Blk := bx [w 680990, w 311614] 104
def b154 : Blk := bx [w 195231, w 452732] 104
def b155 : Blk := bx [w 472252, w 546213] 104
def b156 : Blk := bx [w 298357, w 2592] 104
def b157 : Blk := bx [w 120429, w 472654] 104
def b158 : Blk := bx [w 190773, w 524223] 104
def b159 : Blk := bx [w 389414, w 776798] 104
def b160 : Blk := bx [w 395266, w 156900] 104
def b161 : Blk := bx [w 507938, w 325357] 104
def b162 : Blk := bx [w 40945, w 189922] 104
def b163 : Blk := bx [w 181935, w 106080] 104
def b164 : Blk := bx [w 85136, w 318351] 104
def b165 : Blk := bx [w 192343, w 56226] 104
def b166 : Blk := bx [w 137699, w 716719] 104
def b167 : Blk := bx [w 705574, w 67075] 104
def b168 : Blk := bx [w 146250, w 224752] 104
theorem o3 : fnOrd Tryz.f3 = true := by kernel_rfl
theorem o4 : fnOrd Tryz.f4 = true := by kernel_rfl
theorem o5 : fnOrd Tryz.f5 = true := by kernel_rfl
theorem o6 : fnOrd Tryz.f6 = true := by kernel_rfl
theorem o7 : fnOrd Tryz.f7 = true := by kernel_rfl
theorem o8 : fnOrd Tryz.f8 = true := by kernel_rfl
theorem o9 : fnOrd Tryz.f9 = true := by kernel_rfl
theorem o10 : fnOrd Tryz.f10 = true := by kernel_rfl
theorem o11 : fnOrd Tryz.f11 = true := by kernel_rfl
theorem o12 : fnOrd Tryz.f12 = true := by kernel_rfl
theorem o13 : fnOrd Tryz.f13 = true := by kernel_rfl
theorem o14 : fnOrd Tryz.f14 = true := by kernel_rfl
theorem o15 : fnOrd Tryz.f15 = true := by kernel_rfl
theorem o16 : fnOrd Tryz.f16 = true := by kernel_rfl
theorem o17 : fnOrd Tryz.f17 = true := by kernel_rfl
theorem o18 : fnOrd Tryz.f18 = true := by kernel_rfl
theorem o19 : fnOrd Tryz.f19 = true := by kernel_rfl
theorem o20 : fnOrd Tryz.f20 = true := by kernel_rfl
theorem o21 : fnOrd Tryz.f21 = true := by kernel_rfl
theorem o22 : fnOrd Tryz.f22 = true := by kernel_rfl
theorem o23 : fnOrd Tryz.f23 = true := by kernel_rfl
theorem o24 : fnOrd Tryz.f24 = true := by kernel_rfl
theorem o25 : fnOrd Tryz.f25 = true := by kernel_rfl
theorem o26 : fnOrd Tryz.f26 = true := by kernel_rfl
theorem o27 : fnOrd Tryz.f27 = true := by kernel_rfl
theorem o28 : fnOrd Tryz.f28 = true := by kernel_rfl
theorem o29 : fnOrd Tryz.f29 = true := by kernel_rfl
theorem o30 : fnOrd Tryz.f30 = true := by kernel_rfl
theorem o31 : fnOrd Tryz.f31 = true := by kernel_rfl
theorem o32 : fnOrd Tryz.f32 = true := by kernel_rfl
theorem o33 : fnOrd Tryz.f33 = true := by kernel_rfl
theorem o34 : fnOrd Tryz.f34 = true := by kernel_rfl
theorem o36 : fnOrd Tryz.f36 = true := by kernel_rfl
theorem o37 : fnOrd Tryz.f37 = true := by kernel_rfl
theorem o38 : fnOrd Tryz.f38 = true := by kernel_rfl
theorem o39 : fnOrd Tryz.f39 = true := by kernel_rfl
theorem o40 : fnOrd Tryz.f40 = true := by kernel_rfl
theorem o41 : fnOrd Tryz.f41 = true := by kernel_rfl
theorem o42 : fnOrd Tryz.f42 = true := by kernel_rfl
theorem o43 : fnOrd Tryz.f43 = true := by kernel_rfl
theorem o44 : fnOrd Tryz.f44 = true := by kernel_rfl
theorem o45 : fnOrd Tryz.f45 = true := by kernel_rfl
theorem o47 : fnOrd Tryz.f47 = true := by kernel_rfl
theorem o50 : fnOrd Tryz.f50 = true := by kernel_rfl
theorem o51 : fnOrd Tryz.f51 = true := by kernel_rfl
theorem o54 : fnOrd Tryz.f54 = true := by kernel_rfl
theorem o56 : fnOrd Tryz.f56 = true := by kernel_rfl
theorem o57 : fnOrd Tryz.f57 = true := by kernel_rfl
theorem o59 : fnOrd Tryz.f59 = true := by kernel_rfl
theorem o61 : fnOrd Tryz.f61 = true := by kernel_rfl
theorem o62 : fnOrd Tryz.f62 = true := by kernel_rfl
theorem o63 : fnOrd Tryz.f63 = true := by kernel_rfl
theorem o65 : fnOrd Tryz.f65 = true := by kernel_rfl
theorem o66 : fnOrd Tryz.f66 = true := by kernel_rfl
theorem o68 : fnOrd Tryz.f68 = true := by kernel_rfl
theorem o69 : fnOrd Tryz.f69 = true := by kernel_rfl
theorem o71 : fnOrd Tryz.f71 = true := by kernel_rfl
theorem o72 : fnOrd Tryz.f72 = true := by kernel_rfl
theorem o74 : fnOrd Tryz.f74 = true := by kernel_rfl
theorem o85 : fnOrd Tryz.f85 = true := by kernel_rfl
theorem o86 : fnOrd Tryz.f86 = true := by kernel_rfl
theorem o89 : fnOrd Tryz.f89 = true := by kernel_rfl
theorem o90 : fnOrd Tryz.f90 = true := by kernel_rfl
theorem o91 : fnOrd Tryz.f91 = true := by kernel_rfl
theorem o92 : fnOrd Tryz.f92 = true := by kernel_rfl
theorem o98 : fnOrd Tryz.f98 = true := by kernel_rfl
theorem o99 : fnOrd Tryz.f99 = true := by kernel_rfl
theorem o100 : fnOrd Tryz.f100 = true := by kernel_rfl
theorem o103 : fnOrd Tryz.f103 = true := by kernel_rfl
theorem o104 : fnOrd Tryz.f104 = true := by kernel_rfl
theorem o105 : fnOrd Tryz.f105 = true := by kernel_rfl
theorem o106 : fnOrd Tryz.f106 = true := by kernel_rfl
theorem o108 : fnOrd Tryz.f108 = true := by kernel_rfl
theorem o110 : fnOrd Tryz.f110 = true := by kernel_rfl
theorem o111 : fnOrd Tryz.f111 = true := by kernel_rfl
theorem o112 : fnOrd Tryz.f112 = true := by kernel_rfl
theorem o116 : fnOrd Tryz.f116 = true := by kernel_rfl
theorem o135 : fnOrd Tryz.f135 = true := by kernel_rfl
theorem o145 : fnOrd Tryz.f145 = true := by kernel_rfl
theorem o148 : fnOrd Tryz.f148 = true := by kernel_rfl
theorem o151 : fnOrd Tryz.f151 = true := by kernel_rfl
theorem o152 : fnOrd Tryz.f152 = true := by kernel_rfl
theorem o153 : fnOrd Tryz.f153 = true := by kernel_rfl
theorem o154 : fnOrd Tryz.f154 = true := by kernel_rfl
theorem o155 : fnOrd Tryz.f155 = true := by kernel_rfl
theorem o156 : fnOrd Tryz.f156 = true := by kernel_rfl
theorem o157 : fnOrd Tryz.f157 = true := by kernel_rfl
theorem o158 : fnOrd Tryz.f158 = true := by kernel_rfl
theorem o159 : fnOrd Tryz.f159 = true := by kernel_rfl
theorem o170 : fnOrd Tryz.f170 = true := by kernel_rfl
theorem o171 : fnOrd Tryz.f171 = true := by kernel_rfl
theorem o174 : fnOrd Tryz.f174 = true := by kernel_rfl
theorem o175 : fnOrd Tryz.f175 = true := by kernel_rfl
theorem o176 : fnOrd Tryz.f176 = true := by kernel_rfl
theorem o178 : fnOrd Tryz.f178 = true := by kernel_rfl
theorem o179 : fnOrd Tryz.f179 = true := by kernel_rfl
theorem o180 : fnOrd Tryz.f180 = true := by kernel_rfl
theorem o204 : fnOrd Tryz.f204 = true := by kernel_rfl
theorem o205 : fnOrd Tryz.f205 = true := by kernel_rfl
theorem o206 : fnOrd Tryz.f206 = true := by kernel_rfl
theorem o207 : fnOrd Tryz.f207 = true := by kernel_rfl
theorem o208 : fnOrd Tryz.f208 = true := by kernel_rfl
theorem o209 : fnOrd Tryz.f209 = true := by kernel_rfl
theorem o216 : fnOrd Tryz.f216 = true := by kernel_rfl
theorem o217 : fnOrd Tryz.f217 = true := by kernel_rfl
theorem o218 : fnOrd Tryz.f218 = true := by kernel_rfl
theorem o220 : fnOrd Tryz.f220 = true := by kernel_rfl
theorem o221 : fnOrd Tryz.f221 = true := by kernel_rfl
theorem o227 : fnOrd Tryz.f227 = true := by kernel_rfl
theorem o233 : fnOrd Tryz.f233 = true := by kernel_rfl
theorem o237 : fnOrd Tryz.f237 = true := by kernel_rfl
theorem o238 : fnOrd Tryz.f238 = true := by kernel_rfl
theorem o239 : fnOrd Tryz.f239 = true := by kernel_rfl
theorem o240 : fnOrd Tryz.f240 = true := by kernel_rfl
theorem o241 : fnOrd Tryz.f241 = true := by kernel_rfl
theorem o242 : fnOrd Tryz.f242 = true := by kernel_rfl
theorem o243 : fnOrd Tryz.f243 = true := by kernel_rfl
theorem o252 : fnOrd Tryz.f252 = true := by kernel_rfl
theorem o253 : fnOrd Tryz.f253 = true := by kernel_rfl
end Go.Proofs.YtleefjclfljknabGreatDoor
