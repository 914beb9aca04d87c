/-
  Each row of the tables fits the program. Conditions: those that each statement below names, and no other.
-/
import Derived.Test.YtdicpkjblflgbaaGreatDoorRunJ
import Derived.Test.YtdicpkjblflgbaaGreatDoorTabA
set_option linter.all false

namespace Go.Proofs.YtdicpkjblflgbaaGreatDoor
open Go Go.Rv
theorem rtyn511_ok : AllT (fun t ti => tiOf Tryz.prog t = some ti) rtyn511 512 511 := ⟨fun x h => (by cases h; kernel_rfl), trivial, trivial⟩
theorem rtyn255_ok : AllT (fun t ti => tiOf Tryz.prog t = some ti) rtyn255 256 255 := ⟨fun x h => (by cases h), rtyn511_ok, trivial⟩
theorem rtyn127_ok : AllT (fun t ti => tiOf Tryz.prog t = some ti) rtyn127 128 127 := ⟨fun x h => (by cases h), rtyn255_ok, trivial⟩
theorem rtyn447_ok : AllT (fun t ti => tiOf Tryz.prog t = some ti) rtyn447 256 447 := ⟨fun x h => (by cases h; kernel_rfl), trivial, trivial⟩
theorem rtyn191_ok : AllT (fun t ti => tiOf Tryz.prog t = some ti) rtyn191 128 191 := ⟨fun x h => (by cases h; kernel_rfl), trivial, rtyn447_ok⟩
theorem rtyn63_ok : AllT (fun t ti => tiOf Tryz.prog t = some ti) rtyn63 64 63 := ⟨fun x h => (by cases h), rtyn127_ok, rtyn191_ok⟩
theorem rtyn31_ok : AllT (fun t ti => tiOf Tryz.prog t = some ti) rtyn31 32 31 := ⟨fun x h => (by cases h; kernel_rfl), rtyn63_ok, trivial⟩
theorem rtyn143_ok : AllT (fun t ti => tiOf Tryz.prog t = some ti) rtyn143 128 143 := ⟨fun x h => (by cases h; kernel_rfl), trivial, trivial⟩
theorem rtyn207_ok : AllT (fun t ti => tiOf Tryz.prog t = some ti) rtyn207 128 207 := ⟨fun x h => (by cases h; kernel_rfl), trivial, trivial⟩
theorem rtyn79_ok : AllT (fun t ti => tiOf Tryz.prog t = some ti) rtyn79 64 79 := ⟨fun x h => (by cases h; kernel_rfl), rtyn143_ok, rtyn207_ok⟩
theorem rtyn47_ok : AllT (fun t ti => tiOf Tryz.prog t = some ti) rtyn47 32 47 := ⟨fun x h => (by cases h), rtyn79_ok, trivial⟩
theorem rtyn15_ok : AllT (fun t ti => tiOf Tryz.prog t = some ti) rtyn15 16 15 := ⟨fun x h => (by cases h), rtyn31_ok, rtyn47_ok⟩
theorem rtyn71_ok : AllT (fun t ti => tiOf Tryz.prog t = some ti) rtyn71 64 71 := ⟨fun x h => (by cases h; kernel_rfl), trivial, trivial⟩
theorem rtyn39_ok : AllT (fun t ti => tiOf Tryz.prog t = some ti) rtyn39 32 39 := ⟨fun x h => (by cases h), rtyn71_ok, trivial⟩
theorem rtyn151_ok : AllT (fun t ti => tiOf Tryz.prog t = some ti) rtyn151 128 151 := ⟨fun x h => (by cases h; kernel_rfl), trivial, trivial⟩
theorem rtyn471_ok : AllT (fun t ti => tiOf Tryz.prog t = some ti) rtyn471 256 471 := ⟨fun x h => (by cases h; kernel_rfl), trivial, trivial⟩
theorem rtyn215_ok : AllT (fun t ti => tiOf Tryz.prog t = some ti) rtyn215 128 215 := ⟨fun x h => (by cases h), trivial, rtyn471_ok⟩
theorem rtyn87_ok : AllT (fun t ti => tiOf Tryz.prog t = some ti) rtyn87 64 87 := ⟨fun x h => (by cases h), rtyn151_ok, rtyn215_ok⟩
theorem rtyn823_ok : AllT (fun t ti => tiOf Tryz.prog t = some ti) rtyn823 512 823 := ⟨fun x h => (by cases h; kernel_rfl), trivial, trivial⟩
theorem rtyn311_ok : AllT (fun t ti => tiOf Tryz.prog t = some ti) rtyn311 256 311 := ⟨fun x h => (by cases h), trivial, rtyn823_ok⟩
theorem rtyn183_ok : AllT (fun t ti => tiOf Tryz.prog t = some ti) rtyn183 128 183 := ⟨fun x h => (by cases h), rtyn311_ok, trivial⟩
theorem rtyn247_ok : AllT (fun t ti => tiOf Tryz.prog t = some ti) rtyn247 128 247 := ⟨fun x h => (by cases h; kernel_rfl), trivial, trivial⟩
theorem rtyn119_ok : AllT (fun t ti => tiOf Tryz.prog t = some ti) rtyn119 64 119 := ⟨fun x h => (by cases h; kernel_rfl), rtyn183_ok, rtyn247_ok⟩
theorem rtyn55_ok : AllT (fun t ti => tiOf Tryz.prog t = some ti) rtyn55 32 55 := ⟨fun x h => (by cases h), rtyn87_ok, rtyn119_ok⟩
theorem rtyn23_ok : AllT (fun t ti => tiOf Tryz.prog t = some ti) rtyn23 16 23 := ⟨fun x h => (by cases h), rtyn39_ok, rtyn55_ok⟩
theorem rtyn7_ok : AllT (fun t ti => tiOf Tryz.prog t = some ti) rtyn7 8 7 := ⟨fun x h => (by cases h), rtyn15_ok, rtyn23_ok⟩
theorem rtyn451_ok : AllT (fun t ti => tiOf Tryz.prog t = some ti) rtyn451 256 451 := ⟨fun x h => (by cases h; kernel_rfl), trivial, trivial⟩
theorem rtyn195_ok : AllT (fun t ti => tiOf Tryz.prog t = some ti) rtyn195 128 195 := ⟨fun x h => (by cases h), trivial, rtyn451_ok⟩
theorem rtyn67_ok : AllT (fun t ti => tiOf Tryz.prog t = some ti) rtyn67 64 67 := ⟨fun x h => (by cases h; kernel_rfl), trivial, rtyn195_ok⟩
theorem rtyn99_ok : AllT (fun t ti => tiOf Tryz.prog t = some ti) rtyn99 64 99 := ⟨fun x h => (by cases h; kernel_rfl), trivial, trivial⟩
theorem rtyn35_ok : AllT (fun t ti => tiOf Tryz.prog t = some ti) rtyn35 32 35 := ⟨fun x h => (by cases h; kernel_rfl), rtyn67_ok, rtyn99_ok⟩
theorem rtyn787_ok : AllT (fun t ti => tiOf Tryz.prog t = some ti) rtyn787 512 787 := ⟨fun x h => (by cases h; kernel_rfl), trivial, trivial⟩
theorem rtyn275_ok : AllT (fun t ti => tiOf Tryz.prog t = some ti) rtyn275 256 275 := ⟨fun x h => (by cases h), trivial, rtyn787_ok⟩
theorem rtyn147_ok : AllT (fun t ti => tiOf Tryz.prog t = some ti) rtyn147 128 147 := ⟨fun x h => (by cases h), rtyn275_ok, trivial⟩
theorem rtyn83_ok : AllT (fun t ti => tiOf Tryz.prog t = some ti) rtyn83 64 83 := ⟨fun x h => (by cases h), rtyn147_ok, trivial⟩
theorem rtyn563_ok : AllT (fun t ti => tiOf Tryz.prog t = some ti) rtyn563 512 563 := ⟨fun x h => (by cases h; kernel_rfl), trivial, trivial⟩
theorem rtyn307_ok : AllT (fun t ti => tiOf Tryz.prog t = some ti) rtyn307 256 307 := ⟨fun x h => (by cases h), rtyn563_ok, trivial⟩
theorem rtyn179_ok : AllT (fun t ti => tiOf Tryz.prog t = some ti) rtyn179 128 179 := ⟨fun x h => (by cases h; kernel_rfl), rtyn307_ok, trivial⟩
theorem rtyn115_ok : AllT (fun t ti => tiOf Tryz.prog t = some ti) rtyn115 64 115 := ⟨fun x h => (by cases h), rtyn179_ok, trivial⟩
theorem rtyn51_ok : AllT (fun t ti => tiOf Tryz.prog t = some ti) rtyn51 32 51 := ⟨fun x h => (by cases h; kernel_rfl), rtyn83_ok, rtyn115_ok⟩
theorem rtyn19_ok : AllT (fun t ti => tiOf Tryz.prog t = some ti) rtyn19 16 19 := ⟨fun x h => (by cases h), rtyn35_ok, rtyn51_ok⟩
theorem rtyn203_ok : AllT (fun t ti => tiOf Tryz.prog t = some ti) rtyn203 128 203 := ⟨fun x h => (by cases h; kernel_rfl), trivial, trivial⟩
theorem rtyn75_ok : AllT (fun t ti => tiOf Tryz.prog t = some ti) rtyn75 64 75 := ⟨fun x h => (by cases h), trivial, rtyn203_ok⟩
theorem rtyn555_ok : AllT (fun t ti => tiOf Tryz.prog t = some ti) rtyn555 512 555 := ⟨fun x h => (by cases h; kernel_rfl), trivial, trivial⟩
theorem rtyn299_ok : AllT (fun t ti => tiOf Tryz.prog t = some ti) rtyn299 256 299 := ⟨fun x h => (by cases h), rtyn555_ok, trivial⟩
theorem rtyn171_ok : AllT (fun t ti => tiOf Tryz.prog t = some ti) rtyn171 128 171 := ⟨fun x h => (by cases h), rtyn299_ok, trivial⟩
theorem rtyn107_ok : AllT (fun t ti => tiOf Tryz.prog t = some ti) rtyn107 64 107 := ⟨fun x h => (by cases h; kernel_rfl), rtyn171_ok, trivial⟩
theorem rtyn43_ok : AllT (fun t ti => tiOf Tryz.prog t = some ti) rtyn43 32 43 := ⟨fun x h => (by cases h; kernel_rfl), rtyn75_ok, rtyn107_ok⟩
theorem rtyn283_ok : AllT (fun t ti => tiOf Tryz.prog t = some ti) rtyn283 256 283 := ⟨fun x h => (by cases h; kernel_rfl), trivial, trivial⟩
theorem rtyn155_ok : AllT (fun t ti => tiOf Tryz.prog t = some ti) rtyn155 128 155 := ⟨fun x h => (by cases h; kernel_rfl), rtyn283_ok, trivial⟩
theorem rtyn91_ok : AllT (fun t ti => tiOf Tryz.prog t = some ti) rtyn91 64 91 := ⟨fun x h => (by cases h), rtyn155_ok, trivial⟩
theorem rtyn187_ok : AllT (fun t ti => tiOf Tryz.prog t = some ti) rtyn187 128 187 := ⟨fun x h => (by cases h; kernel_rfl), trivial, trivial⟩
theorem rtyn251_ok : AllT (fun t ti => tiOf Tryz.prog t = some ti) rtyn251 128 251 := ⟨fun x h => (by cases h; kernel_rfl), trivial, trivial⟩
theorem rtyn123_ok : AllT (fun t ti => tiOf Tryz.prog t = some ti) rtyn123 64 123 := ⟨fun x h => (by cases h), rtyn187_ok, rtyn251_ok⟩
theorem rtyn59_ok : AllT (fun t ti => tiOf Tryz.prog t = some ti) rtyn59 32 59 := ⟨fun x h => (by cases h; kernel_rfl), rtyn91_ok, rtyn123_ok⟩
theorem rtyn27_ok : AllT (fun t ti => tiOf Tryz.prog t = some ti) rtyn27 16 27 := ⟨fun x h => (by cases h), rtyn43_ok, rtyn59_ok⟩
theorem rtyn11_ok : AllT (fun t ti => tiOf Tryz.prog t = some ti) rtyn11 8 11 := ⟨fun x h => (by cases h), rtyn19_ok, rtyn27_ok⟩
theorem rtyn3_ok : AllT (fun t ti => tiOf Tryz.prog t = some ti) rtyn3 4 3 := ⟨fun x h => (by cases h; kernel_rfl), rtyn7_ok, rtyn11_ok⟩
theorem rtyn513_ok : AllT (fun t ti => tiOf Tryz.prog t = some ti) rtyn513 512 513 := ⟨fun x h => (by cases h; kernel_rfl), trivial, trivial⟩
theorem rtyn257_ok : AllT (fun t ti => tiOf Tryz.prog t = some ti) rtyn257 256 257 := ⟨fun x h => (by cases h), rtyn513_ok, trivial⟩
theorem rtyn129_ok : AllT (fun t ti => tiOf Tryz.prog t = some ti) rtyn129 128 129 := ⟨fun x h => (by cases h), rtyn257_ok, trivial⟩
theorem rtyn449_ok : AllT (fun t ti => tiOf Tryz.prog t = some ti) rtyn449 256 449 := ⟨fun x h => (by cases h; kernel_rfl), trivial, trivial⟩
theorem rtyn193_ok : AllT (fun t ti => tiOf Tryz.prog t = some ti) rtyn193 128 193 := ⟨fun x h => (by cases h), trivial, rtyn449_ok⟩
theorem rtyn65_ok : AllT (fun t ti => tiOf Tryz.prog t = some ti) rtyn65 64 65 := ⟨fun x h => (by cases h; kernel_rfl), rtyn129_ok, rtyn193_ok⟩
theorem rtyn33_ok : AllT (fun t ti => tiOf Tryz.prog t = some ti) rtyn33 32 33 := ⟨fun x h => (by cases h), rtyn65_ok, trivial⟩
theorem rtyn49_ok : AllT (fun t ti => tiOf Tryz.prog t = some ti) rtyn49 32 49 := ⟨fun x h => (by cases h; kernel_rfl), trivial, trivial⟩
theorem rtyn17_ok : AllT (fun t ti => tiOf Tryz.prog t = some ti) rtyn17 16 17 := ⟨fun x h => (by cases h), rtyn33_ok, rtyn49_ok⟩
theorem rtyn201_ok : AllT (fun t ti => tiOf Tryz.prog t = some ti) rtyn201 128 201 := ⟨fun x h => (by cases h; kernel_rfl), trivial, trivial⟩
theorem rtyn73_ok : AllT (fun t ti => tiOf Tryz.prog t = some ti) rtyn73 64 73 := ⟨fun x h => (by cases h), trivial, rtyn201_ok⟩
theorem rtyn553_ok : AllT (fun t ti => tiOf Tryz.prog t = some ti) rtyn553 512 553 := ⟨fun x h => (by cases h; kernel_rfl), trivial, trivial⟩
theorem rtyn297_ok : AllT (fun t ti => tiOf Tryz.prog t = some ti) rtyn297 256 297 := ⟨fun x h => (by cases h), rtyn553_ok, trivial⟩
theorem rtyn169_ok : AllT (fun t ti => tiOf Tryz.prog t = some ti) rtyn169 128 169 := ⟨fun x h => (by cases h; kernel_rfl), rtyn297_ok, trivial⟩
theorem rtyn105_ok : AllT (fun t ti => tiOf Tryz.prog t = some ti) rtyn105 64 105 := ⟨fun x h => (by cases h), rtyn169_ok, trivial⟩
theorem rtyn41_ok : AllT (fun t ti => tiOf Tryz.prog t = some ti) rtyn41 32 41 := ⟨fun x h => (by cases h), rtyn73_ok, rtyn105_ok⟩
theorem rtyn153_ok : AllT (fun t ti => tiOf Tryz.prog t = some ti) rtyn153 128 153 := ⟨fun x h => (by cases h; kernel_rfl), trivial, trivial⟩
theorem rtyn729_ok : AllT (fun t ti => tiOf Tryz.prog t = some ti) rtyn729 512 729 := ⟨fun x h => (by cases h; kernel_rfl), trivial, trivial⟩
theorem rtyn473_ok : AllT (fun t ti => tiOf Tryz.prog t = some ti) rtyn473 256 473 := ⟨fun x h => (by cases h; kernel_rfl), rtyn729_ok, trivial⟩
theorem rtyn217_ok : AllT (fun t ti => tiOf Tryz.prog t = some ti) rtyn217 128 217 := ⟨fun x h => (by cases h), trivial, rtyn473_ok⟩
theorem rtyn89_ok : AllT (fun t ti => tiOf Tryz.prog t = some ti) rtyn89 64 89 := ⟨fun x h => (by cases h; kernel_rfl), rtyn153_ok, rtyn217_ok⟩
theorem rtyn57_ok : AllT (fun t ti => tiOf Tryz.prog t = some ti) rtyn57 32 57 := ⟨fun x h => (by cases h; kernel_rfl), rtyn89_ok, trivial⟩
theorem rtyn25_ok : AllT (fun t ti => tiOf Tryz.prog t = some ti) rtyn25 16 25 := ⟨fun x h => (by cases h), rtyn41_ok, rtyn57_ok⟩
theorem rtyn9_ok : AllT (fun t ti => tiOf Tryz.prog t = some ti) rtyn9 8 9 := ⟨fun x h => (by cases h; kernel_rfl), rtyn17_ok, rtyn25_ok⟩
theorem rtyn645_ok : AllT (fun t ti => tiOf Tryz.prog t = some ti) rtyn645 512 645 := ⟨fun x h => (by cases h; kernel_rfl), trivial, trivial⟩
theorem rtyn389_ok : AllT (fun t ti => tiOf Tryz.prog t = some ti) rtyn389 256 389 := ⟨fun x h => (by cases h), rtyn645_ok, trivial⟩
theorem rtyn133_ok : AllT (fun t ti => tiOf Tryz.prog t = some ti) rtyn133 128 133 := ⟨fun x h => (by cases h), trivial, rtyn389_ok⟩
theorem rtyn69_ok : AllT (fun t ti => tiOf Tryz.prog t = some ti) rtyn69 64 69 := ⟨fun x h => (by cases h), rtyn133_ok, trivial⟩
theorem rtyn357_ok : AllT (fun t ti => tiOf Tryz.prog t = some ti) rtyn357 256 357 := ⟨fun x h => (by cases h; kernel_rfl), trivial, trivial⟩
theorem rtyn229_ok : AllT (fun t ti => tiOf Tryz.prog t = some ti) rtyn229 128 229 := ⟨fun x h => (by cases h), rtyn357_ok, trivial⟩
theorem rtyn101_ok : AllT (fun t ti => tiOf Tryz.prog t = some ti) rtyn101 64 101 := ⟨fun x h => (by cases h), trivial, rtyn229_ok⟩
theorem rtyn37_ok : AllT (fun t ti => tiOf Tryz.prog t = some ti) rtyn37 32 37 := ⟨fun x h => (by cases h), rtyn69_ok, rtyn101_ok⟩
theorem rtyn789_ok : AllT (fun t ti => tiOf Tryz.prog t = some ti) rtyn789 512 789 := ⟨fun x h => (by cases h; kernel_rfl), trivial, trivial⟩
theorem rtyn277_ok : AllT (fun t ti => tiOf Tryz.prog t = some ti) rtyn277 256 277 := ⟨fun x h => (by cases h; kernel_rfl), trivial, rtyn789_ok⟩
theorem rtyn149_ok : AllT (fun t ti => tiOf Tryz.prog t = some ti) rtyn149 128 149 := ⟨fun x h => (by cases h; kernel_rfl), rtyn277_ok, trivial⟩
theorem rtyn85_ok : AllT (fun t ti => tiOf Tryz.prog t = some ti) rtyn85 64 85 := ⟨fun x h => (by cases h), rtyn149_ok, trivial⟩
theorem rtyn181_ok : AllT (fun t ti => tiOf Tryz.prog t = some ti) rtyn181 128 181 := ⟨fun x h => (by cases h; kernel_rfl), trivial, trivial⟩
theorem rtyn117_ok : AllT (fun t ti => tiOf Tryz.prog t = some ti) rtyn117 64 117 := ⟨fun x h => (by cases h), rtyn181_ok, trivial⟩
theorem rtyn53_ok : AllT (fun t ti => tiOf Tryz.prog t = some ti) rtyn53 32 53 := ⟨fun x h => (by cases h; kernel_rfl), rtyn85_ok, rtyn117_ok⟩
theorem rtyn21_ok : AllT (fun t ti => tiOf Tryz.prog t = some ti) rtyn21 16 21 := ⟨fun x h => (by cases h; kernel_rfl), rtyn37_ok, rtyn53_ok⟩
theorem rtyn109_ok : AllT (fun t ti => tiOf Tryz.prog t = some ti) rtyn109 64 109 := ⟨fun x h => (by cases h; kernel_rfl), trivial, trivial⟩
theorem rtyn45_ok : AllT (fun t ti => tiOf Tryz.prog t = some ti) rtyn45 32 45 := ⟨fun x h => (by cases h), trivial, rtyn109_ok⟩
theorem rtyn797_ok : AllT (fun t ti => tiOf Tryz.prog t = some ti) rtyn797 512 797 := ⟨fun x h => (by cases h; kernel_rfl), trivial, trivial⟩
theorem rtyn285_ok : AllT (fun t ti => tiOf Tryz.prog t = some ti) rtyn285 256 285 := ⟨fun x h => (by cases h), trivial, rtyn797_ok⟩
theorem rtyn669_ok : AllT (fun t ti => tiOf Tryz.prog t = some ti) rtyn669 512 669 := ⟨fun x h => (by cases h; kernel_rfl), trivial, trivial⟩
theorem rtyn413_ok : AllT (fun t ti => tiOf Tryz.prog t = some ti) rtyn413 256 413 := ⟨fun x h => (by cases h), rtyn669_ok, trivial⟩
theorem rtyn157_ok : AllT (fun t ti => tiOf Tryz.prog t = some ti) rtyn157 128 157 := ⟨fun x h => (by cases h), rtyn285_ok, rtyn413_ok⟩
theorem rtyn93_ok : AllT (fun t ti => tiOf Tryz.prog t = some ti) rtyn93 64 93 := ⟨fun x h => (by cases h), rtyn157_ok, trivial⟩
theorem rtyn829_ok : AllT (fun t ti => tiOf Tryz.prog t = some ti) rtyn829 512 829 := ⟨fun x h => (by cases h; kernel_rfl), trivial, trivial⟩
theorem rtyn317_ok : AllT (fun t ti => tiOf Tryz.prog t = some ti) rtyn317 256 317 := ⟨fun x h => (by cases h), trivial, rtyn829_ok⟩
theorem rtyn189_ok : AllT (fun t ti => tiOf Tryz.prog t = some ti) rtyn189 128 189 := ⟨fun x h => (by cases h), rtyn317_ok, trivial⟩
theorem rtyn253_ok : AllT (fun t ti => tiOf Tryz.prog t = some ti) rtyn253 128 253 := ⟨fun x h => (by cases h; kernel_rfl), trivial, trivial⟩
theorem rtyn125_ok : AllT (fun t ti => tiOf Tryz.prog t = some ti) rtyn125 64 125 := ⟨fun x h => (by cases h), rtyn189_ok, rtyn253_ok⟩
theorem rtyn61_ok : AllT (fun t ti => tiOf Tryz.prog t = some ti) rtyn61 32 61 := ⟨fun x h => (by cases h), rtyn93_ok, rtyn125_ok⟩
theorem rtyn29_ok : AllT (fun t ti => tiOf Tryz.prog t = some ti) rtyn29 16 29 := ⟨fun x h => (by cases h; kernel_rfl), rtyn45_ok, rtyn61_ok⟩
theorem rtyn13_ok : AllT (fun t ti => tiOf Tryz.prog t = some ti) rtyn13 8 13 := ⟨fun x h => (by cases h), rtyn21_ok, rtyn29_ok⟩
theorem rtyn5_ok : AllT (fun t ti => tiOf Tryz.prog t = some ti) rtyn5 4 5 := ⟨fun x h => (by cases h; kernel_rfl), rtyn9_ok, rtyn13_ok⟩
theorem rtyn1_ok : AllT (fun t ti => tiOf Tryz.prog t = some ti) rtyn1 2 1 := ⟨fun x h => (by cases h), rtyn3_ok, rtyn5_ok⟩
theorem rtyn64_ok : AllT (fun t ti => tiOf Tryz.prog t = some ti) rtyn64 64 64 := ⟨fun x h => (by cases h; kernel_rfl), trivial, trivial⟩
theorem rtyn224_ok : AllT (fun t ti => tiOf Tryz.prog t = some ti) rtyn224 128 224 := ⟨fun x h => (by cases h; kernel_rfl), trivial, trivial⟩
theorem rtyn96_ok : AllT (fun t ti => tiOf Tryz.prog t = some ti) rtyn96 64 96 := ⟨fun x h => (by cases h; kernel_rfl), trivial, rtyn224_ok⟩
theorem rtyn32_ok : AllT (fun t ti => tiOf Tryz.prog t = some ti) rtyn32 32 32 := ⟨fun x h => (by cases h), rtyn64_ok, rtyn96_ok⟩
theorem rtyn272_ok : AllT (fun t ti => tiOf Tryz.prog t = some ti) rtyn272 256 272 := ⟨fun x h => (by cases h; kernel_rfl), trivial, trivial⟩
theorem rtyn656_ok : AllT (fun t ti => tiOf Tryz.prog t = some ti) rtyn656 512 656 := ⟨fun x h => (by cases h; kernel_rfl), trivial, trivial⟩
theorem rtyn400_ok : AllT (fun t ti => tiOf Tryz.prog t = some ti) rtyn400 256 400 := ⟨fun x h => (by cases h), rtyn656_ok, trivial⟩
theorem rtyn144_ok : AllT (fun t ti => tiOf Tryz.prog t = some ti) rtyn144 128 144 := ⟨fun x h => (by cases h), rtyn272_ok, rtyn400_ok⟩
theorem rtyn464_ok : AllT (fun t ti => tiOf Tryz.prog t = some ti) rtyn464 256 464 := ⟨fun x h => (by cases h; kernel_rfl), trivial, trivial⟩
theorem rtyn208_ok : AllT (fun t ti => tiOf Tryz.prog t = some ti) rtyn208 128 208 := ⟨fun x h => (by cases h), trivial, rtyn464_ok⟩
theorem rtyn80_ok : AllT (fun t ti => tiOf Tryz.prog t = some ti) rtyn80 64 80 := ⟨fun x h => (by cases h), rtyn144_ok, rtyn208_ok⟩
theorem rtyn112_ok : AllT (fun t ti => tiOf Tryz.prog t = some ti) rtyn112 64 112 := ⟨fun x h => (by cases h; kernel_rfl), trivial, trivial⟩
theorem rtyn48_ok : AllT (fun t ti => tiOf Tryz.prog t = some ti) rtyn48 32 48 := ⟨fun x h => (by cases h; kernel_rfl), rtyn80_ok, rtyn112_ok⟩
theorem rtyn16_ok : AllT (fun t ti => tiOf Tryz.prog t = some ti) rtyn16 16 16 := ⟨fun x h => (by cases h), rtyn32_ok, rtyn48_ok⟩
theorem rtyn264_ok : AllT (fun t ti => tiOf Tryz.prog t = some ti) rtyn264 256 264 := ⟨fun x h => (by cases h; kernel_rfl), trivial, trivial⟩
theorem rtyn136_ok : AllT (fun t ti => tiOf Tryz.prog t = some ti) rtyn136 128 136 := ⟨fun x h => (by cases h), rtyn264_ok, trivial⟩
theorem rtyn72_ok : AllT (fun t ti => tiOf Tryz.prog t = some ti) rtyn72 64 72 := ⟨fun x h => (by cases h), rtyn136_ok, trivial⟩
theorem rtyn360_ok : AllT (fun t ti => tiOf Tryz.prog t = some ti) rtyn360 256 360 := ⟨fun x h => (by cases h; kernel_rfl), trivial, trivial⟩
theorem rtyn232_ok : AllT (fun t ti => tiOf Tryz.prog t = some ti) rtyn232 128 232 := ⟨fun x h => (by cases h), rtyn360_ok, trivial⟩
theorem rtyn104_ok : AllT (fun t ti => tiOf Tryz.prog t = some ti) rtyn104 64 104 := ⟨fun x h => (by cases h), trivial, rtyn232_ok⟩
theorem rtyn40_ok : AllT (fun t ti => tiOf Tryz.prog t = some ti) rtyn40 32 40 := ⟨fun x h => (by cases h; kernel_rfl), rtyn72_ok, rtyn104_ok⟩
theorem rtyn280_ok : AllT (fun t ti => tiOf Tryz.prog t = some ti) rtyn280 256 280 := ⟨fun x h => (by cases h; kernel_rfl), trivial, trivial⟩
theorem rtyn152_ok : AllT (fun t ti => tiOf Tryz.prog t = some ti) rtyn152 128 152 := ⟨fun x h => (by cases h; kernel_rfl), rtyn280_ok, trivial⟩
theorem rtyn88_ok : AllT (fun t ti => tiOf Tryz.prog t = some ti) rtyn88 64 88 := ⟨fun x h => (by cases h), rtyn152_ok, trivial⟩
theorem rtyn696_ok : AllT (fun t ti => tiOf Tryz.prog t = some ti) rtyn696 512 696 := ⟨fun x h => (by cases h; kernel_rfl), trivial, trivial⟩
theorem rtyn440_ok : AllT (fun t ti => tiOf Tryz.prog t = some ti) rtyn440 256 440 := ⟨fun x h => (by cases h), rtyn696_ok, trivial⟩
theorem rtyn184_ok : AllT (fun t ti => tiOf Tryz.prog t = some ti) rtyn184 128 184 := ⟨fun x h => (by cases h; kernel_rfl), trivial, rtyn440_ok⟩
theorem rtyn760_ok : AllT (fun t ti => tiOf Tryz.prog t = some ti) rtyn760 512 760 := ⟨fun x h => (by cases h; kernel_rfl), trivial, trivial⟩
theorem rtyn504_ok : AllT (fun t ti => tiOf Tryz.prog t = some ti) rtyn504 256 504 := ⟨fun x h => (by cases h), rtyn760_ok, trivial⟩
theorem rtyn248_ok : AllT (fun t ti => tiOf Tryz.prog t = some ti) rtyn248 128 248 := ⟨fun x h => (by cases h; kernel_rfl), trivial, rtyn504_ok⟩
theorem rtyn120_ok : AllT (fun t ti => tiOf Tryz.prog t = some ti) rtyn120 64 120 := ⟨fun x h => (by cases h), rtyn184_ok, rtyn248_ok⟩
theorem rtyn56_ok : AllT (fun t ti => tiOf Tryz.prog t = some ti) rtyn56 32 56 := ⟨fun x h => (by cases h; kernel_rfl), rtyn88_ok, rtyn120_ok⟩
theorem rtyn24_ok : AllT (fun t ti => tiOf Tryz.prog t = some ti) rtyn24 16 24 := ⟨fun x h => (by cases h; kernel_rfl), rtyn40_ok, rtyn56_ok⟩
theorem rtyn8_ok : AllT (fun t ti => tiOf Tryz.prog t = some ti) rtyn8 8 8 := ⟨fun x h => (by cases h), rtyn16_ok, rtyn24_ok⟩
theorem rtyn132_ok : AllT (fun t ti => tiOf Tryz.prog t = some ti) rtyn132 128 132 := ⟨fun x h => (by cases h; kernel_rfl), trivial, trivial⟩
theorem rtyn68_ok : AllT (fun t ti => tiOf Tryz.prog t = some ti) rtyn68 64 68 := ⟨fun x h => (by cases h), rtyn132_ok, trivial⟩
theorem rtyn100_ok : AllT (fun t ti => tiOf Tryz.prog t = some ti) rtyn100 64 100 := ⟨fun x h => (by cases h; kernel_rfl), trivial, trivial⟩
theorem rtyn36_ok : AllT (fun t ti => tiOf Tryz.prog t = some ti) rtyn36 32 36 := ⟨fun x h => (by cases h), rtyn68_ok, rtyn100_ok⟩
theorem rtyn148_ok : AllT (fun t ti => tiOf Tryz.prog t = some ti) rtyn148 128 148 := ⟨fun x h => (by cases h; kernel_rfl), trivial, trivial⟩
theorem rtyn84_ok : AllT (fun t ti => tiOf Tryz.prog t = some ti) rtyn84 64 84 := ⟨fun x h => (by cases h), rtyn148_ok, trivial⟩
theorem rtyn180_ok : AllT (fun t ti => tiOf Tryz.prog t = some ti) rtyn180 128 180 := ⟨fun x h => (by cases h; kernel_rfl), trivial, trivial⟩
theorem rtyn372_ok : AllT (fun t ti => tiOf Tryz.prog t = some ti) rtyn372 256 372 := ⟨fun x h => (by cases h; kernel_rfl), trivial, trivial⟩
theorem rtyn244_ok : AllT (fun t ti => tiOf Tryz.prog t = some ti) rtyn244 128 244 := ⟨fun x h => (by cases h), rtyn372_ok, trivial⟩
theorem rtyn116_ok : AllT (fun t ti => tiOf Tryz.prog t = some ti) rtyn116 64 116 := ⟨fun x h => (by cases h), rtyn180_ok, rtyn244_ok⟩
theorem rtyn52_ok : AllT (fun t ti => tiOf Tryz.prog t = some ti) rtyn52 32 52 := ⟨fun x h => (by cases h; kernel_rfl), rtyn84_ok, rtyn116_ok⟩
theorem rtyn20_ok : AllT (fun t ti => tiOf Tryz.prog t = some ti) rtyn20 16 20 := ⟨fun x h => (by cases h), rtyn36_ok, rtyn52_ok⟩
theorem rtyn268_ok : AllT (fun t ti => tiOf Tryz.prog t = some ti) rtyn268 256 268 := ⟨fun x h => (by cases h; kernel_rfl), trivial, trivial⟩
theorem rtyn140_ok : AllT (fun t ti => tiOf Tryz.prog t = some ti) rtyn140 128 140 := ⟨fun x h => (by cases h), rtyn268_ok, trivial⟩
theorem rtyn460_ok : AllT (fun t ti => tiOf Tryz.prog t = some ti) rtyn460 256 460 := ⟨fun x h => (by cases h; kernel_rfl), trivial, trivial⟩
theorem rtyn204_ok : AllT (fun t ti => tiOf Tryz.prog t = some ti) rtyn204 128 204 := ⟨fun x h => (by cases h), trivial, rtyn460_ok⟩
theorem rtyn76_ok : AllT (fun t ti => tiOf Tryz.prog t = some ti) rtyn76 64 76 := ⟨fun x h => (by cases h; kernel_rfl), rtyn140_ok, rtyn204_ok⟩
theorem rtyn556_ok : AllT (fun t ti => tiOf Tryz.prog t = some ti) rtyn556 512 556 := ⟨fun x h => (by cases h; kernel_rfl), trivial, trivial⟩
theorem rtyn300_ok : AllT (fun t ti => tiOf Tryz.prog t = some ti) rtyn300 256 300 := ⟨fun x h => (by cases h), rtyn556_ok, trivial⟩
theorem rtyn172_ok : AllT (fun t ti => tiOf Tryz.prog t = some ti) rtyn172 128 172 := ⟨fun x h => (by cases h), rtyn300_ok, trivial⟩
theorem rtyn492_ok : AllT (fun t ti => tiOf Tryz.prog t = some ti) rtyn492 256 492 := ⟨fun x h => (by cases h; kernel_rfl), trivial, trivial⟩
theorem rtyn236_ok : AllT (fun t ti => tiOf Tryz.prog t = some ti) rtyn236 128 236 := ⟨fun x h => (by cases h), trivial, rtyn492_ok⟩
theorem rtyn108_ok : AllT (fun t ti => tiOf Tryz.prog t = some ti) rtyn108 64 108 := ⟨fun x h => (by cases h), rtyn172_ok, rtyn236_ok⟩
theorem rtyn44_ok : AllT (fun t ti => tiOf Tryz.prog t = some ti) rtyn44 32 44 := ⟨fun x h => (by cases h), rtyn76_ok, rtyn108_ok⟩
theorem rtyn476_ok : AllT (fun t ti => tiOf Tryz.prog t = some ti) rtyn476 256 476 := ⟨fun x h => (by cases h; kernel_rfl), trivial, trivial⟩
theorem rtyn220_ok : AllT (fun t ti => tiOf Tryz.prog t = some ti) rtyn220 128 220 := ⟨fun x h => (by cases h), trivial, rtyn476_ok⟩
theorem rtyn92_ok : AllT (fun t ti => tiOf Tryz.prog t = some ti) rtyn92 64 92 := ⟨fun x h => (by cases h; kernel_rfl), trivial, rtyn220_ok⟩
theorem rtyn316_ok : AllT (fun t ti => tiOf Tryz.prog t = some ti) rtyn316 256 316 := ⟨fun x h => (by cases h; kernel_rfl), trivial, trivial⟩
theorem rtyn188_ok : AllT (fun t ti => tiOf Tryz.prog t = some ti) rtyn188 128 188 := ⟨fun x h => (by cases h), rtyn316_ok, trivial⟩
theorem rtyn124_ok : AllT (fun t ti => tiOf Tryz.prog t = some ti) rtyn124 64 124 := ⟨fun x h => (by cases h), rtyn188_ok, trivial⟩
theorem rtyn60_ok : AllT (fun t ti => tiOf Tryz.prog t = some ti) rtyn60 32 60 := ⟨fun x h => (by cases h; kernel_rfl), rtyn92_ok, rtyn124_ok⟩
theorem rtyn28_ok : AllT (fun t ti => tiOf Tryz.prog t = some ti) rtyn28 16 28 := ⟨fun x h => (by cases h; kernel_rfl), rtyn44_ok, rtyn60_ok⟩
theorem rtyn12_ok : AllT (fun t ti => tiOf Tryz.prog t = some ti) rtyn12 8 12 := ⟨fun x h => (by cases h), rtyn20_ok, rtyn28_ok⟩
theorem rtyn4_ok : AllT (fun t ti => tiOf Tryz.prog t = some ti) rtyn4 4 4 := ⟨fun x h => (by cases h; kernel_rfl), rtyn8_ok, rtyn12_ok⟩
theorem rtyn290_ok : AllT (fun t ti => tiOf Tryz.prog t = some ti) rtyn290 256 290 := ⟨fun x h => (by cases h; kernel_rfl), trivial, trivial⟩
theorem rtyn162_ok : AllT (fun t ti => tiOf Tryz.prog t = some ti) rtyn162 128 162 := ⟨fun x h => (by cases h), rtyn290_ok, trivial⟩
theorem rtyn98_ok : AllT (fun t ti => tiOf Tryz.prog t = some ti) rtyn98 64 98 := ⟨fun x h => (by cases h), rtyn162_ok, trivial⟩
theorem rtyn34_ok : AllT (fun t ti => tiOf Tryz.prog t = some ti) rtyn34 32 34 := ⟨fun x h => (by cases h), trivial, rtyn98_ok⟩
theorem rtyn658_ok : AllT (fun t ti => tiOf Tryz.prog t = some ti) rtyn658 512 658 := ⟨fun x h => (by cases h; kernel_rfl), trivial, trivial⟩
theorem rtyn402_ok : AllT (fun t ti => tiOf Tryz.prog t = some ti) rtyn402 256 402 := ⟨fun x h => (by cases h), rtyn658_ok, trivial⟩
theorem rtyn146_ok : AllT (fun t ti => tiOf Tryz.prog t = some ti) rtyn146 128 146 := ⟨fun x h => (by cases h; kernel_rfl), trivial, rtyn402_ok⟩
theorem rtyn82_ok : AllT (fun t ti => tiOf Tryz.prog t = some ti) rtyn82 64 82 := ⟨fun x h => (by cases h), rtyn146_ok, trivial⟩
theorem rtyn178_ok : AllT (fun t ti => tiOf Tryz.prog t = some ti) rtyn178 128 178 := ⟨fun x h => (by cases h; kernel_rfl), trivial, trivial⟩
theorem rtyn114_ok : AllT (fun t ti => tiOf Tryz.prog t = some ti) rtyn114 64 114 := ⟨fun x h => (by cases h), rtyn178_ok, trivial⟩
theorem rtyn50_ok : AllT (fun t ti => tiOf Tryz.prog t = some ti) rtyn50 32 50 := ⟨fun x h => (by cases h), rtyn82_ok, rtyn114_ok⟩
theorem rtyn18_ok : AllT (fun t ti => tiOf Tryz.prog t = some ti) rtyn18 16 18 := ⟨fun x h => (by cases h), rtyn34_ok, rtyn50_ok⟩
theorem rtyn714_ok : AllT (fun t ti => tiOf Tryz.prog t = some ti) rtyn714 512 714 := ⟨fun x h => (by cases h; kernel_rfl), trivial, trivial⟩
theorem rtyn458_ok : AllT (fun t ti => tiOf Tryz.prog t = some ti) rtyn458 256 458 := ⟨fun x h => (by cases h), rtyn714_ok, trivial⟩
theorem rtyn202_ok : AllT (fun t ti => tiOf Tryz.prog t = some ti) rtyn202 128 202 := ⟨fun x h => (by cases h), trivial, rtyn458_ok⟩
theorem rtyn74_ok : AllT (fun t ti => tiOf Tryz.prog t = some ti) rtyn74 64 74 := ⟨fun x h => (by cases h), trivial, rtyn202_ok⟩
theorem rtyn170_ok : AllT (fun t ti => tiOf Tryz.prog t = some ti) rtyn170 128 170 := ⟨fun x h => (by cases h; kernel_rfl), trivial, trivial⟩
theorem rtyn106_ok : AllT (fun t ti => tiOf Tryz.prog t = some ti) rtyn106 64 106 := ⟨fun x h => (by cases h), rtyn170_ok, trivial⟩
theorem rtyn42_ok : AllT (fun t ti => tiOf Tryz.prog t = some ti) rtyn42 32 42 := ⟨fun x h => (by cases h), rtyn74_ok, rtyn106_ok⟩
theorem rtyn826_ok : AllT (fun t ti => tiOf Tryz.prog t = some ti) rtyn826 512 826 := ⟨fun x h => (by cases h; kernel_rfl), trivial, trivial⟩
theorem rtyn314_ok : AllT (fun t ti => tiOf Tryz.prog t = some ti) rtyn314 256 314 := ⟨fun x h => (by cases h), trivial, rtyn826_ok⟩
theorem rtyn186_ok : AllT (fun t ti => tiOf Tryz.prog t = some ti) rtyn186 128 186 := ⟨fun x h => (by cases h), rtyn314_ok, trivial⟩
theorem rtyn762_ok : AllT (fun t ti => tiOf Tryz.prog t = some ti) rtyn762 512 762 := ⟨fun x h => (by cases h; kernel_rfl), trivial, trivial⟩
theorem rtyn506_ok : AllT (fun t ti => tiOf Tryz.prog t = some ti) rtyn506 256 506 := ⟨fun x h => (by cases h), rtyn762_ok, trivial⟩
theorem rtyn250_ok : AllT (fun t ti => tiOf Tryz.prog t = some ti) rtyn250 128 250 := ⟨fun x h => (by cases h), trivial, rtyn506_ok⟩
theorem rtyn122_ok : AllT (fun t ti => tiOf Tryz.prog t = some ti) rtyn122 64 122 := ⟨fun x h => (by cases h), rtyn186_ok, rtyn250_ok⟩
theorem rtyn58_ok : AllT (fun t ti => tiOf Tryz.prog t = some ti) rtyn58 32 58 := ⟨fun x h => (by cases h), trivial, rtyn122_ok⟩
theorem rtyn26_ok : AllT (fun t ti => tiOf Tryz.prog t = some ti) rtyn26 16 26 := ⟨fun x h => (by cases h; kernel_rfl), rtyn42_ok, rtyn58_ok⟩
theorem rtyn10_ok : AllT (fun t ti => tiOf Tryz.prog t = some ti) rtyn10 8 10 := ⟨fun x h => (by cases h), rtyn18_ok, rtyn26_ok⟩
theorem rtyn454_ok : AllT (fun t ti => tiOf Tryz.prog t = some ti) rtyn454 256 454 := ⟨fun x h => (by cases h; kernel_rfl), trivial, trivial⟩
theorem rtyn198_ok : AllT (fun t ti => tiOf Tryz.prog t = some ti) rtyn198 128 198 := ⟨fun x h => (by cases h), trivial, rtyn454_ok⟩
theorem rtyn70_ok : AllT (fun t ti => tiOf Tryz.prog t = some ti) rtyn70 64 70 := ⟨fun x h => (by cases h), trivial, rtyn198_ok⟩
theorem rtyn102_ok : AllT (fun t ti => tiOf Tryz.prog t = some ti) rtyn102 64 102 := ⟨fun x h => (by cases h; kernel_rfl), trivial, trivial⟩
theorem rtyn38_ok : AllT (fun t ti => tiOf Tryz.prog t = some ti) rtyn38 32 38 := ⟨fun x h => (by cases h), rtyn70_ok, rtyn102_ok⟩
theorem rtyn662_ok : AllT (fun t ti => tiOf Tryz.prog t = some ti) rtyn662 512 662 := ⟨fun x h => (by cases h; kernel_rfl), trivial, trivial⟩
theorem rtyn406_ok : AllT (fun t ti => tiOf Tryz.prog t = some ti) rtyn406 256 406 := ⟨fun x h => (by cases h), rtyn662_ok, trivial⟩
theorem rtyn150_ok : AllT (fun t ti => tiOf Tryz.prog t = some ti) rtyn150 128 150 := ⟨fun x h => (by cases h), trivial, rtyn406_ok⟩
theorem rtyn86_ok : AllT (fun t ti => tiOf Tryz.prog t = some ti) rtyn86 64 86 := ⟨fun x h => (by cases h; kernel_rfl), rtyn150_ok, trivial⟩
theorem rtyn566_ok : AllT (fun t ti => tiOf Tryz.prog t = some ti) rtyn566 512 566 := ⟨fun x h => (by cases h; kernel_rfl), trivial, trivial⟩
theorem rtyn310_ok : AllT (fun t ti => tiOf Tryz.prog t = some ti) rtyn310 256 310 := ⟨fun x h => (by cases h), rtyn566_ok, trivial⟩
theorem rtyn182_ok : AllT (fun t ti => tiOf Tryz.prog t = some ti) rtyn182 128 182 := ⟨fun x h => (by cases h; kernel_rfl), rtyn310_ok, trivial⟩
theorem rtyn118_ok : AllT (fun t ti => tiOf Tryz.prog t = some ti) rtyn118 64 118 := ⟨fun x h => (by cases h), rtyn182_ok, trivial⟩
theorem rtyn54_ok : AllT (fun t ti => tiOf Tryz.prog t = some ti) rtyn54 32 54 := ⟨fun x h => (by cases h; kernel_rfl), rtyn86_ok, rtyn118_ok⟩
theorem rtyn22_ok : AllT (fun t ti => tiOf Tryz.prog t = some ti) rtyn22 16 22 := ⟨fun x h => (by cases h; kernel_rfl), rtyn38_ok, rtyn54_ok⟩
theorem rtyn270_ok : AllT (fun t ti => tiOf Tryz.prog t = some ti) rtyn270 256 270 := ⟨fun x h => (by cases h; kernel_rfl), trivial, trivial⟩
theorem rtyn654_ok : AllT (fun t ti => tiOf Tryz.prog t = some ti) rtyn654 512 654 := ⟨fun x h => (by cases h; kernel_rfl), trivial, trivial⟩
theorem rtyn398_ok : AllT (fun t ti => tiOf Tryz.prog t = some ti) rtyn398 256 398 := ⟨fun x h => (by cases h), rtyn654_ok, trivial⟩
theorem rtyn142_ok : AllT (fun t ti => tiOf Tryz.prog t = some ti) rtyn142 128 142 := ⟨fun x h => (by cases h), rtyn270_ok, rtyn398_ok⟩
theorem rtyn462_ok : AllT (fun t ti => tiOf Tryz.prog t = some ti) rtyn462 256 462 := ⟨fun x h => (by cases h; kernel_rfl), trivial, trivial⟩
theorem rtyn206_ok : AllT (fun t ti => tiOf Tryz.prog t = some ti) rtyn206 128 206 := ⟨fun x h => (by cases h), trivial, rtyn462_ok⟩
theorem rtyn78_ok : AllT (fun t ti => tiOf Tryz.prog t = some ti) rtyn78 64 78 := ⟨fun x h => (by cases h), rtyn142_ok, rtyn206_ok⟩
theorem rtyn558_ok : AllT (fun t ti => tiOf Tryz.prog t = some ti) rtyn558 512 558 := ⟨fun x h => (by cases h; kernel_rfl), trivial, trivial⟩
theorem rtyn302_ok : AllT (fun t ti => tiOf Tryz.prog t = some ti) rtyn302 256 302 := ⟨fun x h => (by cases h), rtyn558_ok, trivial⟩
theorem rtyn174_ok : AllT (fun t ti => tiOf Tryz.prog t = some ti) rtyn174 128 174 := ⟨fun x h => (by cases h), rtyn302_ok, trivial⟩
theorem rtyn366_ok : AllT (fun t ti => tiOf Tryz.prog t = some ti) rtyn366 256 366 := ⟨fun x h => (by cases h; kernel_rfl), trivial, trivial⟩
theorem rtyn238_ok : AllT (fun t ti => tiOf Tryz.prog t = some ti) rtyn238 128 238 := ⟨fun x h => (by cases h), rtyn366_ok, trivial⟩
theorem rtyn110_ok : AllT (fun t ti => tiOf Tryz.prog t = some ti) rtyn110 64 110 := ⟨fun x h => (by cases h), rtyn174_ok, rtyn238_ok⟩
theorem rtyn46_ok : AllT (fun t ti => tiOf Tryz.prog t = some ti) rtyn46 32 46 := ⟨fun x h => (by cases h), rtyn78_ok, rtyn110_ok⟩
theorem rtyn478_ok : AllT (fun t ti => tiOf Tryz.prog t = some ti) rtyn478 256 478 := ⟨fun x h => (by cases h; kernel_rfl), trivial, trivial⟩
theorem rtyn222_ok : AllT (fun t ti => tiOf Tryz.prog t = some ti) rtyn222 128 222 := ⟨fun x h => (by cases h), trivial, rtyn478_ok⟩
theorem rtyn94_ok : AllT (fun t ti => tiOf Tryz.prog t = some ti) rtyn94 64 94 := ⟨fun x h => (by cases h), trivial, rtyn222_ok⟩
theorem rtyn126_ok : AllT (fun t ti => tiOf Tryz.prog t = some ti) rtyn126 64 126 := ⟨fun x h => (by cases h; kernel_rfl), trivial, trivial⟩
theorem rtyn62_ok : AllT (fun t ti => tiOf Tryz.prog t = some ti) rtyn62 32 62 := ⟨fun x h => (by cases h; kernel_rfl), rtyn94_ok, rtyn126_ok⟩
theorem rtyn30_ok : AllT (fun t ti => tiOf Tryz.prog t = some ti) rtyn30 16 30 := ⟨fun x h => (by cases h), rtyn46_ok, rtyn62_ok⟩
theorem rtyn14_ok : AllT (fun t ti => tiOf Tryz.prog t = some ti) rtyn14 8 14 := ⟨fun x h => (by cases h), rtyn22_ok, rtyn30_ok⟩
theorem rtyn6_ok : AllT (fun t ti => tiOf Tryz.prog t = some ti) rtyn6 4 6 := ⟨fun x h => (by cases h), rtyn10_ok, rtyn14_ok⟩
theorem rtyn2_ok : AllT (fun t ti => tiOf Tryz.prog t = some ti) rtyn2 2 2 := ⟨fun x h => (by cases h; kernel_rfl), rtyn4_ok, rtyn6_ok⟩
theorem rtyn0_ok : AllT (fun t ti => tiOf Tryz.prog t = some ti) rtyn0 1 0 := ⟨fun x h => (by cases h), rtyn1_ok, rtyn2_ok⟩
theorem rfnn383_ok : AllT (fun f F => Tryz.prog.funcs[f]? = some F ∧ (F.name == "runtime.NumGoroutine") = false) rfnn383 256 383 := ⟨fun x h => (by cases h; exact ⟨Tryz.func383, by kernel_rfl⟩), trivial, trivial⟩
theorem rfnn127_ok : AllT (fun f F => Tryz.prog.funcs[f]? = some F ∧ (F.name == "runtime.NumGoroutine") = false) rfnn127 128 127 := ⟨fun x h => (by cases h), trivial, rfnn383_ok⟩
theorem rfnn63_ok : AllT (fun f F => Tryz.prog.funcs[f]? = some F ∧ (F.name == "runtime.NumGoroutine") = false) rfnn63 64 63 := ⟨fun x h => (by cases h), rfnn127_ok, trivial⟩
theorem rfnn543_ok : AllT (fun f F => Tryz.prog.funcs[f]? = some F ∧ (F.name == "runtime.NumGoroutine") = false) rfnn543 512 543 := ⟨fun x h => (by cases h; exact ⟨Tryz.func543, by kernel_rfl⟩), trivial, trivial⟩
theorem rfnn287_ok : AllT (fun f F => Tryz.prog.funcs[f]? = some F ∧ (F.name == "runtime.NumGoroutine") = false) rfnn287 256 287 := ⟨fun x h => (by cases h; exact ⟨Tryz.func287, by kernel_rfl⟩), rfnn543_ok, trivial⟩
theorem rfnn671_ok : AllT (fun f F => Tryz.prog.funcs[f]? = some F ∧ (F.name == "runtime.NumGoroutine") = false) rfnn671 512 671 := ⟨fun x h => (by cases h; exact ⟨Tryz.func671, by kernel_rfl⟩), trivial, trivial⟩
theorem rfnn415_ok : AllT (fun f F => Tryz.prog.funcs[f]? = some F ∧ (F.name == "runtime.NumGoroutine") = false) rfnn415 256 415 := ⟨fun x h => (by cases h; exact ⟨Tryz.func415, by kernel_rfl⟩), rfnn671_ok, trivial⟩
theorem rfnn159_ok : AllT (fun f F => Tryz.prog.funcs[f]? = some F ∧ (F.name == "runtime.NumGoroutine") = false) rfnn159 128 159 := ⟨fun x h => (by cases h; exact ⟨Tryz.func159, by kernel_rfl⟩), rfnn287_ok, rfnn415_ok⟩
theorem rfnn479_ok : AllT (fun f F => Tryz.prog.funcs[f]? = some F ∧ (F.name == "runtime.NumGoroutine") = false) rfnn479 256 479 := ⟨fun x h => (by cases h; exact ⟨Tryz.func479, by kernel_rfl⟩), trivial, trivial⟩
theorem rfnn223_ok : AllT (fun f F => Tryz.prog.funcs[f]? = some F ∧ (F.name == "runtime.NumGoroutine") = false) rfnn223 128 223 := ⟨fun x h => (by cases h; exact ⟨Tryz.func223, by kernel_rfl⟩), trivial, rfnn479_ok⟩
theorem rfnn95_ok : AllT (fun f F => Tryz.prog.funcs[f]? = some F ∧ (F.name == "runtime.NumGoroutine") = false) rfnn95 64 95 := ⟨fun x h => (by cases h), rfnn159_ok, rfnn223_ok⟩
theorem rfnn31_ok : AllT (fun f F => Tryz.prog.funcs[f]? = some F ∧ (F.name == "runtime.NumGoroutine") = false) rfnn31 32 31 := ⟨fun x h => (by cases h; exact ⟨Tryz.func31, by kernel_rfl⟩), rfnn63_ok, rfnn95_ok⟩
theorem rfnn527_ok : AllT (fun f F => Tryz.prog.funcs[f]? = some F ∧ (F.name == "runtime.NumGoroutine") = false) rfnn527 512 527 := ⟨fun x h => (by cases h; exact ⟨Tryz.func527, by kernel_rfl⟩), trivial, trivial⟩
theorem rfnn271_ok : AllT (fun f F => Tryz.prog.funcs[f]? = some F ∧ (F.name == "runtime.NumGoroutine") = false) rfnn271 256 271 := ⟨fun x h => (by cases h), rfnn527_ok, trivial⟩
theorem rfnn655_ok : AllT (fun f F => Tryz.prog.funcs[f]? = some F ∧ (F.name == "runtime.NumGoroutine") = false) rfnn655 512 655 := ⟨fun x h => (by cases h; exact ⟨Tryz.func655, by kernel_rfl⟩), trivial, trivial⟩
theorem rfnn399_ok : AllT (fun f F => Tryz.prog.funcs[f]? = some F ∧ (F.name == "runtime.NumGoroutine") = false) rfnn399 256 399 := ⟨fun x h => (by cases h), rfnn655_ok, trivial⟩
theorem rfnn143_ok : AllT (fun f F => Tryz.prog.funcs[f]? = some F ∧ (F.name == "runtime.NumGoroutine") = false) rfnn143 128 143 := ⟨fun x h => (by cases h; exact ⟨Tryz.func143, by kernel_rfl⟩), rfnn271_ok, rfnn399_ok⟩
theorem rfnn207_ok : AllT (fun f F => Tryz.prog.funcs[f]? = some F ∧ (F.name == "runtime.NumGoroutine") = false) rfnn207 128 207 := ⟨fun x h => (by cases h; exact ⟨Tryz.func207, by kernel_rfl⟩), trivial, trivial⟩
theorem rfnn79_ok : AllT (fun f F => Tryz.prog.funcs[f]? = some F ∧ (F.name == "runtime.NumGoroutine") = false) rfnn79 64 79 := ⟨fun x h => (by cases h; exact ⟨Tryz.func79, by kernel_rfl⟩), rfnn143_ok, rfnn207_ok⟩
theorem rfnn559_ok : AllT (fun f F => Tryz.prog.funcs[f]? = some F ∧ (F.name == "runtime.NumGoroutine") = false) rfnn559 512 559 := ⟨fun x h => (by cases h; exact ⟨Tryz.func559, by kernel_rfl⟩), trivial, trivial⟩
theorem rfnn303_ok : AllT (fun f F => Tryz.prog.funcs[f]? = some F ∧ (F.name == "runtime.NumGoroutine") = false) rfnn303 256 303 := ⟨fun x h => (by cases h), rfnn559_ok, trivial⟩
theorem rfnn175_ok : AllT (fun f F => Tryz.prog.funcs[f]? = some F ∧ (F.name == "runtime.NumGoroutine") = false) rfnn175 128 175 := ⟨fun x h => (by cases h; exact ⟨Tryz.func175, by kernel_rfl⟩), rfnn303_ok, trivial⟩
theorem rfnn623_ok : AllT (fun f F => Tryz.prog.funcs[f]? = some F ∧ (F.name == "runtime.NumGoroutine") = false) rfnn623 512 623 := ⟨fun x h => (by cases h; exact ⟨Tryz.func623, by kernel_rfl⟩), trivial, trivial⟩
theorem rfnn367_ok : AllT (fun f F => Tryz.prog.funcs[f]? = some F ∧ (F.name == "runtime.NumGoroutine") = false) rfnn367 256 367 := ⟨fun x h => (by cases h; exact ⟨Tryz.func367, by kernel_rfl⟩), rfnn623_ok, trivial⟩
theorem rfnn495_ok : AllT (fun f F => Tryz.prog.funcs[f]? = some F ∧ (F.name == "runtime.NumGoroutine") = false) rfnn495 256 495 := ⟨fun x h => (by cases h; exact ⟨Tryz.func495, by kernel_rfl⟩), trivial, trivial⟩
theorem rfnn239_ok : AllT (fun f F => Tryz.prog.funcs[f]? = some F ∧ (F.name == "runtime.NumGoroutine") = false) rfnn239 128 239 := ⟨fun x h => (by cases h), rfnn367_ok, rfnn495_ok⟩
theorem rfnn111_ok : AllT (fun f F => Tryz.prog.funcs[f]? = some F ∧ (F.name == "runtime.NumGoroutine") = false) rfnn111 64 111 := ⟨fun x h => (by cases h; exact ⟨Tryz.func111, by kernel_rfl⟩), rfnn175_ok, rfnn239_ok⟩
theorem rfnn47_ok : AllT (fun f F => Tryz.prog.funcs[f]? = some F ∧ (F.name == "runtime.NumGoroutine") = false) rfnn47 32 47 := ⟨fun x h => (by cases h; exact ⟨Tryz.func47, by kernel_rfl⟩), rfnn79_ok, rfnn111_ok⟩
theorem rfnn15_ok : AllT (fun f F => Tryz.prog.funcs[f]? = some F ∧ (F.name == "runtime.NumGoroutine") = false) rfnn15 16 15 := ⟨fun x h => (by cases h; exact ⟨Tryz.func15, by kernel_rfl⟩), rfnn31_ok, rfnn47_ok⟩
theorem rfnn519_ok : AllT (fun f F => Tryz.prog.funcs[f]? = some F ∧ (F.name == "runtime.NumGoroutine") = false) rfnn519 512 519 := ⟨fun x h => (by cases h; exact ⟨Tryz.func519, by kernel_rfl⟩), trivial, trivial⟩
theorem rfnn263_ok : AllT (fun f F => Tryz.prog.funcs[f]? = some F ∧ (F.name == "runtime.NumGoroutine") = false) rfnn263 256 263 := ⟨fun x h => (by cases h), rfnn519_ok, trivial⟩
theorem rfnn647_ok : AllT (fun f F => Tryz.prog.funcs[f]? = some F ∧ (F.name == "runtime.NumGoroutine") = false) rfnn647 512 647 := ⟨fun x h => (by cases h; exact ⟨Tryz.func647, by kernel_rfl⟩), trivial, trivial⟩
theorem rfnn391_ok : AllT (fun f F => Tryz.prog.funcs[f]? = some F ∧ (F.name == "runtime.NumGoroutine") = false) rfnn391 256 391 := ⟨fun x h => (by cases h; exact ⟨Tryz.func391, by kernel_rfl⟩), rfnn647_ok, trivial⟩
theorem rfnn135_ok : AllT (fun f F => Tryz.prog.funcs[f]? = some F ∧ (F.name == "runtime.NumGoroutine") = false) rfnn135 128 135 := ⟨fun x h => (by cases h), rfnn263_ok, rfnn391_ok⟩
theorem rfnn71_ok : AllT (fun f F => Tryz.prog.funcs[f]? = some F ∧ (F.name == "runtime.NumGoroutine") = false) rfnn71 64 71 := ⟨fun x h => (by cases h), rfnn135_ok, trivial⟩
theorem rfnn295_ok : AllT (fun f F => Tryz.prog.funcs[f]? = some F ∧ (F.name == "runtime.NumGoroutine") = false) rfnn295 256 295 := ⟨fun x h => (by cases h; exact ⟨Tryz.func295, by kernel_rfl⟩), trivial, trivial⟩
theorem rfnn679_ok : AllT (fun f F => Tryz.prog.funcs[f]? = some F ∧ (F.name == "runtime.NumGoroutine") = false) rfnn679 512 679 := ⟨fun x h => (by cases h; exact ⟨Tryz.func679, by kernel_rfl⟩), trivial, trivial⟩
theorem rfnn423_ok : AllT (fun f F => Tryz.prog.funcs[f]? = some F ∧ (F.name == "runtime.NumGoroutine") = false) rfnn423 256 423 := ⟨fun x h => (by cases h; exact ⟨Tryz.func423, by kernel_rfl⟩), rfnn679_ok, trivial⟩
theorem rfnn167_ok : AllT (fun f F => Tryz.prog.funcs[f]? = some F ∧ (F.name == "runtime.NumGoroutine") = false) rfnn167 128 167 := ⟨fun x h => (by cases h; exact ⟨Tryz.func167, by kernel_rfl⟩), rfnn295_ok, rfnn423_ok⟩
theorem rfnn359_ok : AllT (fun f F => Tryz.prog.funcs[f]? = some F ∧ (F.name == "runtime.NumGoroutine") = false) rfnn359 256 359 := ⟨fun x h => (by cases h; exact ⟨Tryz.func359, by kernel_rfl⟩), trivial, trivial⟩
theorem rfnn231_ok : AllT (fun f F => Tryz.prog.funcs[f]? = some F ∧ (F.name == "runtime.NumGoroutine") = false) rfnn231 128 231 := ⟨fun x h => (by cases h; exact ⟨Tryz.func231, by kernel_rfl⟩), rfnn359_ok, trivial⟩
theorem rfnn103_ok : AllT (fun f F => Tryz.prog.funcs[f]? = some F ∧ (F.name == "runtime.NumGoroutine") = false) rfnn103 64 103 := ⟨fun x h => (by cases h; exact ⟨Tryz.func103, by kernel_rfl⟩), rfnn167_ok, rfnn231_ok⟩
theorem rfnn39_ok : AllT (fun f F => Tryz.prog.funcs[f]? = some F ∧ (F.name == "runtime.NumGoroutine") = false) rfnn39 32 39 := ⟨fun x h => (by cases h; exact ⟨Tryz.func39, by kernel_rfl⟩), rfnn71_ok, rfnn103_ok⟩
theorem rfnn279_ok : AllT (fun f F => Tryz.prog.funcs[f]? = some F ∧ (F.name == "runtime.NumGoroutine") = false) rfnn279 256 279 := ⟨fun x h => (by cases h; exact ⟨Tryz.func279, by kernel_rfl⟩), trivial, trivial⟩
theorem rfnn663_ok : AllT (fun f F => Tryz.prog.funcs[f]? = some F ∧ (F.name == "runtime.NumGoroutine") = false) rfnn663 512 663 := ⟨fun x h => (by cases h; exact ⟨Tryz.func663, by kernel_rfl⟩), trivial, trivial⟩
theorem rfnn407_ok : AllT (fun f F => Tryz.prog.funcs[f]? = some F ∧ (F.name == "runtime.NumGoroutine") = false) rfnn407 256 407 := ⟨fun x h => (by cases h; exact ⟨Tryz.func407, by kernel_rfl⟩), rfnn663_ok, trivial⟩
theorem rfnn151_ok : AllT (fun f F => Tryz.prog.funcs[f]? = some F ∧ (F.name == "runtime.NumGoroutine") = false) rfnn151 128 151 := ⟨fun x h => (by cases h; exact ⟨Tryz.func151, by kernel_rfl⟩), rfnn279_ok, rfnn407_ok⟩
theorem rfnn599_ok : AllT (fun f F => Tryz.prog.funcs[f]? = some F ∧ (F.name == "runtime.NumGoroutine") = false) rfnn599 512 599 := ⟨fun x h => (by cases h; exact ⟨Tryz.func599, by kernel_rfl⟩), trivial, trivial⟩
theorem rfnn343_ok : AllT (fun f F => Tryz.prog.funcs[f]? = some F ∧ (F.name == "runtime.NumGoroutine") = false) rfnn343 256 343 := ⟨fun x h => (by cases h), rfnn599_ok, trivial⟩
theorem rfnn215_ok : AllT (fun f F => Tryz.prog.funcs[f]? = some F ∧ (F.name == "runtime.NumGoroutine") = false) rfnn215 128 215 := ⟨fun x h => (by cases h; exact ⟨Tryz.func215, by kernel_rfl⟩), rfnn343_ok, trivial⟩
theorem rfnn87_ok : AllT (fun f F => Tryz.prog.funcs[f]? = some F ∧ (F.name == "runtime.NumGoroutine") = false) rfnn87 64 87 := ⟨fun x h => (by cases h), rfnn151_ok, rfnn215_ok⟩
theorem rfnn311_ok : AllT (fun f F => Tryz.prog.funcs[f]? = some F ∧ (F.name == "runtime.NumGoroutine") = false) rfnn311 256 311 := ⟨fun x h => (by cases h; exact ⟨Tryz.func311, by kernel_rfl⟩), trivial, trivial⟩
theorem rfnn183_ok : AllT (fun f F => Tryz.prog.funcs[f]? = some F ∧ (F.name == "runtime.NumGoroutine") = false) rfnn183 128 183 := ⟨fun x h => (by cases h), rfnn311_ok, trivial⟩
theorem rfnn119_ok : AllT (fun f F => Tryz.prog.funcs[f]? = some F ∧ (F.name == "runtime.NumGoroutine") = false) rfnn119 64 119 := ⟨fun x h => (by cases h; exact ⟨Tryz.func119, by kernel_rfl⟩), rfnn183_ok, trivial⟩
theorem rfnn55_ok : AllT (fun f F => Tryz.prog.funcs[f]? = some F ∧ (F.name == "runtime.NumGoroutine") = false) rfnn55 32 55 := ⟨fun x h => (by cases h), rfnn87_ok, rfnn119_ok⟩
theorem rfnn23_ok : AllT (fun f F => Tryz.prog.funcs[f]? = some F ∧ (F.name == "runtime.NumGoroutine") = false) rfnn23 16 23 := ⟨fun x h => (by cases h; exact ⟨Tryz.func23, by kernel_rfl⟩), rfnn39_ok, rfnn55_ok⟩
theorem rfnn7_ok : AllT (fun f F => Tryz.prog.funcs[f]? = some F ∧ (F.name == "runtime.NumGoroutine") = false) rfnn7 8 7 := ⟨fun x h => (by cases h; exact ⟨Tryz.func7, by kernel_rfl⟩), rfnn15_ok, rfnn23_ok⟩
theorem rfnn515_ok : AllT (fun f F => Tryz.prog.funcs[f]? = some F ∧ (F.name == "runtime.NumGoroutine") = false) rfnn515 512 515 := ⟨fun x h => (by cases h; exact ⟨Tryz.func515, by kernel_rfl⟩), trivial, trivial⟩
theorem rfnn259_ok : AllT (fun f F => Tryz.prog.funcs[f]? = some F ∧ (F.name == "runtime.NumGoroutine") = false) rfnn259 256 259 := ⟨fun x h => (by cases h), rfnn515_ok, trivial⟩
theorem rfnn643_ok : AllT (fun f F => Tryz.prog.funcs[f]? = some F ∧ (F.name == "runtime.NumGoroutine") = false) rfnn643 512 643 := ⟨fun x h => (by cases h; exact ⟨Tryz.func643, by kernel_rfl⟩), trivial, trivial⟩
theorem rfnn387_ok : AllT (fun f F => Tryz.prog.funcs[f]? = some F ∧ (F.name == "runtime.NumGoroutine") = false) rfnn387 256 387 := ⟨fun x h => (by cases h), rfnn643_ok, trivial⟩
theorem rfnn131_ok : AllT (fun f F => Tryz.prog.funcs[f]? = some F ∧ (F.name == "runtime.NumGoroutine") = false) rfnn131 128 131 := ⟨fun x h => (by cases h), rfnn259_ok, rfnn387_ok⟩
theorem rfnn579_ok : AllT (fun f F => Tryz.prog.funcs[f]? = some F ∧ (F.name == "runtime.NumGoroutine") = false) rfnn579 512 579 := ⟨fun x h => (by cases h; exact ⟨Tryz.func579, by kernel_rfl⟩), trivial, trivial⟩
theorem rfnn323_ok : AllT (fun f F => Tryz.prog.funcs[f]? = some F ∧ (F.name == "runtime.NumGoroutine") = false) rfnn323 256 323 := ⟨fun x h => (by cases h), rfnn579_ok, trivial⟩
theorem rfnn451_ok : AllT (fun f F => Tryz.prog.funcs[f]? = some F ∧ (F.name == "runtime.NumGoroutine") = false) rfnn451 256 451 := ⟨fun x h => (by cases h; exact ⟨Tryz.func451, by kernel_rfl⟩), trivial, trivial⟩
theorem rfnn195_ok : AllT (fun f F => Tryz.prog.funcs[f]? = some F ∧ (F.name == "runtime.NumGoroutine") = false) rfnn195 128 195 := ⟨fun x h => (by cases h), rfnn323_ok, rfnn451_ok⟩
theorem rfnn67_ok : AllT (fun f F => Tryz.prog.funcs[f]? = some F ∧ (F.name == "runtime.NumGoroutine") = false) rfnn67 64 67 := ⟨fun x h => (by cases h; exact ⟨Tryz.func67, by kernel_rfl⟩), rfnn131_ok, rfnn195_ok⟩
theorem rfnn291_ok : AllT (fun f F => Tryz.prog.funcs[f]? = some F ∧ (F.name == "runtime.NumGoroutine") = false) rfnn291 256 291 := ⟨fun x h => (by cases h; exact ⟨Tryz.func291, by kernel_rfl⟩), trivial, trivial⟩
theorem rfnn675_ok : AllT (fun f F => Tryz.prog.funcs[f]? = some F ∧ (F.name == "runtime.NumGoroutine") = false) rfnn675 512 675 := ⟨fun x h => (by cases h; exact ⟨Tryz.func675, by kernel_rfl⟩), trivial, trivial⟩
theorem rfnn419_ok : AllT (fun f F => Tryz.prog.funcs[f]? = some F ∧ (F.name == "runtime.NumGoroutine") = false) rfnn419 256 419 := ⟨fun x h => (by cases h; exact ⟨Tryz.func419, by kernel_rfl⟩), rfnn675_ok, trivial⟩
theorem rfnn163_ok : AllT (fun f F => Tryz.prog.funcs[f]? = some F ∧ (F.name == "runtime.NumGoroutine") = false) rfnn163 128 163 := ⟨fun x h => (by cases h), rfnn291_ok, rfnn419_ok⟩
theorem rfnn611_ok : AllT (fun f F => Tryz.prog.funcs[f]? = some F ∧ (F.name == "runtime.NumGoroutine") = false) rfnn611 512 611 := ⟨fun x h => (by cases h; exact ⟨Tryz.func611, by kernel_rfl⟩), trivial, trivial⟩
theorem rfnn355_ok : AllT (fun f F => Tryz.prog.funcs[f]? = some F ∧ (F.name == "runtime.NumGoroutine") = false) rfnn355 256 355 := ⟨fun x h => (by cases h; exact ⟨Tryz.func355, by kernel_rfl⟩), rfnn611_ok, trivial⟩
theorem rfnn483_ok : AllT (fun f F => Tryz.prog.funcs[f]? = some F ∧ (F.name == "runtime.NumGoroutine") = false) rfnn483 256 483 := ⟨fun x h => (by cases h; exact ⟨Tryz.func483, by kernel_rfl⟩), trivial, trivial⟩
theorem rfnn227_ok : AllT (fun f F => Tryz.prog.funcs[f]? = some F ∧ (F.name == "runtime.NumGoroutine") = false) rfnn227 128 227 := ⟨fun x h => (by cases h), rfnn355_ok, rfnn483_ok⟩
theorem rfnn99_ok : AllT (fun f F => Tryz.prog.funcs[f]? = some F ∧ (F.name == "runtime.NumGoroutine") = false) rfnn99 64 99 := ⟨fun x h => (by cases h; exact ⟨Tryz.func99, by kernel_rfl⟩), rfnn163_ok, rfnn227_ok⟩
theorem rfnn35_ok : AllT (fun f F => Tryz.prog.funcs[f]? = some F ∧ (F.name == "runtime.NumGoroutine") = false) rfnn35 32 35 := ⟨fun x h => (by cases h), rfnn67_ok, rfnn99_ok⟩
theorem rfnn659_ok : AllT (fun f F => Tryz.prog.funcs[f]? = some F ∧ (F.name == "runtime.NumGoroutine") = false) rfnn659 512 659 := ⟨fun x h => (by cases h; exact ⟨Tryz.func659, by kernel_rfl⟩), trivial, trivial⟩
theorem rfnn403_ok : AllT (fun f F => Tryz.prog.funcs[f]? = some F ∧ (F.name == "runtime.NumGoroutine") = false) rfnn403 256 403 := ⟨fun x h => (by cases h), rfnn659_ok, trivial⟩
theorem rfnn147_ok : AllT (fun f F => Tryz.prog.funcs[f]? = some F ∧ (F.name == "runtime.NumGoroutine") = false) rfnn147 128 147 := ⟨fun x h => (by cases h; exact ⟨Tryz.func147, by kernel_rfl⟩), trivial, rfnn403_ok⟩
theorem rfnn211_ok : AllT (fun f F => Tryz.prog.funcs[f]? = some F ∧ (F.name == "runtime.NumGoroutine") = false) rfnn211 128 211 := ⟨fun x h => (by cases h; exact ⟨Tryz.func211, by kernel_rfl⟩), trivial, trivial⟩
theorem rfnn83_ok : AllT (fun f F => Tryz.prog.funcs[f]? = some F ∧ (F.name == "runtime.NumGoroutine") = false) rfnn83 64 83 := ⟨fun x h => (by cases h; exact ⟨Tryz.func83, by kernel_rfl⟩), rfnn147_ok, rfnn211_ok⟩
theorem rfnn563_ok : AllT (fun f F => Tryz.prog.funcs[f]? = some F ∧ (F.name == "runtime.NumGoroutine") = false) rfnn563 512 563 := ⟨fun x h => (by cases h; exact ⟨Tryz.func563, by kernel_rfl⟩), trivial, trivial⟩
theorem rfnn307_ok : AllT (fun f F => Tryz.prog.funcs[f]? = some F ∧ (F.name == "runtime.NumGoroutine") = false) rfnn307 256 307 := ⟨fun x h => (by cases h; exact ⟨Tryz.func307, by kernel_rfl⟩), rfnn563_ok, trivial⟩
theorem rfnn179_ok : AllT (fun f F => Tryz.prog.funcs[f]? = some F ∧ (F.name == "runtime.NumGoroutine") = false) rfnn179 128 179 := ⟨fun x h => (by cases h; exact ⟨Tryz.func179, by kernel_rfl⟩), rfnn307_ok, trivial⟩
theorem rfnn371_ok : AllT (fun f F => Tryz.prog.funcs[f]? = some F ∧ (F.name == "runtime.NumGoroutine") = false) rfnn371 256 371 := ⟨fun x h => (by cases h; exact ⟨Tryz.func371, by kernel_rfl⟩), trivial, trivial⟩
theorem rfnn499_ok : AllT (fun f F => Tryz.prog.funcs[f]? = some F ∧ (F.name == "runtime.NumGoroutine") = false) rfnn499 256 499 := ⟨fun x h => (by cases h; exact ⟨Tryz.func499, by kernel_rfl⟩), trivial, trivial⟩
theorem rfnn243_ok : AllT (fun f F => Tryz.prog.funcs[f]? = some F ∧ (F.name == "runtime.NumGoroutine") = false) rfnn243 128 243 := ⟨fun x h => (by cases h), rfnn371_ok, rfnn499_ok⟩
theorem rfnn115_ok : AllT (fun f F => Tryz.prog.funcs[f]? = some F ∧ (F.name == "runtime.NumGoroutine") = false) rfnn115 64 115 := ⟨fun x h => (by cases h; exact ⟨Tryz.func115, by kernel_rfl⟩), rfnn179_ok, rfnn243_ok⟩
theorem rfnn51_ok : AllT (fun f F => Tryz.prog.funcs[f]? = some F ∧ (F.name == "runtime.NumGoroutine") = false) rfnn51 32 51 := ⟨fun x h => (by cases h; exact ⟨Tryz.func51, by kernel_rfl⟩), rfnn83_ok, rfnn115_ok⟩
theorem rfnn19_ok : AllT (fun f F => Tryz.prog.funcs[f]? = some F ∧ (F.name == "runtime.NumGoroutine") = false) rfnn19 16 19 := ⟨fun x h => (by cases h; exact ⟨Tryz.func19, by kernel_rfl⟩), rfnn35_ok, rfnn51_ok⟩
theorem rfnn523_ok : AllT (fun f F => Tryz.prog.funcs[f]? = some F ∧ (F.name == "runtime.NumGoroutine") = false) rfnn523 512 523 := ⟨fun x h => (by cases h; exact ⟨Tryz.func523, by kernel_rfl⟩), trivial, trivial⟩
theorem rfnn267_ok : AllT (fun f F => Tryz.prog.funcs[f]? = some F ∧ (F.name == "runtime.NumGoroutine") = false) rfnn267 256 267 := ⟨fun x h => (by cases h), rfnn523_ok, trivial⟩
theorem rfnn651_ok : AllT (fun f F => Tryz.prog.funcs[f]? = some F ∧ (F.name == "runtime.NumGoroutine") = false) rfnn651 512 651 := ⟨fun x h => (by cases h; exact ⟨Tryz.func651, by kernel_rfl⟩), trivial, trivial⟩
theorem rfnn395_ok : AllT (fun f F => Tryz.prog.funcs[f]? = some F ∧ (F.name == "runtime.NumGoroutine") = false) rfnn395 256 395 := ⟨fun x h => (by cases h), rfnn651_ok, trivial⟩
theorem rfnn139_ok : AllT (fun f F => Tryz.prog.funcs[f]? = some F ∧ (F.name == "runtime.NumGoroutine") = false) rfnn139 128 139 := ⟨fun x h => (by cases h; exact ⟨Tryz.func139, by kernel_rfl⟩), rfnn267_ok, rfnn395_ok⟩
theorem rfnn587_ok : AllT (fun f F => Tryz.prog.funcs[f]? = some F ∧ (F.name == "runtime.NumGoroutine") = false) rfnn587 512 587 := ⟨fun x h => (by cases h; exact ⟨Tryz.func587, by kernel_rfl⟩), trivial, trivial⟩
theorem rfnn331_ok : AllT (fun f F => Tryz.prog.funcs[f]? = some F ∧ (F.name == "runtime.NumGoroutine") = false) rfnn331 256 331 := ⟨fun x h => (by cases h; exact ⟨Tryz.func331, by kernel_rfl⟩), rfnn587_ok, trivial⟩
theorem rfnn203_ok : AllT (fun f F => Tryz.prog.funcs[f]? = some F ∧ (F.name == "runtime.NumGoroutine") = false) rfnn203 128 203 := ⟨fun x h => (by cases h; exact ⟨Tryz.func203, by kernel_rfl⟩), rfnn331_ok, trivial⟩
theorem rfnn75_ok : AllT (fun f F => Tryz.prog.funcs[f]? = some F ∧ (F.name == "runtime.NumGoroutine") = false) rfnn75 64 75 := ⟨fun x h => (by cases h; exact ⟨Tryz.func75, by kernel_rfl⟩), rfnn139_ok, rfnn203_ok⟩
theorem rfnn299_ok : AllT (fun f F => Tryz.prog.funcs[f]? = some F ∧ (F.name == "runtime.NumGoroutine") = false) rfnn299 256 299 := ⟨fun x h => (by cases h; exact ⟨Tryz.func299, by kernel_rfl⟩), trivial, trivial⟩
theorem rfnn171_ok : AllT (fun f F => Tryz.prog.funcs[f]? = some F ∧ (F.name == "runtime.NumGoroutine") = false) rfnn171 128 171 := ⟨fun x h => (by cases h; exact ⟨Tryz.func171, by kernel_rfl⟩), rfnn299_ok, trivial⟩
theorem rfnn619_ok : AllT (fun f F => Tryz.prog.funcs[f]? = some F ∧ (F.name == "runtime.NumGoroutine") = false) rfnn619 512 619 := ⟨fun x h => (by cases h; exact ⟨Tryz.func619, by kernel_rfl⟩), trivial, trivial⟩
theorem rfnn363_ok : AllT (fun f F => Tryz.prog.funcs[f]? = some F ∧ (F.name == "runtime.NumGoroutine") = false) rfnn363 256 363 := ⟨fun x h => (by cases h), rfnn619_ok, trivial⟩
theorem rfnn491_ok : AllT (fun f F => Tryz.prog.funcs[f]? = some F ∧ (F.name == "runtime.NumGoroutine") = false) rfnn491 256 491 := ⟨fun x h => (by cases h; exact ⟨Tryz.func491, by kernel_rfl⟩), trivial, trivial⟩
theorem rfnn235_ok : AllT (fun f F => Tryz.prog.funcs[f]? = some F ∧ (F.name == "runtime.NumGoroutine") = false) rfnn235 128 235 := ⟨fun x h => (by cases h; exact ⟨Tryz.func235, by kernel_rfl⟩), rfnn363_ok, rfnn491_ok⟩
theorem rfnn107_ok : AllT (fun f F => Tryz.prog.funcs[f]? = some F ∧ (F.name == "runtime.NumGoroutine") = false) rfnn107 64 107 := ⟨fun x h => (by cases h; exact ⟨Tryz.func107, by kernel_rfl⟩), rfnn171_ok, rfnn235_ok⟩
theorem rfnn43_ok : AllT (fun f F => Tryz.prog.funcs[f]? = some F ∧ (F.name == "runtime.NumGoroutine") = false) rfnn43 32 43 := ⟨fun x h => (by cases h; exact ⟨Tryz.func43, by kernel_rfl⟩), rfnn75_ok, rfnn107_ok⟩
theorem rfnn283_ok : AllT (fun f F => Tryz.prog.funcs[f]? = some F ∧ (F.name == "runtime.NumGoroutine") = false) rfnn283 256 283 := ⟨fun x h => (by cases h; exact ⟨Tryz.func283, by kernel_rfl⟩), trivial, trivial⟩
theorem rfnn155_ok : AllT (fun f F => Tryz.prog.funcs[f]? = some F ∧ (F.name == "runtime.NumGoroutine") = false) rfnn155 128 155 := ⟨fun x h => (by cases h; exact ⟨Tryz.func155, by kernel_rfl⟩), rfnn283_ok, trivial⟩
theorem rfnn603_ok : AllT (fun f F => Tryz.prog.funcs[f]? = some F ∧ (F.name == "runtime.NumGoroutine") = false) rfnn603 512 603 := ⟨fun x h => (by cases h; exact ⟨Tryz.func603, by kernel_rfl⟩), trivial, trivial⟩
theorem rfnn347_ok : AllT (fun f F => Tryz.prog.funcs[f]? = some F ∧ (F.name == "runtime.NumGoroutine") = false) rfnn347 256 347 := ⟨fun x h => (by cases h; exact ⟨Tryz.func347, by kernel_rfl⟩), rfnn603_ok, trivial⟩
theorem rfnn475_ok : AllT (fun f F => Tryz.prog.funcs[f]? = some F ∧ (F.name == "runtime.NumGoroutine") = false) rfnn475 256 475 := ⟨fun x h => (by cases h; exact ⟨Tryz.func475, by kernel_rfl⟩), trivial, trivial⟩
theorem rfnn219_ok : AllT (fun f F => Tryz.prog.funcs[f]? = some F ∧ (F.name == "runtime.NumGoroutine") = false) rfnn219 128 219 := ⟨fun x h => (by cases h; exact ⟨Tryz.func219, by kernel_rfl⟩), rfnn347_ok, rfnn475_ok⟩
theorem rfnn91_ok : AllT (fun f F => Tryz.prog.funcs[f]? = some F ∧ (F.name == "runtime.NumGoroutine") = false) rfnn91 64 91 := ⟨fun x h => (by cases h; exact ⟨Tryz.func91, by kernel_rfl⟩), rfnn155_ok, rfnn219_ok⟩
theorem rfnn571_ok : AllT (fun f F => Tryz.prog.funcs[f]? = some F ∧ (F.name == "runtime.NumGoroutine") = false) rfnn571 512 571 := ⟨fun x h => (by cases h; exact ⟨Tryz.func571, by kernel_rfl⟩), trivial, trivial⟩
theorem rfnn315_ok : AllT (fun f F => Tryz.prog.funcs[f]? = some F ∧ (F.name == "runtime.NumGoroutine") = false) rfnn315 256 315 := ⟨fun x h => (by cases h), rfnn571_ok, trivial⟩
theorem rfnn187_ok : AllT (fun f F => Tryz.prog.funcs[f]? = some F ∧ (F.name == "runtime.NumGoroutine") = false) rfnn187 128 187 := ⟨fun x h => (by cases h), rfnn315_ok, trivial⟩
theorem rfnn635_ok : AllT (fun f F => Tryz.prog.funcs[f]? = some F ∧ (F.name == "runtime.NumGoroutine") = false) rfnn635 512 635 := ⟨fun x h => (by cases h; exact ⟨Tryz.func635, by kernel_rfl⟩), trivial, trivial⟩
theorem rfnn379_ok : AllT (fun f F => Tryz.prog.funcs[f]? = some F ∧ (F.name == "runtime.NumGoroutine") = false) rfnn379 256 379 := ⟨fun x h => (by cases h; exact ⟨Tryz.func379, by kernel_rfl⟩), rfnn635_ok, trivial⟩
theorem rfnn507_ok : AllT (fun f F => Tryz.prog.funcs[f]? = some F ∧ (F.name == "runtime.NumGoroutine") = false) rfnn507 256 507 := ⟨fun x h => (by cases h; exact ⟨Tryz.func507, by kernel_rfl⟩), trivial, trivial⟩
theorem rfnn251_ok : AllT (fun f F => Tryz.prog.funcs[f]? = some F ∧ (F.name == "runtime.NumGoroutine") = false) rfnn251 128 251 := ⟨fun x h => (by cases h), rfnn379_ok, rfnn507_ok⟩
theorem rfnn123_ok : AllT (fun f F => Tryz.prog.funcs[f]? = some F ∧ (F.name == "runtime.NumGoroutine") = false) rfnn123 64 123 := ⟨fun x h => (by cases h; exact ⟨Tryz.func123, by kernel_rfl⟩), rfnn187_ok, rfnn251_ok⟩
theorem rfnn59_ok : AllT (fun f F => Tryz.prog.funcs[f]? = some F ∧ (F.name == "runtime.NumGoroutine") = false) rfnn59 32 59 := ⟨fun x h => (by cases h; exact ⟨Tryz.func59, by kernel_rfl⟩), rfnn91_ok, rfnn123_ok⟩
theorem rfnn27_ok : AllT (fun f F => Tryz.prog.funcs[f]? = some F ∧ (F.name == "runtime.NumGoroutine") = false) rfnn27 16 27 := ⟨fun x h => (by cases h; exact ⟨Tryz.func27, by kernel_rfl⟩), rfnn43_ok, rfnn59_ok⟩
theorem rfnn11_ok : AllT (fun f F => Tryz.prog.funcs[f]? = some F ∧ (F.name == "runtime.NumGoroutine") = false) rfnn11 8 11 := ⟨fun x h => (by cases h; exact ⟨Tryz.func11, by kernel_rfl⟩), rfnn19_ok, rfnn27_ok⟩
theorem rfnn3_ok : AllT (fun f F => Tryz.prog.funcs[f]? = some F ∧ (F.name == "runtime.NumGoroutine") = false) rfnn3 4 3 := ⟨fun x h => (by cases h), rfnn7_ok, rfnn11_ok⟩
theorem rfnn385_ok : AllT (fun f F => Tryz.prog.funcs[f]? = some F ∧ (F.name == "runtime.NumGoroutine") = false) rfnn385 256 385 := ⟨fun x h => (by cases h; exact ⟨Tryz.func385, by kernel_rfl⟩), trivial, trivial⟩
theorem rfnn129_ok : AllT (fun f F => Tryz.prog.funcs[f]? = some F ∧ (F.name == "runtime.NumGoroutine") = false) rfnn129 128 129 := ⟨fun x h => (by cases h), trivial, rfnn385_ok⟩
theorem rfnn577_ok : AllT (fun f F => Tryz.prog.funcs[f]? = some F ∧ (F.name == "runtime.NumGoroutine") = false) rfnn577 512 577 := ⟨fun x h => (by cases h; exact ⟨Tryz.func577, by kernel_rfl⟩), trivial, trivial⟩
theorem rfnn321_ok : AllT (fun f F => Tryz.prog.funcs[f]? = some F ∧ (F.name == "runtime.NumGoroutine") = false) rfnn321 256 321 := ⟨fun x h => (by cases h), rfnn577_ok, trivial⟩
theorem rfnn193_ok : AllT (fun f F => Tryz.prog.funcs[f]? = some F ∧ (F.name == "runtime.NumGoroutine") = false) rfnn193 128 193 := ⟨fun x h => (by cases h), rfnn321_ok, trivial⟩
theorem rfnn65_ok : AllT (fun f F => Tryz.prog.funcs[f]? = some F ∧ (F.name == "runtime.NumGoroutine") = false) rfnn65 64 65 := ⟨fun x h => (by cases h), rfnn129_ok, rfnn193_ok⟩
theorem rfnn289_ok : AllT (fun f F => Tryz.prog.funcs[f]? = some F ∧ (F.name == "runtime.NumGoroutine") = false) rfnn289 256 289 := ⟨fun x h => (by cases h; exact ⟨Tryz.func289, by kernel_rfl⟩), trivial, trivial⟩
theorem rfnn417_ok : AllT (fun f F => Tryz.prog.funcs[f]? = some F ∧ (F.name == "runtime.NumGoroutine") = false) rfnn417 256 417 := ⟨fun x h => (by cases h; exact ⟨Tryz.func417, by kernel_rfl⟩), trivial, trivial⟩
theorem rfnn161_ok : AllT (fun f F => Tryz.prog.funcs[f]? = some F ∧ (F.name == "runtime.NumGoroutine") = false) rfnn161 128 161 := ⟨fun x h => (by cases h), rfnn289_ok, rfnn417_ok⟩
theorem rfnn97_ok : AllT (fun f F => Tryz.prog.funcs[f]? = some F ∧ (F.name == "runtime.NumGoroutine") = false) rfnn97 64 97 := ⟨fun x h => (by cases h; exact ⟨Tryz.func97, by kernel_rfl⟩), rfnn161_ok, trivial⟩
theorem rfnn33_ok : AllT (fun f F => Tryz.prog.funcs[f]? = some F ∧ (F.name == "runtime.NumGoroutine") = false) rfnn33 32 33 := ⟨fun x h => (by cases h; exact ⟨Tryz.func33, by kernel_rfl⟩), rfnn65_ok, rfnn97_ok⟩
theorem rfnn529_ok : AllT (fun f F => Tryz.prog.funcs[f]? = some F ∧ (F.name == "runtime.NumGoroutine") = false) rfnn529 512 529 := ⟨fun x h => (by cases h; exact ⟨Tryz.func529, by kernel_rfl⟩), trivial, trivial⟩
theorem rfnn273_ok : AllT (fun f F => Tryz.prog.funcs[f]? = some F ∧ (F.name == "runtime.NumGoroutine") = false) rfnn273 256 273 := ⟨fun x h => (by cases h), rfnn529_ok, trivial⟩
theorem rfnn657_ok : AllT (fun f F => Tryz.prog.funcs[f]? = some F ∧ (F.name == "runtime.NumGoroutine") = false) rfnn657 512 657 := ⟨fun x h => (by cases h; exact ⟨Tryz.func657, by kernel_rfl⟩), trivial, trivial⟩
theorem rfnn401_ok : AllT (fun f F => Tryz.prog.funcs[f]? = some F ∧ (F.name == "runtime.NumGoroutine") = false) rfnn401 256 401 := ⟨fun x h => (by cases h), rfnn657_ok, trivial⟩
theorem rfnn145_ok : AllT (fun f F => Tryz.prog.funcs[f]? = some F ∧ (F.name == "runtime.NumGoroutine") = false) rfnn145 128 145 := ⟨fun x h => (by cases h; exact ⟨Tryz.func145, by kernel_rfl⟩), rfnn273_ok, rfnn401_ok⟩
theorem rfnn593_ok : AllT (fun f F => Tryz.prog.funcs[f]? = some F ∧ (F.name == "runtime.NumGoroutine") = false) rfnn593 512 593 := ⟨fun x h => (by cases h; exact ⟨Tryz.func593, by kernel_rfl⟩), trivial, trivial⟩
theorem rfnn337_ok : AllT (fun f F => Tryz.prog.funcs[f]? = some F ∧ (F.name == "runtime.NumGoroutine") = false) rfnn337 256 337 := ⟨fun x h => (by cases h; exact ⟨Tryz.func337, by kernel_rfl⟩), rfnn593_ok, trivial⟩
theorem rfnn209_ok : AllT (fun f F => Tryz.prog.funcs[f]? = some F ∧ (F.name == "runtime.NumGoroutine") = false) rfnn209 128 209 := ⟨fun x h => (by cases h; exact ⟨Tryz.func209, by kernel_rfl⟩), rfnn337_ok, trivial⟩
theorem rfnn81_ok : AllT (fun f F => Tryz.prog.funcs[f]? = some F ∧ (F.name == "runtime.NumGoroutine") = false) rfnn81 64 81 := ⟨fun x h => (by cases h; exact ⟨Tryz.func81, by kernel_rfl⟩), rfnn145_ok, rfnn209_ok⟩
theorem rfnn689_ok : AllT (fun f F => Tryz.prog.funcs[f]? = some F ∧ (F.name == "runtime.NumGoroutine") = false) rfnn689 512 689 := ⟨fun x h => (by cases h; exact ⟨Tryz.func689, by kernel_rfl⟩), trivial, trivial⟩
theorem rfnn433_ok : AllT (fun f F => Tryz.prog.funcs[f]? = some F ∧ (F.name == "runtime.NumGoroutine") = false) rfnn433 256 433 := ⟨fun x h => (by cases h), rfnn689_ok, trivial⟩
theorem rfnn177_ok : AllT (fun f F => Tryz.prog.funcs[f]? = some F ∧ (F.name == "runtime.NumGoroutine") = false) rfnn177 128 177 := ⟨fun x h => (by cases h; exact ⟨Tryz.func177, by kernel_rfl⟩), trivial, rfnn433_ok⟩
theorem rfnn625_ok : AllT (fun f F => Tryz.prog.funcs[f]? = some F ∧ (F.name == "runtime.NumGoroutine") = false) rfnn625 512 625 := ⟨fun x h => (by cases h; exact ⟨Tryz.func625, by kernel_rfl⟩), trivial, trivial⟩
theorem rfnn369_ok : AllT (fun f F => Tryz.prog.funcs[f]? = some F ∧ (F.name == "runtime.NumGoroutine") = false) rfnn369 256 369 := ⟨fun x h => (by cases h; exact ⟨Tryz.func369, by kernel_rfl⟩), rfnn625_ok, trivial⟩
theorem rfnn497_ok : AllT (fun f F => Tryz.prog.funcs[f]? = some F ∧ (F.name == "runtime.NumGoroutine") = false) rfnn497 256 497 := ⟨fun x h => (by cases h; exact ⟨Tryz.func497, by kernel_rfl⟩), trivial, trivial⟩
theorem rfnn241_ok : AllT (fun f F => Tryz.prog.funcs[f]? = some F ∧ (F.name == "runtime.NumGoroutine") = false) rfnn241 128 241 := ⟨fun x h => (by cases h), rfnn369_ok, rfnn497_ok⟩
theorem rfnn113_ok : AllT (fun f F => Tryz.prog.funcs[f]? = some F ∧ (F.name == "runtime.NumGoroutine") = false) rfnn113 64 113 := ⟨fun x h => (by cases h; exact ⟨Tryz.func113, by kernel_rfl⟩), rfnn177_ok, rfnn241_ok⟩
theorem rfnn49_ok : AllT (fun f F => Tryz.prog.funcs[f]? = some F ∧ (F.name == "runtime.NumGoroutine") = false) rfnn49 32 49 := ⟨fun x h => (by cases h; exact ⟨Tryz.func49, by kernel_rfl⟩), rfnn81_ok, rfnn113_ok⟩
theorem rfnn17_ok : AllT (fun f F => Tryz.prog.funcs[f]? = some F ∧ (F.name == "runtime.NumGoroutine") = false) rfnn17 16 17 := ⟨fun x h => (by cases h; exact ⟨Tryz.func17, by kernel_rfl⟩), rfnn33_ok, rfnn49_ok⟩
theorem rfnn521_ok : AllT (fun f F => Tryz.prog.funcs[f]? = some F ∧ (F.name == "runtime.NumGoroutine") = false) rfnn521 512 521 := ⟨fun x h => (by cases h; exact ⟨Tryz.func521, by kernel_rfl⟩), trivial, trivial⟩
theorem rfnn265_ok : AllT (fun f F => Tryz.prog.funcs[f]? = some F ∧ (F.name == "runtime.NumGoroutine") = false) rfnn265 256 265 := ⟨fun x h => (by cases h), rfnn521_ok, trivial⟩
theorem rfnn649_ok : AllT (fun f F => Tryz.prog.funcs[f]? = some F ∧ (F.name == "runtime.NumGoroutine") = false) rfnn649 512 649 := ⟨fun x h => (by cases h; exact ⟨Tryz.func649, by kernel_rfl⟩), trivial, trivial⟩
theorem rfnn393_ok : AllT (fun f F => Tryz.prog.funcs[f]? = some F ∧ (F.name == "runtime.NumGoroutine") = false) rfnn393 256 393 := ⟨fun x h => (by cases h; exact ⟨Tryz.func393, by kernel_rfl⟩), rfnn649_ok, trivial⟩
theorem rfnn137_ok : AllT (fun f F => Tryz.prog.funcs[f]? = some F ∧ (F.name == "runtime.NumGoroutine") = false) rfnn137 128 137 := ⟨fun x h => (by cases h), rfnn265_ok, rfnn393_ok⟩
theorem rfnn585_ok : AllT (fun f F => Tryz.prog.funcs[f]? = some F ∧ (F.name == "runtime.NumGoroutine") = false) rfnn585 512 585 := ⟨fun x h => (by cases h; exact ⟨Tryz.func585, by kernel_rfl⟩), trivial, trivial⟩
theorem rfnn329_ok : AllT (fun f F => Tryz.prog.funcs[f]? = some F ∧ (F.name == "runtime.NumGoroutine") = false) rfnn329 256 329 := ⟨fun x h => (by cases h), rfnn585_ok, trivial⟩
theorem rfnn201_ok : AllT (fun f F => Tryz.prog.funcs[f]? = some F ∧ (F.name == "runtime.NumGoroutine") = false) rfnn201 128 201 := ⟨fun x h => (by cases h), rfnn329_ok, trivial⟩
theorem rfnn73_ok : AllT (fun f F => Tryz.prog.funcs[f]? = some F ∧ (F.name == "runtime.NumGoroutine") = false) rfnn73 64 73 := ⟨fun x h => (by cases h; exact ⟨Tryz.func73, by kernel_rfl⟩), rfnn137_ok, rfnn201_ok⟩
theorem rfnn553_ok : AllT (fun f F => Tryz.prog.funcs[f]? = some F ∧ (F.name == "runtime.NumGoroutine") = false) rfnn553 512 553 := ⟨fun x h => (by cases h; exact ⟨Tryz.func553, by kernel_rfl⟩), trivial, trivial⟩
theorem rfnn297_ok : AllT (fun f F => Tryz.prog.funcs[f]? = some F ∧ (F.name == "runtime.NumGoroutine") = false) rfnn297 256 297 := ⟨fun x h => (by cases h; exact ⟨Tryz.func297, by kernel_rfl⟩), rfnn553_ok, trivial⟩
theorem rfnn681_ok : AllT (fun f F => Tryz.prog.funcs[f]? = some F ∧ (F.name == "runtime.NumGoroutine") = false) rfnn681 512 681 := ⟨fun x h => (by cases h; exact ⟨Tryz.func681, by kernel_rfl⟩), trivial, trivial⟩
theorem rfnn425_ok : AllT (fun f F => Tryz.prog.funcs[f]? = some F ∧ (F.name == "runtime.NumGoroutine") = false) rfnn425 256 425 := ⟨fun x h => (by cases h), rfnn681_ok, trivial⟩
theorem rfnn169_ok : AllT (fun f F => Tryz.prog.funcs[f]? = some F ∧ (F.name == "runtime.NumGoroutine") = false) rfnn169 128 169 := ⟨fun x h => (by cases h; exact ⟨Tryz.func169, by kernel_rfl⟩), rfnn297_ok, rfnn425_ok⟩
theorem rfnn233_ok : AllT (fun f F => Tryz.prog.funcs[f]? = some F ∧ (F.name == "runtime.NumGoroutine") = false) rfnn233 128 233 := ⟨fun x h => (by cases h; exact ⟨Tryz.func233, by kernel_rfl⟩), trivial, trivial⟩
theorem rfnn105_ok : AllT (fun f F => Tryz.prog.funcs[f]? = some F ∧ (F.name == "runtime.NumGoroutine") = false) rfnn105 64 105 := ⟨fun x h => (by cases h; exact ⟨Tryz.func105, by kernel_rfl⟩), rfnn169_ok, rfnn233_ok⟩
theorem rfnn41_ok : AllT (fun f F => Tryz.prog.funcs[f]? = some F ∧ (F.name == "runtime.NumGoroutine") = false) rfnn41 32 41 := ⟨fun x h => (by cases h; exact ⟨Tryz.func41, by kernel_rfl⟩), rfnn73_ok, rfnn105_ok⟩
theorem rfnn281_ok : AllT (fun f F => Tryz.prog.funcs[f]? = some F ∧ (F.name == "runtime.NumGoroutine") = false) rfnn281 256 281 := ⟨fun x h => (by cases h; exact ⟨Tryz.func281, by kernel_rfl⟩), trivial, trivial⟩
theorem rfnn409_ok : AllT (fun f F => Tryz.prog.funcs[f]? = some F ∧ (F.name == "runtime.NumGoroutine") = false) rfnn409 256 409 := ⟨fun x h => (by cases h; exact ⟨Tryz.func409, by kernel_rfl⟩), trivial, trivial⟩
theorem rfnn153_ok : AllT (fun f F => Tryz.prog.funcs[f]? = some F ∧ (F.name == "runtime.NumGoroutine") = false) rfnn153 128 153 := ⟨fun x h => (by cases h; exact ⟨Tryz.func153, by kernel_rfl⟩), rfnn281_ok, rfnn409_ok⟩
theorem rfnn601_ok : AllT (fun f F => Tryz.prog.funcs[f]? = some F ∧ (F.name == "runtime.NumGoroutine") = false) rfnn601 512 601 := ⟨fun x h => (by cases h; exact ⟨Tryz.func601, by kernel_rfl⟩), trivial, trivial⟩
theorem rfnn345_ok : AllT (fun f F => Tryz.prog.funcs[f]? = some F ∧ (F.name == "runtime.NumGoroutine") = false) rfnn345 256 345 := ⟨fun x h => (by cases h), rfnn601_ok, trivial⟩
theorem rfnn217_ok : AllT (fun f F => Tryz.prog.funcs[f]? = some F ∧ (F.name == "runtime.NumGoroutine") = false) rfnn217 128 217 := ⟨fun x h => (by cases h), rfnn345_ok, trivial⟩
theorem rfnn89_ok : AllT (fun f F => Tryz.prog.funcs[f]? = some F ∧ (F.name == "runtime.NumGoroutine") = false) rfnn89 64 89 := ⟨fun x h => (by cases h; exact ⟨Tryz.func89, by kernel_rfl⟩), rfnn153_ok, rfnn217_ok⟩
theorem rfnn569_ok : AllT (fun f F => Tryz.prog.funcs[f]? = some F ∧ (F.name == "runtime.NumGoroutine") = false) rfnn569 512 569 := ⟨fun x h => (by cases h; exact ⟨Tryz.func569, by kernel_rfl⟩), trivial, trivial⟩
theorem rfnn313_ok : AllT (fun f F => Tryz.prog.funcs[f]? = some F ∧ (F.name == "runtime.NumGoroutine") = false) rfnn313 256 313 := ⟨fun x h => (by cases h; exact ⟨Tryz.func313, by kernel_rfl⟩), rfnn569_ok, trivial⟩
theorem rfnn185_ok : AllT (fun f F => Tryz.prog.funcs[f]? = some F ∧ (F.name == "runtime.NumGoroutine") = false) rfnn185 128 185 := ⟨fun x h => (by cases h), rfnn313_ok, trivial⟩
theorem rfnn633_ok : AllT (fun f F => Tryz.prog.funcs[f]? = some F ∧ (F.name == "runtime.NumGoroutine") = false) rfnn633 512 633 := ⟨fun x h => (by cases h; exact ⟨Tryz.func633, by kernel_rfl⟩), trivial, trivial⟩
theorem rfnn377_ok : AllT (fun f F => Tryz.prog.funcs[f]? = some F ∧ (F.name == "runtime.NumGoroutine") = false) rfnn377 256 377 := ⟨fun x h => (by cases h; exact ⟨Tryz.func377, by kernel_rfl⟩), rfnn633_ok, trivial⟩
theorem rfnn505_ok : AllT (fun f F => Tryz.prog.funcs[f]? = some F ∧ (F.name == "runtime.NumGoroutine") = false) rfnn505 256 505 := ⟨fun x h => (by cases h; exact ⟨Tryz.func505, by kernel_rfl⟩), trivial, trivial⟩
theorem rfnn249_ok : AllT (fun f F => Tryz.prog.funcs[f]? = some F ∧ (F.name == "runtime.NumGoroutine") = false) rfnn249 128 249 := ⟨fun x h => (by cases h), rfnn377_ok, rfnn505_ok⟩
theorem rfnn121_ok : AllT (fun f F => Tryz.prog.funcs[f]? = some F ∧ (F.name == "runtime.NumGoroutine") = false) rfnn121 64 121 := ⟨fun x h => (by cases h), rfnn185_ok, rfnn249_ok⟩
theorem rfnn57_ok : AllT (fun f F => Tryz.prog.funcs[f]? = some F ∧ (F.name == "runtime.NumGoroutine") = false) rfnn57 32 57 := ⟨fun x h => (by cases h), rfnn89_ok, rfnn121_ok⟩
theorem rfnn25_ok : AllT (fun f F => Tryz.prog.funcs[f]? = some F ∧ (F.name == "runtime.NumGoroutine") = false) rfnn25 16 25 := ⟨fun x h => (by cases h), rfnn41_ok, rfnn57_ok⟩
theorem rfnn9_ok : AllT (fun f F => Tryz.prog.funcs[f]? = some F ∧ (F.name == "runtime.NumGoroutine") = false) rfnn9 8 9 := ⟨fun x h => (by cases h; exact ⟨Tryz.func9, by kernel_rfl⟩), rfnn17_ok, rfnn25_ok⟩
theorem rfnn517_ok : AllT (fun f F => Tryz.prog.funcs[f]? = some F ∧ (F.name == "runtime.NumGoroutine") = false) rfnn517 512 517 := ⟨fun x h => (by cases h; exact ⟨Tryz.func517, by kernel_rfl⟩), trivial, trivial⟩
theorem rfnn261_ok : AllT (fun f F => Tryz.prog.funcs[f]? = some F ∧ (F.name == "runtime.NumGoroutine") = false) rfnn261 256 261 := ⟨fun x h => (by cases h), rfnn517_ok, trivial⟩
theorem rfnn645_ok : AllT (fun f F => Tryz.prog.funcs[f]? = some F ∧ (F.name == "runtime.NumGoroutine") = false) rfnn645 512 645 := ⟨fun x h => (by cases h; exact ⟨Tryz.func645, by kernel_rfl⟩), trivial, trivial⟩
theorem rfnn389_ok : AllT (fun f F => Tryz.prog.funcs[f]? = some F ∧ (F.name == "runtime.NumGoroutine") = false) rfnn389 256 389 := ⟨fun x h => (by cases h; exact ⟨Tryz.func389, by kernel_rfl⟩), rfnn645_ok, trivial⟩
theorem rfnn133_ok : AllT (fun f F => Tryz.prog.funcs[f]? = some F ∧ (F.name == "runtime.NumGoroutine") = false) rfnn133 128 133 := ⟨fun x h => (by cases h), rfnn261_ok, rfnn389_ok⟩
theorem rfnn69_ok : AllT (fun f F => Tryz.prog.funcs[f]? = some F ∧ (F.name == "runtime.NumGoroutine") = false) rfnn69 64 69 := ⟨fun x h => (by cases h), rfnn133_ok, trivial⟩
theorem rfnn549_ok : AllT (fun f F => Tryz.prog.funcs[f]? = some F ∧ (F.name == "runtime.NumGoroutine") = false) rfnn549 512 549 := ⟨fun x h => (by cases h; exact ⟨Tryz.func549, by kernel_rfl⟩), trivial, trivial⟩
theorem rfnn293_ok : AllT (fun f F => Tryz.prog.funcs[f]? = some F ∧ (F.name == "runtime.NumGoroutine") = false) rfnn293 256 293 := ⟨fun x h => (by cases h; exact ⟨Tryz.func293, by kernel_rfl⟩), rfnn549_ok, trivial⟩
theorem rfnn677_ok : AllT (fun f F => Tryz.prog.funcs[f]? = some F ∧ (F.name == "runtime.NumGoroutine") = false) rfnn677 512 677 := ⟨fun x h => (by cases h; exact ⟨Tryz.func677, by kernel_rfl⟩), trivial, trivial⟩
theorem rfnn421_ok : AllT (fun f F => Tryz.prog.funcs[f]? = some F ∧ (F.name == "runtime.NumGoroutine") = false) rfnn421 256 421 := ⟨fun x h => (by cases h; exact ⟨Tryz.func421, by kernel_rfl⟩), rfnn677_ok, trivial⟩
theorem rfnn165_ok : AllT (fun f F => Tryz.prog.funcs[f]? = some F ∧ (F.name == "runtime.NumGoroutine") = false) rfnn165 128 165 := ⟨fun x h => (by cases h; exact ⟨Tryz.func165, by kernel_rfl⟩), rfnn293_ok, rfnn421_ok⟩
theorem rfnn613_ok : AllT (fun f F => Tryz.prog.funcs[f]? = some F ∧ (F.name == "runtime.NumGoroutine") = false) rfnn613 512 613 := ⟨fun x h => (by cases h; exact ⟨Tryz.func613, by kernel_rfl⟩), trivial, trivial⟩
theorem rfnn357_ok : AllT (fun f F => Tryz.prog.funcs[f]? = some F ∧ (F.name == "runtime.NumGoroutine") = false) rfnn357 256 357 := ⟨fun x h => (by cases h; exact ⟨Tryz.func357, by kernel_rfl⟩), rfnn613_ok, trivial⟩
theorem rfnn485_ok : AllT (fun f F => Tryz.prog.funcs[f]? = some F ∧ (F.name == "runtime.NumGoroutine") = false) rfnn485 256 485 := ⟨fun x h => (by cases h; exact ⟨Tryz.func485, by kernel_rfl⟩), trivial, trivial⟩
theorem rfnn229_ok : AllT (fun f F => Tryz.prog.funcs[f]? = some F ∧ (F.name == "runtime.NumGoroutine") = false) rfnn229 128 229 := ⟨fun x h => (by cases h; exact ⟨Tryz.func229, by kernel_rfl⟩), rfnn357_ok, rfnn485_ok⟩
theorem rfnn101_ok : AllT (fun f F => Tryz.prog.funcs[f]? = some F ∧ (F.name == "runtime.NumGoroutine") = false) rfnn101 64 101 := ⟨fun x h => (by cases h; exact ⟨Tryz.func101, by kernel_rfl⟩), rfnn165_ok, rfnn229_ok⟩
theorem rfnn37_ok : AllT (fun f F => Tryz.prog.funcs[f]? = some F ∧ (F.name == "runtime.NumGoroutine") = false) rfnn37 32 37 := ⟨fun x h => (by cases h; exact ⟨Tryz.func37, by kernel_rfl⟩), rfnn69_ok, rfnn101_ok⟩
theorem rfnn149_ok : AllT (fun f F => Tryz.prog.funcs[f]? = some F ∧ (F.name == "runtime.NumGoroutine") = false) rfnn149 128 149 := ⟨fun x h => (by cases h; exact ⟨Tryz.func149, by kernel_rfl⟩), trivial, trivial⟩
theorem rfnn213_ok : AllT (fun f F => Tryz.prog.funcs[f]? = some F ∧ (F.name == "runtime.NumGoroutine") = false) rfnn213 128 213 := ⟨fun x h => (by cases h; exact ⟨Tryz.func213, by kernel_rfl⟩), trivial, trivial⟩
theorem rfnn85_ok : AllT (fun f F => Tryz.prog.funcs[f]? = some F ∧ (F.name == "runtime.NumGoroutine") = false) rfnn85 64 85 := ⟨fun x h => (by cases h; exact ⟨Tryz.func85, by kernel_rfl⟩), rfnn149_ok, rfnn213_ok⟩
theorem rfnn309_ok : AllT (fun f F => Tryz.prog.funcs[f]? = some F ∧ (F.name == "runtime.NumGoroutine") = false) rfnn309 256 309 := ⟨fun x h => (by cases h; exact ⟨Tryz.func309, by kernel_rfl⟩), trivial, trivial⟩
theorem rfnn181_ok : AllT (fun f F => Tryz.prog.funcs[f]? = some F ∧ (F.name == "runtime.NumGoroutine") = false) rfnn181 128 181 := ⟨fun x h => (by cases h; exact ⟨Tryz.func181, by kernel_rfl⟩), rfnn309_ok, trivial⟩
theorem rfnn373_ok : AllT (fun f F => Tryz.prog.funcs[f]? = some F ∧ (F.name == "runtime.NumGoroutine") = false) rfnn373 256 373 := ⟨fun x h => (by cases h; exact ⟨Tryz.func373, by kernel_rfl⟩), trivial, trivial⟩
theorem rfnn501_ok : AllT (fun f F => Tryz.prog.funcs[f]? = some F ∧ (F.name == "runtime.NumGoroutine") = false) rfnn501 256 501 := ⟨fun x h => (by cases h; exact ⟨Tryz.func501, by kernel_rfl⟩), trivial, trivial⟩
theorem rfnn245_ok : AllT (fun f F => Tryz.prog.funcs[f]? = some F ∧ (F.name == "runtime.NumGoroutine") = false) rfnn245 128 245 := ⟨fun x h => (by cases h), rfnn373_ok, rfnn501_ok⟩
theorem rfnn117_ok : AllT (fun f F => Tryz.prog.funcs[f]? = some F ∧ (F.name == "runtime.NumGoroutine") = false) rfnn117 64 117 := ⟨fun x h => (by cases h; exact ⟨Tryz.func117, by kernel_rfl⟩), rfnn181_ok, rfnn245_ok⟩
theorem rfnn53_ok : AllT (fun f F => Tryz.prog.funcs[f]? = some F ∧ (F.name == "runtime.NumGoroutine") = false) rfnn53 32 53 := ⟨fun x h => (by cases h; exact ⟨Tryz.func53, by kernel_rfl⟩), rfnn85_ok, rfnn117_ok⟩
theorem rfnn21_ok : AllT (fun f F => Tryz.prog.funcs[f]? = some F ∧ (F.name == "runtime.NumGoroutine") = false) rfnn21 16 21 := ⟨fun x h => (by cases h; exact ⟨Tryz.func21, by kernel_rfl⟩), rfnn37_ok, rfnn53_ok⟩
theorem rfnn525_ok : AllT (fun f F => Tryz.prog.funcs[f]? = some F ∧ (F.name == "runtime.NumGoroutine") = false) rfnn525 512 525 := ⟨fun x h => (by cases h; exact ⟨Tryz.func525, by kernel_rfl⟩), trivial, trivial⟩
theorem rfnn269_ok : AllT (fun f F => Tryz.prog.funcs[f]? = some F ∧ (F.name == "runtime.NumGoroutine") = false) rfnn269 256 269 := ⟨fun x h => (by cases h), rfnn525_ok, trivial⟩
theorem rfnn653_ok : AllT (fun f F => Tryz.prog.funcs[f]? = some F ∧ (F.name == "runtime.NumGoroutine") = false) rfnn653 512 653 := ⟨fun x h => (by cases h; exact ⟨Tryz.func653, by kernel_rfl⟩), trivial, trivial⟩
theorem rfnn397_ok : AllT (fun f F => Tryz.prog.funcs[f]? = some F ∧ (F.name == "runtime.NumGoroutine") = false) rfnn397 256 397 := ⟨fun x h => (by cases h), rfnn653_ok, trivial⟩
theorem rfnn141_ok : AllT (fun f F => Tryz.prog.funcs[f]? = some F ∧ (F.name == "runtime.NumGoroutine") = false) rfnn141 128 141 := ⟨fun x h => (by cases h; exact ⟨Tryz.func141, by kernel_rfl⟩), rfnn269_ok, rfnn397_ok⟩
theorem rfnn205_ok : AllT (fun f F => Tryz.prog.funcs[f]? = some F ∧ (F.name == "runtime.NumGoroutine") = false) rfnn205 128 205 := ⟨fun x h => (by cases h; exact ⟨Tryz.func205, by kernel_rfl⟩), trivial, trivial⟩
theorem rfnn77_ok : AllT (fun f F => Tryz.prog.funcs[f]? = some F ∧ (F.name == "runtime.NumGoroutine") = false) rfnn77 64 77 := ⟨fun x h => (by cases h; exact ⟨Tryz.func77, by kernel_rfl⟩), rfnn141_ok, rfnn205_ok⟩
theorem rfnn557_ok : AllT (fun f F => Tryz.prog.funcs[f]? = some F ∧ (F.name == "runtime.NumGoroutine") = false) rfnn557 512 557 := ⟨fun x h => (by cases h; exact ⟨Tryz.func557, by kernel_rfl⟩), trivial, trivial⟩
theorem rfnn301_ok : AllT (fun f F => Tryz.prog.funcs[f]? = some F ∧ (F.name == "runtime.NumGoroutine") = false) rfnn301 256 301 := ⟨fun x h => (by cases h; exact ⟨Tryz.func301, by kernel_rfl⟩), rfnn557_ok, trivial⟩
theorem rfnn429_ok : AllT (fun f F => Tryz.prog.funcs[f]? = some F ∧ (F.name == "runtime.NumGoroutine") = false) rfnn429 256 429 := ⟨fun x h => (by cases h; exact ⟨Tryz.func429, by kernel_rfl⟩), trivial, trivial⟩
theorem rfnn173_ok : AllT (fun f F => Tryz.prog.funcs[f]? = some F ∧ (F.name == "runtime.NumGoroutine") = false) rfnn173 128 173 := ⟨fun x h => (by cases h), rfnn301_ok, rfnn429_ok⟩
theorem rfnn493_ok : AllT (fun f F => Tryz.prog.funcs[f]? = some F ∧ (F.name == "runtime.NumGoroutine") = false) rfnn493 256 493 := ⟨fun x h => (by cases h; exact ⟨Tryz.func493, by kernel_rfl⟩), trivial, trivial⟩
theorem rfnn237_ok : AllT (fun f F => Tryz.prog.funcs[f]? = some F ∧ (F.name == "runtime.NumGoroutine") = false) rfnn237 128 237 := ⟨fun x h => (by cases h; exact ⟨Tryz.func237, by kernel_rfl⟩), trivial, rfnn493_ok⟩
theorem rfnn109_ok : AllT (fun f F => Tryz.prog.funcs[f]? = some F ∧ (F.name == "runtime.NumGoroutine") = false) rfnn109 64 109 := ⟨fun x h => (by cases h; exact ⟨Tryz.func109, by kernel_rfl⟩), rfnn173_ok, rfnn237_ok⟩
theorem rfnn45_ok : AllT (fun f F => Tryz.prog.funcs[f]? = some F ∧ (F.name == "runtime.NumGoroutine") = false) rfnn45 32 45 := ⟨fun x h => (by cases h; exact ⟨Tryz.func45, by kernel_rfl⟩), rfnn77_ok, rfnn109_ok⟩
theorem rfnn285_ok : AllT (fun f F => Tryz.prog.funcs[f]? = some F ∧ (F.name == "runtime.NumGoroutine") = false) rfnn285 256 285 := ⟨fun x h => (by cases h; exact ⟨Tryz.func285, by kernel_rfl⟩), trivial, trivial⟩
theorem rfnn413_ok : AllT (fun f F => Tryz.prog.funcs[f]? = some F ∧ (F.name == "runtime.NumGoroutine") = false) rfnn413 256 413 := ⟨fun x h => (by cases h; exact ⟨Tryz.func413, by kernel_rfl⟩), trivial, trivial⟩
theorem rfnn157_ok : AllT (fun f F => Tryz.prog.funcs[f]? = some F ∧ (F.name == "runtime.NumGoroutine") = false) rfnn157 128 157 := ⟨fun x h => (by cases h; exact ⟨Tryz.func157, by kernel_rfl⟩), rfnn285_ok, rfnn413_ok⟩
theorem rfnn349_ok : AllT (fun f F => Tryz.prog.funcs[f]? = some F ∧ (F.name == "runtime.NumGoroutine") = false) rfnn349 256 349 := ⟨fun x h => (by cases h; exact ⟨Tryz.func349, by kernel_rfl⟩), trivial, trivial⟩
theorem rfnn477_ok : AllT (fun f F => Tryz.prog.funcs[f]? = some F ∧ (F.name == "runtime.NumGoroutine") = false) rfnn477 256 477 := ⟨fun x h => (by cases h; exact ⟨Tryz.func477, by kernel_rfl⟩), trivial, trivial⟩
theorem rfnn221_ok : AllT (fun f F => Tryz.prog.funcs[f]? = some F ∧ (F.name == "runtime.NumGoroutine") = false) rfnn221 128 221 := ⟨fun x h => (by cases h), rfnn349_ok, rfnn477_ok⟩
theorem rfnn93_ok : AllT (fun f F => Tryz.prog.funcs[f]? = some F ∧ (F.name == "runtime.NumGoroutine") = false) rfnn93 64 93 := ⟨fun x h => (by cases h), rfnn157_ok, rfnn221_ok⟩
theorem rfnn573_ok : AllT (fun f F => Tryz.prog.funcs[f]? = some F ∧ (F.name == "runtime.NumGoroutine") = false) rfnn573 512 573 := ⟨fun x h => (by cases h; exact ⟨Tryz.func573, by kernel_rfl⟩), trivial, trivial⟩
theorem rfnn317_ok : AllT (fun f F => Tryz.prog.funcs[f]? = some F ∧ (F.name == "runtime.NumGoroutine") = false) rfnn317 256 317 := ⟨fun x h => (by cases h), rfnn573_ok, trivial⟩
theorem rfnn189_ok : AllT (fun f F => Tryz.prog.funcs[f]? = some F ∧ (F.name == "runtime.NumGoroutine") = false) rfnn189 128 189 := ⟨fun x h => (by cases h), rfnn317_ok, trivial⟩
theorem rfnn637_ok : AllT (fun f F => Tryz.prog.funcs[f]? = some F ∧ (F.name == "runtime.NumGoroutine") = false) rfnn637 512 637 := ⟨fun x h => (by cases h; exact ⟨Tryz.func637, by kernel_rfl⟩), trivial, trivial⟩
theorem rfnn381_ok : AllT (fun f F => Tryz.prog.funcs[f]? = some F ∧ (F.name == "runtime.NumGoroutine") = false) rfnn381 256 381 := ⟨fun x h => (by cases h; exact ⟨Tryz.func381, by kernel_rfl⟩), rfnn637_ok, trivial⟩
theorem rfnn509_ok : AllT (fun f F => Tryz.prog.funcs[f]? = some F ∧ (F.name == "runtime.NumGoroutine") = false) rfnn509 256 509 := ⟨fun x h => (by cases h; exact ⟨Tryz.func509, by kernel_rfl⟩), trivial, trivial⟩
theorem rfnn253_ok : AllT (fun f F => Tryz.prog.funcs[f]? = some F ∧ (F.name == "runtime.NumGoroutine") = false) rfnn253 128 253 := ⟨fun x h => (by cases h; exact ⟨Tryz.func253, by kernel_rfl⟩), rfnn381_ok, rfnn509_ok⟩
theorem rfnn125_ok : AllT (fun f F => Tryz.prog.funcs[f]? = some F ∧ (F.name == "runtime.NumGoroutine") = false) rfnn125 64 125 := ⟨fun x h => (by cases h; exact ⟨Tryz.func125, by kernel_rfl⟩), rfnn189_ok, rfnn253_ok⟩
theorem rfnn61_ok : AllT (fun f F => Tryz.prog.funcs[f]? = some F ∧ (F.name == "runtime.NumGoroutine") = false) rfnn61 32 61 := ⟨fun x h => (by cases h), rfnn93_ok, rfnn125_ok⟩
theorem rfnn29_ok : AllT (fun f F => Tryz.prog.funcs[f]? = some F ∧ (F.name == "runtime.NumGoroutine") = false) rfnn29 16 29 := ⟨fun x h => (by cases h; exact ⟨Tryz.func29, by kernel_rfl⟩), rfnn45_ok, rfnn61_ok⟩
theorem rfnn13_ok : AllT (fun f F => Tryz.prog.funcs[f]? = some F ∧ (F.name == "runtime.NumGoroutine") = false) rfnn13 8 13 := ⟨fun x h => (by cases h; exact ⟨Tryz.func13, by kernel_rfl⟩), rfnn21_ok, rfnn29_ok⟩
theorem rfnn5_ok : AllT (fun f F => Tryz.prog.funcs[f]? = some F ∧ (F.name == "runtime.NumGoroutine") = false) rfnn5 4 5 := ⟨fun x h => (by cases h; exact ⟨Tryz.func5, by kernel_rfl⟩), rfnn9_ok, rfnn13_ok⟩
theorem rfnn1_ok : AllT (fun f F => Tryz.prog.funcs[f]? = some F ∧ (F.name == "runtime.NumGoroutine") = false) rfnn1 2 1 := ⟨fun x h => (by cases h), rfnn3_ok, rfnn5_ok⟩
theorem rfnn512_ok : AllT (fun f F => Tryz.prog.funcs[f]? = some F ∧ (F.name == "runtime.NumGoroutine") = false) rfnn512 512 512 := ⟨fun x h => (by cases h; exact ⟨Tryz.func512, by kernel_rfl⟩), trivial, trivial⟩
theorem rfnn256_ok : AllT (fun f F => Tryz.prog.funcs[f]? = some F ∧ (F.name == "runtime.NumGoroutine") = false) rfnn256 256 256 := ⟨fun x h => (by cases h), rfnn512_ok, trivial⟩
theorem rfnn128_ok : AllT (fun f F => Tryz.prog.funcs[f]? = some F ∧ (F.name == "runtime.NumGoroutine") = false) rfnn128 128 128 := ⟨fun x h => (by cases h), rfnn256_ok, trivial⟩
theorem rfnn64_ok : AllT (fun f F => Tryz.prog.funcs[f]? = some F ∧ (F.name == "runtime.NumGoroutine") = false) rfnn64 64 64 := ⟨fun x h => (by cases h), rfnn128_ok, trivial⟩
theorem rfnn544_ok : AllT (fun f F => Tryz.prog.funcs[f]? = some F ∧ (F.name == "runtime.NumGoroutine") = false) rfnn544 512 544 := ⟨fun x h => (by cases h; exact ⟨Tryz.func544, by kernel_rfl⟩), trivial, trivial⟩
theorem rfnn288_ok : AllT (fun f F => Tryz.prog.funcs[f]? = some F ∧ (F.name == "runtime.NumGoroutine") = false) rfnn288 256 288 := ⟨fun x h => (by cases h; exact ⟨Tryz.func288, by kernel_rfl⟩), rfnn544_ok, trivial⟩
theorem rfnn416_ok : AllT (fun f F => Tryz.prog.funcs[f]? = some F ∧ (F.name == "runtime.NumGoroutine") = false) rfnn416 256 416 := ⟨fun x h => (by cases h; exact ⟨Tryz.func416, by kernel_rfl⟩), trivial, trivial⟩
theorem rfnn160_ok : AllT (fun f F => Tryz.prog.funcs[f]? = some F ∧ (F.name == "runtime.NumGoroutine") = false) rfnn160 128 160 := ⟨fun x h => (by cases h; exact ⟨Tryz.func160, by kernel_rfl⟩), rfnn288_ok, rfnn416_ok⟩
theorem rfnn480_ok : AllT (fun f F => Tryz.prog.funcs[f]? = some F ∧ (F.name == "runtime.NumGoroutine") = false) rfnn480 256 480 := ⟨fun x h => (by cases h; exact ⟨Tryz.func480, by kernel_rfl⟩), trivial, trivial⟩
theorem rfnn224_ok : AllT (fun f F => Tryz.prog.funcs[f]? = some F ∧ (F.name == "runtime.NumGoroutine") = false) rfnn224 128 224 := ⟨fun x h => (by cases h), trivial, rfnn480_ok⟩
theorem rfnn96_ok : AllT (fun f F => Tryz.prog.funcs[f]? = some F ∧ (F.name == "runtime.NumGoroutine") = false) rfnn96 64 96 := ⟨fun x h => (by cases h; exact ⟨Tryz.func96, by kernel_rfl⟩), rfnn160_ok, rfnn224_ok⟩
theorem rfnn32_ok : AllT (fun f F => Tryz.prog.funcs[f]? = some F ∧ (F.name == "runtime.NumGoroutine") = false) rfnn32 32 32 := ⟨fun x h => (by cases h; exact ⟨Tryz.func32, by kernel_rfl⟩), rfnn64_ok, rfnn96_ok⟩
theorem rfnn528_ok : AllT (fun f F => Tryz.prog.funcs[f]? = some F ∧ (F.name == "runtime.NumGoroutine") = false) rfnn528 512 528 := ⟨fun x h => (by cases h; exact ⟨Tryz.func528, by kernel_rfl⟩), trivial, trivial⟩
theorem rfnn272_ok : AllT (fun f F => Tryz.prog.funcs[f]? = some F ∧ (F.name == "runtime.NumGoroutine") = false) rfnn272 256 272 := ⟨fun x h => (by cases h), rfnn528_ok, trivial⟩
theorem rfnn656_ok : AllT (fun f F => Tryz.prog.funcs[f]? = some F ∧ (F.name == "runtime.NumGoroutine") = false) rfnn656 512 656 := ⟨fun x h => (by cases h; exact ⟨Tryz.func656, by kernel_rfl⟩), trivial, trivial⟩
theorem rfnn400_ok : AllT (fun f F => Tryz.prog.funcs[f]? = some F ∧ (F.name == "runtime.NumGoroutine") = false) rfnn400 256 400 := ⟨fun x h => (by cases h), rfnn656_ok, trivial⟩
theorem rfnn144_ok : AllT (fun f F => Tryz.prog.funcs[f]? = some F ∧ (F.name == "runtime.NumGoroutine") = false) rfnn144 128 144 := ⟨fun x h => (by cases h; exact ⟨Tryz.func144, by kernel_rfl⟩), rfnn272_ok, rfnn400_ok⟩
theorem rfnn592_ok : AllT (fun f F => Tryz.prog.funcs[f]? = some F ∧ (F.name == "runtime.NumGoroutine") = false) rfnn592 512 592 := ⟨fun x h => (by cases h; exact ⟨Tryz.func592, by kernel_rfl⟩), trivial, trivial⟩
theorem rfnn336_ok : AllT (fun f F => Tryz.prog.funcs[f]? = some F ∧ (F.name == "runtime.NumGoroutine") = false) rfnn336 256 336 := ⟨fun x h => (by cases h), rfnn592_ok, trivial⟩
theorem rfnn208_ok : AllT (fun f F => Tryz.prog.funcs[f]? = some F ∧ (F.name == "runtime.NumGoroutine") = false) rfnn208 128 208 := ⟨fun x h => (by cases h; exact ⟨Tryz.func208, by kernel_rfl⟩), rfnn336_ok, trivial⟩
theorem rfnn80_ok : AllT (fun f F => Tryz.prog.funcs[f]? = some F ∧ (F.name == "runtime.NumGoroutine") = false) rfnn80 64 80 := ⟨fun x h => (by cases h; exact ⟨Tryz.func80, by kernel_rfl⟩), rfnn144_ok, rfnn208_ok⟩
theorem rfnn560_ok : AllT (fun f F => Tryz.prog.funcs[f]? = some F ∧ (F.name == "runtime.NumGoroutine") = false) rfnn560 512 560 := ⟨fun x h => (by cases h; exact ⟨Tryz.func560, by kernel_rfl⟩), trivial, trivial⟩
theorem rfnn304_ok : AllT (fun f F => Tryz.prog.funcs[f]? = some F ∧ (F.name == "runtime.NumGoroutine") = false) rfnn304 256 304 := ⟨fun x h => (by cases h; exact ⟨Tryz.func304, by kernel_rfl⟩), rfnn560_ok, trivial⟩
theorem rfnn176_ok : AllT (fun f F => Tryz.prog.funcs[f]? = some F ∧ (F.name == "runtime.NumGoroutine") = false) rfnn176 128 176 := ⟨fun x h => (by cases h), rfnn304_ok, trivial⟩
theorem rfnn368_ok : AllT (fun f F => Tryz.prog.funcs[f]? = some F ∧ (F.name == "runtime.NumGoroutine") = false) rfnn368 256 368 := ⟨fun x h => (by cases h; exact ⟨Tryz.func368, by kernel_rfl⟩), trivial, trivial⟩
theorem rfnn496_ok : AllT (fun f F => Tryz.prog.funcs[f]? = some F ∧ (F.name == "runtime.NumGoroutine") = false) rfnn496 256 496 := ⟨fun x h => (by cases h; exact ⟨Tryz.func496, by kernel_rfl⟩), trivial, trivial⟩
theorem rfnn240_ok : AllT (fun f F => Tryz.prog.funcs[f]? = some F ∧ (F.name == "runtime.NumGoroutine") = false) rfnn240 128 240 := ⟨fun x h => (by cases h), rfnn368_ok, rfnn496_ok⟩
theorem rfnn112_ok : AllT (fun f F => Tryz.prog.funcs[f]? = some F ∧ (F.name == "runtime.NumGoroutine") = false) rfnn112 64 112 := ⟨fun x h => (by cases h; exact ⟨Tryz.func112, by kernel_rfl⟩), rfnn176_ok, rfnn240_ok⟩
theorem rfnn48_ok : AllT (fun f F => Tryz.prog.funcs[f]? = some F ∧ (F.name == "runtime.NumGoroutine") = false) rfnn48 32 48 := ⟨fun x h => (by cases h; exact ⟨Tryz.func48, by kernel_rfl⟩), rfnn80_ok, rfnn112_ok⟩
theorem rfnn16_ok : AllT (fun f F => Tryz.prog.funcs[f]? = some F ∧ (F.name == "runtime.NumGoroutine") = false) rfnn16 16 16 := ⟨fun x h => (by cases h), rfnn32_ok, rfnn48_ok⟩
theorem rfnn520_ok : AllT (fun f F => Tryz.prog.funcs[f]? = some F ∧ (F.name == "runtime.NumGoroutine") = false) rfnn520 512 520 := ⟨fun x h => (by cases h; exact ⟨Tryz.func520, by kernel_rfl⟩), trivial, trivial⟩
theorem rfnn264_ok : AllT (fun f F => Tryz.prog.funcs[f]? = some F ∧ (F.name == "runtime.NumGoroutine") = false) rfnn264 256 264 := ⟨fun x h => (by cases h), rfnn520_ok, trivial⟩
theorem rfnn648_ok : AllT (fun f F => Tryz.prog.funcs[f]? = some F ∧ (F.name == "runtime.NumGoroutine") = false) rfnn648 512 648 := ⟨fun x h => (by cases h; exact ⟨Tryz.func648, by kernel_rfl⟩), trivial, trivial⟩
theorem rfnn392_ok : AllT (fun f F => Tryz.prog.funcs[f]? = some F ∧ (F.name == "runtime.NumGoroutine") = false) rfnn392 256 392 := ⟨fun x h => (by cases h; exact ⟨Tryz.func392, by kernel_rfl⟩), rfnn648_ok, trivial⟩
theorem rfnn136_ok : AllT (fun f F => Tryz.prog.funcs[f]? = some F ∧ (F.name == "runtime.NumGoroutine") = false) rfnn136 128 136 := ⟨fun x h => (by cases h), rfnn264_ok, rfnn392_ok⟩
theorem rfnn584_ok : AllT (fun f F => Tryz.prog.funcs[f]? = some F ∧ (F.name == "runtime.NumGoroutine") = false) rfnn584 512 584 := ⟨fun x h => (by cases h; exact ⟨Tryz.func584, by kernel_rfl⟩), trivial, trivial⟩
theorem rfnn328_ok : AllT (fun f F => Tryz.prog.funcs[f]? = some F ∧ (F.name == "runtime.NumGoroutine") = false) rfnn328 256 328 := ⟨fun x h => (by cases h; exact ⟨Tryz.func328, by kernel_rfl⟩), rfnn584_ok, trivial⟩
theorem rfnn200_ok : AllT (fun f F => Tryz.prog.funcs[f]? = some F ∧ (F.name == "runtime.NumGoroutine") = false) rfnn200 128 200 := ⟨fun x h => (by cases h), rfnn328_ok, trivial⟩
theorem rfnn72_ok : AllT (fun f F => Tryz.prog.funcs[f]? = some F ∧ (F.name == "runtime.NumGoroutine") = false) rfnn72 64 72 := ⟨fun x h => (by cases h; exact ⟨Tryz.func72, by kernel_rfl⟩), rfnn136_ok, rfnn200_ok⟩
theorem rfnn296_ok : AllT (fun f F => Tryz.prog.funcs[f]? = some F ∧ (F.name == "runtime.NumGoroutine") = false) rfnn296 256 296 := ⟨fun x h => (by cases h; exact ⟨Tryz.func296, by kernel_rfl⟩), trivial, trivial⟩
theorem rfnn168_ok : AllT (fun f F => Tryz.prog.funcs[f]? = some F ∧ (F.name == "runtime.NumGoroutine") = false) rfnn168 128 168 := ⟨fun x h => (by cases h; exact ⟨Tryz.func168, by kernel_rfl⟩), rfnn296_ok, trivial⟩
theorem rfnn360_ok : AllT (fun f F => Tryz.prog.funcs[f]? = some F ∧ (F.name == "runtime.NumGoroutine") = false) rfnn360 256 360 := ⟨fun x h => (by cases h; exact ⟨Tryz.func360, by kernel_rfl⟩), trivial, trivial⟩
theorem rfnn232_ok : AllT (fun f F => Tryz.prog.funcs[f]? = some F ∧ (F.name == "runtime.NumGoroutine") = false) rfnn232 128 232 := ⟨fun x h => (by cases h; exact ⟨Tryz.func232, by kernel_rfl⟩), rfnn360_ok, trivial⟩
theorem rfnn104_ok : AllT (fun f F => Tryz.prog.funcs[f]? = some F ∧ (F.name == "runtime.NumGoroutine") = false) rfnn104 64 104 := ⟨fun x h => (by cases h; exact ⟨Tryz.func104, by kernel_rfl⟩), rfnn168_ok, rfnn232_ok⟩
theorem rfnn40_ok : AllT (fun f F => Tryz.prog.funcs[f]? = some F ∧ (F.name == "runtime.NumGoroutine") = false) rfnn40 32 40 := ⟨fun x h => (by cases h; exact ⟨Tryz.func40, by kernel_rfl⟩), rfnn72_ok, rfnn104_ok⟩
theorem rfnn280_ok : AllT (fun f F => Tryz.prog.funcs[f]? = some F ∧ (F.name == "runtime.NumGoroutine") = false) rfnn280 256 280 := ⟨fun x h => (by cases h; exact ⟨Tryz.func280, by kernel_rfl⟩), trivial, trivial⟩
theorem rfnn152_ok : AllT (fun f F => Tryz.prog.funcs[f]? = some F ∧ (F.name == "runtime.NumGoroutine") = false) rfnn152 128 152 := ⟨fun x h => (by cases h; exact ⟨Tryz.func152, by kernel_rfl⟩), rfnn280_ok, trivial⟩
theorem rfnn600_ok : AllT (fun f F => Tryz.prog.funcs[f]? = some F ∧ (F.name == "runtime.NumGoroutine") = false) rfnn600 512 600 := ⟨fun x h => (by cases h; exact ⟨Tryz.func600, by kernel_rfl⟩), trivial, trivial⟩
theorem rfnn344_ok : AllT (fun f F => Tryz.prog.funcs[f]? = some F ∧ (F.name == "runtime.NumGoroutine") = false) rfnn344 256 344 := ⟨fun x h => (by cases h), rfnn600_ok, trivial⟩
theorem rfnn216_ok : AllT (fun f F => Tryz.prog.funcs[f]? = some F ∧ (F.name == "runtime.NumGoroutine") = false) rfnn216 128 216 := ⟨fun x h => (by cases h; exact ⟨Tryz.func216, by kernel_rfl⟩), rfnn344_ok, trivial⟩
theorem rfnn88_ok : AllT (fun f F => Tryz.prog.funcs[f]? = some F ∧ (F.name == "runtime.NumGoroutine") = false) rfnn88 64 88 := ⟨fun x h => (by cases h), rfnn152_ok, rfnn216_ok⟩
theorem rfnn312_ok : AllT (fun f F => Tryz.prog.funcs[f]? = some F ∧ (F.name == "runtime.NumGoroutine") = false) rfnn312 256 312 := ⟨fun x h => (by cases h; exact ⟨Tryz.func312, by kernel_rfl⟩), trivial, trivial⟩
theorem rfnn184_ok : AllT (fun f F => Tryz.prog.funcs[f]? = some F ∧ (F.name == "runtime.NumGoroutine") = false) rfnn184 128 184 := ⟨fun x h => (by cases h), rfnn312_ok, trivial⟩
theorem rfnn632_ok : AllT (fun f F => Tryz.prog.funcs[f]? = some F ∧ (F.name == "runtime.NumGoroutine") = false) rfnn632 512 632 := ⟨fun x h => (by cases h; exact ⟨Tryz.func632, by kernel_rfl⟩), trivial, trivial⟩
theorem rfnn376_ok : AllT (fun f F => Tryz.prog.funcs[f]? = some F ∧ (F.name == "runtime.NumGoroutine") = false) rfnn376 256 376 := ⟨fun x h => (by cases h; exact ⟨Tryz.func376, by kernel_rfl⟩), rfnn632_ok, trivial⟩
theorem rfnn248_ok : AllT (fun f F => Tryz.prog.funcs[f]? = some F ∧ (F.name == "runtime.NumGoroutine") = false) rfnn248 128 248 := ⟨fun x h => (by cases h), rfnn376_ok, trivial⟩
theorem rfnn120_ok : AllT (fun f F => Tryz.prog.funcs[f]? = some F ∧ (F.name == "runtime.NumGoroutine") = false) rfnn120 64 120 := ⟨fun x h => (by cases h; exact ⟨Tryz.func120, by kernel_rfl⟩), rfnn184_ok, rfnn248_ok⟩
theorem rfnn56_ok : AllT (fun f F => Tryz.prog.funcs[f]? = some F ∧ (F.name == "runtime.NumGoroutine") = false) rfnn56 32 56 := ⟨fun x h => (by cases h), rfnn88_ok, rfnn120_ok⟩
theorem rfnn24_ok : AllT (fun f F => Tryz.prog.funcs[f]? = some F ∧ (F.name == "runtime.NumGoroutine") = false) rfnn24 16 24 := ⟨fun x h => (by cases h; exact ⟨Tryz.func24, by kernel_rfl⟩), rfnn40_ok, rfnn56_ok⟩
theorem rfnn8_ok : AllT (fun f F => Tryz.prog.funcs[f]? = some F ∧ (F.name == "runtime.NumGoroutine") = false) rfnn8 8 8 := ⟨fun x h => (by cases h), rfnn16_ok, rfnn24_ok⟩
theorem rfnn516_ok : AllT (fun f F => Tryz.prog.funcs[f]? = some F ∧ (F.name == "runtime.NumGoroutine") = false) rfnn516 512 516 := ⟨fun x h => (by cases h; exact ⟨Tryz.func516, by kernel_rfl⟩), trivial, trivial⟩
theorem rfnn260_ok : AllT (fun f F => Tryz.prog.funcs[f]? = some F ∧ (F.name == "runtime.NumGoroutine") = false) rfnn260 256 260 := ⟨fun x h => (by cases h), rfnn516_ok, trivial⟩
theorem rfnn644_ok : AllT (fun f F => Tryz.prog.funcs[f]? = some F ∧ (F.name == "runtime.NumGoroutine") = false) rfnn644 512 644 := ⟨fun x h => (by cases h; exact ⟨Tryz.func644, by kernel_rfl⟩), trivial, trivial⟩
theorem rfnn388_ok : AllT (fun f F => Tryz.prog.funcs[f]? = some F ∧ (F.name == "runtime.NumGoroutine") = false) rfnn388 256 388 := ⟨fun x h => (by cases h; exact ⟨Tryz.func388, by kernel_rfl⟩), rfnn644_ok, trivial⟩
theorem rfnn132_ok : AllT (fun f F => Tryz.prog.funcs[f]? = some F ∧ (F.name == "runtime.NumGoroutine") = false) rfnn132 128 132 := ⟨fun x h => (by cases h), rfnn260_ok, rfnn388_ok⟩
theorem rfnn580_ok : AllT (fun f F => Tryz.prog.funcs[f]? = some F ∧ (F.name == "runtime.NumGoroutine") = false) rfnn580 512 580 := ⟨fun x h => (by cases h; exact ⟨Tryz.func580, by kernel_rfl⟩), trivial, trivial⟩
theorem rfnn324_ok : AllT (fun f F => Tryz.prog.funcs[f]? = some F ∧ (F.name == "runtime.NumGoroutine") = false) rfnn324 256 324 := ⟨fun x h => (by cases h), rfnn580_ok, trivial⟩
theorem rfnn196_ok : AllT (fun f F => Tryz.prog.funcs[f]? = some F ∧ (F.name == "runtime.NumGoroutine") = false) rfnn196 128 196 := ⟨fun x h => (by cases h), rfnn324_ok, trivial⟩
theorem rfnn68_ok : AllT (fun f F => Tryz.prog.funcs[f]? = some F ∧ (F.name == "runtime.NumGoroutine") = false) rfnn68 64 68 := ⟨fun x h => (by cases h; exact ⟨Tryz.func68, by kernel_rfl⟩), rfnn132_ok, rfnn196_ok⟩
theorem rfnn292_ok : AllT (fun f F => Tryz.prog.funcs[f]? = some F ∧ (F.name == "runtime.NumGoroutine") = false) rfnn292 256 292 := ⟨fun x h => (by cases h; exact ⟨Tryz.func292, by kernel_rfl⟩), trivial, trivial⟩
theorem rfnn676_ok : AllT (fun f F => Tryz.prog.funcs[f]? = some F ∧ (F.name == "runtime.NumGoroutine") = false) rfnn676 512 676 := ⟨fun x h => (by cases h; exact ⟨Tryz.func676, by kernel_rfl⟩), trivial, trivial⟩
theorem rfnn420_ok : AllT (fun f F => Tryz.prog.funcs[f]? = some F ∧ (F.name == "runtime.NumGoroutine") = false) rfnn420 256 420 := ⟨fun x h => (by cases h; exact ⟨Tryz.func420, by kernel_rfl⟩), rfnn676_ok, trivial⟩
theorem rfnn164_ok : AllT (fun f F => Tryz.prog.funcs[f]? = some F ∧ (F.name == "runtime.NumGoroutine") = false) rfnn164 128 164 := ⟨fun x h => (by cases h; exact ⟨Tryz.func164, by kernel_rfl⟩), rfnn292_ok, rfnn420_ok⟩
theorem rfnn612_ok : AllT (fun f F => Tryz.prog.funcs[f]? = some F ∧ (F.name == "runtime.NumGoroutine") = false) rfnn612 512 612 := ⟨fun x h => (by cases h; exact ⟨Tryz.func612, by kernel_rfl⟩), trivial, trivial⟩
theorem rfnn356_ok : AllT (fun f F => Tryz.prog.funcs[f]? = some F ∧ (F.name == "runtime.NumGoroutine") = false) rfnn356 256 356 := ⟨fun x h => (by cases h; exact ⟨Tryz.func356, by kernel_rfl⟩), rfnn612_ok, trivial⟩
theorem rfnn484_ok : AllT (fun f F => Tryz.prog.funcs[f]? = some F ∧ (F.name == "runtime.NumGoroutine") = false) rfnn484 256 484 := ⟨fun x h => (by cases h; exact ⟨Tryz.func484, by kernel_rfl⟩), trivial, trivial⟩
theorem rfnn228_ok : AllT (fun f F => Tryz.prog.funcs[f]? = some F ∧ (F.name == "runtime.NumGoroutine") = false) rfnn228 128 228 := ⟨fun x h => (by cases h), rfnn356_ok, rfnn484_ok⟩
theorem rfnn100_ok : AllT (fun f F => Tryz.prog.funcs[f]? = some F ∧ (F.name == "runtime.NumGoroutine") = false) rfnn100 64 100 := ⟨fun x h => (by cases h; exact ⟨Tryz.func100, by kernel_rfl⟩), rfnn164_ok, rfnn228_ok⟩
theorem rfnn36_ok : AllT (fun f F => Tryz.prog.funcs[f]? = some F ∧ (F.name == "runtime.NumGoroutine") = false) rfnn36 32 36 := ⟨fun x h => (by cases h; exact ⟨Tryz.func36, by kernel_rfl⟩), rfnn68_ok, rfnn100_ok⟩
theorem rfnn532_ok : AllT (fun f F => Tryz.prog.funcs[f]? = some F ∧ (F.name == "runtime.NumGoroutine") = false) rfnn532 512 532 := ⟨fun x h => (by cases h; exact ⟨Tryz.func532, by kernel_rfl⟩), trivial, trivial⟩
theorem rfnn276_ok : AllT (fun f F => Tryz.prog.funcs[f]? = some F ∧ (F.name == "runtime.NumGoroutine") = false) rfnn276 256 276 := ⟨fun x h => (by cases h), rfnn532_ok, trivial⟩
theorem rfnn148_ok : AllT (fun f F => Tryz.prog.funcs[f]? = some F ∧ (F.name == "runtime.NumGoroutine") = false) rfnn148 128 148 := ⟨fun x h => (by cases h; exact ⟨Tryz.func148, by kernel_rfl⟩), rfnn276_ok, trivial⟩
theorem rfnn212_ok : AllT (fun f F => Tryz.prog.funcs[f]? = some F ∧ (F.name == "runtime.NumGoroutine") = false) rfnn212 128 212 := ⟨fun x h => (by cases h; exact ⟨Tryz.func212, by kernel_rfl⟩), trivial, trivial⟩
theorem rfnn84_ok : AllT (fun f F => Tryz.prog.funcs[f]? = some F ∧ (F.name == "runtime.NumGoroutine") = false) rfnn84 64 84 := ⟨fun x h => (by cases h; exact ⟨Tryz.func84, by kernel_rfl⟩), rfnn148_ok, rfnn212_ok⟩
theorem rfnn308_ok : AllT (fun f F => Tryz.prog.funcs[f]? = some F ∧ (F.name == "runtime.NumGoroutine") = false) rfnn308 256 308 := ⟨fun x h => (by cases h; exact ⟨Tryz.func308, by kernel_rfl⟩), trivial, trivial⟩
theorem rfnn180_ok : AllT (fun f F => Tryz.prog.funcs[f]? = some F ∧ (F.name == "runtime.NumGoroutine") = false) rfnn180 128 180 := ⟨fun x h => (by cases h), rfnn308_ok, trivial⟩
theorem rfnn372_ok : AllT (fun f F => Tryz.prog.funcs[f]? = some F ∧ (F.name == "runtime.NumGoroutine") = false) rfnn372 256 372 := ⟨fun x h => (by cases h; exact ⟨Tryz.func372, by kernel_rfl⟩), trivial, trivial⟩
theorem rfnn500_ok : AllT (fun f F => Tryz.prog.funcs[f]? = some F ∧ (F.name == "runtime.NumGoroutine") = false) rfnn500 256 500 := ⟨fun x h => (by cases h; exact ⟨Tryz.func500, by kernel_rfl⟩), trivial, trivial⟩
theorem rfnn244_ok : AllT (fun f F => Tryz.prog.funcs[f]? = some F ∧ (F.name == "runtime.NumGoroutine") = false) rfnn244 128 244 := ⟨fun x h => (by cases h), rfnn372_ok, rfnn500_ok⟩
theorem rfnn116_ok : AllT (fun f F => Tryz.prog.funcs[f]? = some F ∧ (F.name == "runtime.NumGoroutine") = false) rfnn116 64 116 := ⟨fun x h => (by cases h; exact ⟨Tryz.func116, by kernel_rfl⟩), rfnn180_ok, rfnn244_ok⟩
theorem rfnn52_ok : AllT (fun f F => Tryz.prog.funcs[f]? = some F ∧ (F.name == "runtime.NumGoroutine") = false) rfnn52 32 52 := ⟨fun x h => (by cases h; exact ⟨Tryz.func52, by kernel_rfl⟩), rfnn84_ok, rfnn116_ok⟩
theorem rfnn20_ok : AllT (fun f F => Tryz.prog.funcs[f]? = some F ∧ (F.name == "runtime.NumGoroutine") = false) rfnn20 16 20 := ⟨fun x h => (by cases h; exact ⟨Tryz.func20, by kernel_rfl⟩), rfnn36_ok, rfnn52_ok⟩
theorem rfnn524_ok : AllT (fun f F => Tryz.prog.funcs[f]? = some F ∧ (F.name == "runtime.NumGoroutine") = false) rfnn524 512 524 := ⟨fun x h => (by cases h; exact ⟨Tryz.func524, by kernel_rfl⟩), trivial, trivial⟩
theorem rfnn268_ok : AllT (fun f F => Tryz.prog.funcs[f]? = some F ∧ (F.name == "runtime.NumGoroutine") = false) rfnn268 256 268 := ⟨fun x h => (by cases h), rfnn524_ok, trivial⟩
theorem rfnn652_ok : AllT (fun f F => Tryz.prog.funcs[f]? = some F ∧ (F.name == "runtime.NumGoroutine") = false) rfnn652 512 652 := ⟨fun x h => (by cases h; exact ⟨Tryz.func652, by kernel_rfl⟩), trivial, trivial⟩
theorem rfnn396_ok : AllT (fun f F => Tryz.prog.funcs[f]? = some F ∧ (F.name == "runtime.NumGoroutine") = false) rfnn396 256 396 := ⟨fun x h => (by cases h; exact ⟨Tryz.func396, by kernel_rfl⟩), rfnn652_ok, trivial⟩
theorem rfnn140_ok : AllT (fun f F => Tryz.prog.funcs[f]? = some F ∧ (F.name == "runtime.NumGoroutine") = false) rfnn140 128 140 := ⟨fun x h => (by cases h; exact ⟨Tryz.func140, by kernel_rfl⟩), rfnn268_ok, rfnn396_ok⟩
theorem rfnn332_ok : AllT (fun f F => Tryz.prog.funcs[f]? = some F ∧ (F.name == "runtime.NumGoroutine") = false) rfnn332 256 332 := ⟨fun x h => (by cases h; exact ⟨Tryz.func332, by kernel_rfl⟩), trivial, trivial⟩
theorem rfnn204_ok : AllT (fun f F => Tryz.prog.funcs[f]? = some F ∧ (F.name == "runtime.NumGoroutine") = false) rfnn204 128 204 := ⟨fun x h => (by cases h; exact ⟨Tryz.func204, by kernel_rfl⟩), rfnn332_ok, trivial⟩
theorem rfnn76_ok : AllT (fun f F => Tryz.prog.funcs[f]? = some F ∧ (F.name == "runtime.NumGoroutine") = false) rfnn76 64 76 := ⟨fun x h => (by cases h; exact ⟨Tryz.func76, by kernel_rfl⟩), rfnn140_ok, rfnn204_ok⟩
theorem rfnn556_ok : AllT (fun f F => Tryz.prog.funcs[f]? = some F ∧ (F.name == "runtime.NumGoroutine") = false) rfnn556 512 556 := ⟨fun x h => (by cases h; exact ⟨Tryz.func556, by kernel_rfl⟩), trivial, trivial⟩
theorem rfnn300_ok : AllT (fun f F => Tryz.prog.funcs[f]? = some F ∧ (F.name == "runtime.NumGoroutine") = false) rfnn300 256 300 := ⟨fun x h => (by cases h; exact ⟨Tryz.func300, by kernel_rfl⟩), rfnn556_ok, trivial⟩
theorem rfnn172_ok : AllT (fun f F => Tryz.prog.funcs[f]? = some F ∧ (F.name == "runtime.NumGoroutine") = false) rfnn172 128 172 := ⟨fun x h => (by cases h), rfnn300_ok, trivial⟩
theorem rfnn620_ok : AllT (fun f F => Tryz.prog.funcs[f]? = some F ∧ (F.name == "runtime.NumGoroutine") = false) rfnn620 512 620 := ⟨fun x h => (by cases h; exact ⟨Tryz.func620, by kernel_rfl⟩), trivial, trivial⟩
theorem rfnn364_ok : AllT (fun f F => Tryz.prog.funcs[f]? = some F ∧ (F.name == "runtime.NumGoroutine") = false) rfnn364 256 364 := ⟨fun x h => (by cases h; exact ⟨Tryz.func364, by kernel_rfl⟩), rfnn620_ok, trivial⟩
theorem rfnn492_ok : AllT (fun f F => Tryz.prog.funcs[f]? = some F ∧ (F.name == "runtime.NumGoroutine") = false) rfnn492 256 492 := ⟨fun x h => (by cases h; exact ⟨Tryz.func492, by kernel_rfl⟩), trivial, trivial⟩
theorem rfnn236_ok : AllT (fun f F => Tryz.prog.funcs[f]? = some F ∧ (F.name == "runtime.NumGoroutine") = false) rfnn236 128 236 := ⟨fun x h => (by cases h; exact ⟨Tryz.func236, by kernel_rfl⟩), rfnn364_ok, rfnn492_ok⟩
theorem rfnn108_ok : AllT (fun f F => Tryz.prog.funcs[f]? = some F ∧ (F.name == "runtime.NumGoroutine") = false) rfnn108 64 108 := ⟨fun x h => (by cases h; exact ⟨Tryz.func108, by kernel_rfl⟩), rfnn172_ok, rfnn236_ok⟩
theorem rfnn44_ok : AllT (fun f F => Tryz.prog.funcs[f]? = some F ∧ (F.name == "runtime.NumGoroutine") = false) rfnn44 32 44 := ⟨fun x h => (by cases h; exact ⟨Tryz.func44, by kernel_rfl⟩), rfnn76_ok, rfnn108_ok⟩
theorem rfnn284_ok : AllT (fun f F => Tryz.prog.funcs[f]? = some F ∧ (F.name == "runtime.NumGoroutine") = false) rfnn284 256 284 := ⟨fun x h => (by cases h; exact ⟨Tryz.func284, by kernel_rfl⟩), trivial, trivial⟩
theorem rfnn156_ok : AllT (fun f F => Tryz.prog.funcs[f]? = some F ∧ (F.name == "runtime.NumGoroutine") = false) rfnn156 128 156 := ⟨fun x h => (by cases h; exact ⟨Tryz.func156, by kernel_rfl⟩), rfnn284_ok, trivial⟩
theorem rfnn348_ok : AllT (fun f F => Tryz.prog.funcs[f]? = some F ∧ (F.name == "runtime.NumGoroutine") = false) rfnn348 256 348 := ⟨fun x h => (by cases h; exact ⟨Tryz.func348, by kernel_rfl⟩), trivial, trivial⟩
theorem rfnn476_ok : AllT (fun f F => Tryz.prog.funcs[f]? = some F ∧ (F.name == "runtime.NumGoroutine") = false) rfnn476 256 476 := ⟨fun x h => (by cases h; exact ⟨Tryz.func476, by kernel_rfl⟩), trivial, trivial⟩
theorem rfnn220_ok : AllT (fun f F => Tryz.prog.funcs[f]? = some F ∧ (F.name == "runtime.NumGoroutine") = false) rfnn220 128 220 := ⟨fun x h => (by cases h; exact ⟨Tryz.func220, by kernel_rfl⟩), rfnn348_ok, rfnn476_ok⟩
theorem rfnn92_ok : AllT (fun f F => Tryz.prog.funcs[f]? = some F ∧ (F.name == "runtime.NumGoroutine") = false) rfnn92 64 92 := ⟨fun x h => (by cases h), rfnn156_ok, rfnn220_ok⟩
theorem rfnn572_ok : AllT (fun f F => Tryz.prog.funcs[f]? = some F ∧ (F.name == "runtime.NumGoroutine") = false) rfnn572 512 572 := ⟨fun x h => (by cases h; exact ⟨Tryz.func572, by kernel_rfl⟩), trivial, trivial⟩
theorem rfnn316_ok : AllT (fun f F => Tryz.prog.funcs[f]? = some F ∧ (F.name == "runtime.NumGoroutine") = false) rfnn316 256 316 := ⟨fun x h => (by cases h), rfnn572_ok, trivial⟩
theorem rfnn188_ok : AllT (fun f F => Tryz.prog.funcs[f]? = some F ∧ (F.name == "runtime.NumGoroutine") = false) rfnn188 128 188 := ⟨fun x h => (by cases h), rfnn316_ok, trivial⟩
theorem rfnn508_ok : AllT (fun f F => Tryz.prog.funcs[f]? = some F ∧ (F.name == "runtime.NumGoroutine") = false) rfnn508 256 508 := ⟨fun x h => (by cases h; exact ⟨Tryz.func508, by kernel_rfl⟩), trivial, trivial⟩
theorem rfnn252_ok : AllT (fun f F => Tryz.prog.funcs[f]? = some F ∧ (F.name == "runtime.NumGoroutine") = false) rfnn252 128 252 := ⟨fun x h => (by cases h; exact ⟨Tryz.func252, by kernel_rfl⟩), trivial, rfnn508_ok⟩
theorem rfnn124_ok : AllT (fun f F => Tryz.prog.funcs[f]? = some F ∧ (F.name == "runtime.NumGoroutine") = false) rfnn124 64 124 := ⟨fun x h => (by cases h), rfnn188_ok, rfnn252_ok⟩
theorem rfnn60_ok : AllT (fun f F => Tryz.prog.funcs[f]? = some F ∧ (F.name == "runtime.NumGoroutine") = false) rfnn60 32 60 := ⟨fun x h => (by cases h; exact ⟨Tryz.func60, by kernel_rfl⟩), rfnn92_ok, rfnn124_ok⟩
theorem rfnn28_ok : AllT (fun f F => Tryz.prog.funcs[f]? = some F ∧ (F.name == "runtime.NumGoroutine") = false) rfnn28 16 28 := ⟨fun x h => (by cases h; exact ⟨Tryz.func28, by kernel_rfl⟩), rfnn44_ok, rfnn60_ok⟩
theorem rfnn12_ok : AllT (fun f F => Tryz.prog.funcs[f]? = some F ∧ (F.name == "runtime.NumGoroutine") = false) rfnn12 8 12 := ⟨fun x h => (by cases h; exact ⟨Tryz.func12, by kernel_rfl⟩), rfnn20_ok, rfnn28_ok⟩
theorem rfnn4_ok : AllT (fun f F => Tryz.prog.funcs[f]? = some F ∧ (F.name == "runtime.NumGoroutine") = false) rfnn4 4 4 := ⟨fun x h => (by cases h), rfnn8_ok, rfnn12_ok⟩
theorem rfnn386_ok : AllT (fun f F => Tryz.prog.funcs[f]? = some F ∧ (F.name == "runtime.NumGoroutine") = false) rfnn386 256 386 := ⟨fun x h => (by cases h; exact ⟨Tryz.func386, by kernel_rfl⟩), trivial, trivial⟩
theorem rfnn130_ok : AllT (fun f F => Tryz.prog.funcs[f]? = some F ∧ (F.name == "runtime.NumGoroutine") = false) rfnn130 128 130 := ⟨fun x h => (by cases h), trivial, rfnn386_ok⟩
theorem rfnn578_ok : AllT (fun f F => Tryz.prog.funcs[f]? = some F ∧ (F.name == "runtime.NumGoroutine") = false) rfnn578 512 578 := ⟨fun x h => (by cases h; exact ⟨Tryz.func578, by kernel_rfl⟩), trivial, trivial⟩
theorem rfnn322_ok : AllT (fun f F => Tryz.prog.funcs[f]? = some F ∧ (F.name == "runtime.NumGoroutine") = false) rfnn322 256 322 := ⟨fun x h => (by cases h), rfnn578_ok, trivial⟩
theorem rfnn194_ok : AllT (fun f F => Tryz.prog.funcs[f]? = some F ∧ (F.name == "runtime.NumGoroutine") = false) rfnn194 128 194 := ⟨fun x h => (by cases h), rfnn322_ok, trivial⟩
theorem rfnn66_ok : AllT (fun f F => Tryz.prog.funcs[f]? = some F ∧ (F.name == "runtime.NumGoroutine") = false) rfnn66 64 66 := ⟨fun x h => (by cases h), rfnn130_ok, rfnn194_ok⟩
theorem rfnn290_ok : AllT (fun f F => Tryz.prog.funcs[f]? = some F ∧ (F.name == "runtime.NumGoroutine") = false) rfnn290 256 290 := ⟨fun x h => (by cases h; exact ⟨Tryz.func290, by kernel_rfl⟩), trivial, trivial⟩
theorem rfnn674_ok : AllT (fun f F => Tryz.prog.funcs[f]? = some F ∧ (F.name == "runtime.NumGoroutine") = false) rfnn674 512 674 := ⟨fun x h => (by cases h; exact ⟨Tryz.func674, by kernel_rfl⟩), trivial, trivial⟩
theorem rfnn418_ok : AllT (fun f F => Tryz.prog.funcs[f]? = some F ∧ (F.name == "runtime.NumGoroutine") = false) rfnn418 256 418 := ⟨fun x h => (by cases h), rfnn674_ok, trivial⟩
theorem rfnn162_ok : AllT (fun f F => Tryz.prog.funcs[f]? = some F ∧ (F.name == "runtime.NumGoroutine") = false) rfnn162 128 162 := ⟨fun x h => (by cases h; exact ⟨Tryz.func162, by kernel_rfl⟩), rfnn290_ok, rfnn418_ok⟩
theorem rfnn610_ok : AllT (fun f F => Tryz.prog.funcs[f]? = some F ∧ (F.name == "runtime.NumGoroutine") = false) rfnn610 512 610 := ⟨fun x h => (by cases h; exact ⟨Tryz.func610, by kernel_rfl⟩), trivial, trivial⟩
theorem rfnn354_ok : AllT (fun f F => Tryz.prog.funcs[f]? = some F ∧ (F.name == "runtime.NumGoroutine") = false) rfnn354 256 354 := ⟨fun x h => (by cases h; exact ⟨Tryz.func354, by kernel_rfl⟩), rfnn610_ok, trivial⟩
theorem rfnn482_ok : AllT (fun f F => Tryz.prog.funcs[f]? = some F ∧ (F.name == "runtime.NumGoroutine") = false) rfnn482 256 482 := ⟨fun x h => (by cases h; exact ⟨Tryz.func482, by kernel_rfl⟩), trivial, trivial⟩
theorem rfnn226_ok : AllT (fun f F => Tryz.prog.funcs[f]? = some F ∧ (F.name == "runtime.NumGoroutine") = false) rfnn226 128 226 := ⟨fun x h => (by cases h), rfnn354_ok, rfnn482_ok⟩
theorem rfnn98_ok : AllT (fun f F => Tryz.prog.funcs[f]? = some F ∧ (F.name == "runtime.NumGoroutine") = false) rfnn98 64 98 := ⟨fun x h => (by cases h; exact ⟨Tryz.func98, by kernel_rfl⟩), rfnn162_ok, rfnn226_ok⟩
theorem rfnn34_ok : AllT (fun f F => Tryz.prog.funcs[f]? = some F ∧ (F.name == "runtime.NumGoroutine") = false) rfnn34 32 34 := ⟨fun x h => (by cases h), rfnn66_ok, rfnn98_ok⟩
theorem rfnn530_ok : AllT (fun f F => Tryz.prog.funcs[f]? = some F ∧ (F.name == "runtime.NumGoroutine") = false) rfnn530 512 530 := ⟨fun x h => (by cases h; exact ⟨Tryz.func530, by kernel_rfl⟩), trivial, trivial⟩
theorem rfnn274_ok : AllT (fun f F => Tryz.prog.funcs[f]? = some F ∧ (F.name == "runtime.NumGoroutine") = false) rfnn274 256 274 := ⟨fun x h => (by cases h), rfnn530_ok, trivial⟩
theorem rfnn658_ok : AllT (fun f F => Tryz.prog.funcs[f]? = some F ∧ (F.name == "runtime.NumGoroutine") = false) rfnn658 512 658 := ⟨fun x h => (by cases h; exact ⟨Tryz.func658, by kernel_rfl⟩), trivial, trivial⟩
theorem rfnn402_ok : AllT (fun f F => Tryz.prog.funcs[f]? = some F ∧ (F.name == "runtime.NumGoroutine") = false) rfnn402 256 402 := ⟨fun x h => (by cases h), rfnn658_ok, trivial⟩
theorem rfnn146_ok : AllT (fun f F => Tryz.prog.funcs[f]? = some F ∧ (F.name == "runtime.NumGoroutine") = false) rfnn146 128 146 := ⟨fun x h => (by cases h), rfnn274_ok, rfnn402_ok⟩
theorem rfnn594_ok : AllT (fun f F => Tryz.prog.funcs[f]? = some F ∧ (F.name == "runtime.NumGoroutine") = false) rfnn594 512 594 := ⟨fun x h => (by cases h; exact ⟨Tryz.func594, by kernel_rfl⟩), trivial, trivial⟩
theorem rfnn338_ok : AllT (fun f F => Tryz.prog.funcs[f]? = some F ∧ (F.name == "runtime.NumGoroutine") = false) rfnn338 256 338 := ⟨fun x h => (by cases h), rfnn594_ok, trivial⟩
theorem rfnn210_ok : AllT (fun f F => Tryz.prog.funcs[f]? = some F ∧ (F.name == "runtime.NumGoroutine") = false) rfnn210 128 210 := ⟨fun x h => (by cases h; exact ⟨Tryz.func210, by kernel_rfl⟩), rfnn338_ok, trivial⟩
theorem rfnn82_ok : AllT (fun f F => Tryz.prog.funcs[f]? = some F ∧ (F.name == "runtime.NumGoroutine") = false) rfnn82 64 82 := ⟨fun x h => (by cases h; exact ⟨Tryz.func82, by kernel_rfl⟩), rfnn146_ok, rfnn210_ok⟩
theorem rfnn306_ok : AllT (fun f F => Tryz.prog.funcs[f]? = some F ∧ (F.name == "runtime.NumGoroutine") = false) rfnn306 256 306 := ⟨fun x h => (by cases h; exact ⟨Tryz.func306, by kernel_rfl⟩), trivial, trivial⟩
theorem rfnn178_ok : AllT (fun f F => Tryz.prog.funcs[f]? = some F ∧ (F.name == "runtime.NumGoroutine") = false) rfnn178 128 178 := ⟨fun x h => (by cases h), rfnn306_ok, trivial⟩
theorem rfnn370_ok : AllT (fun f F => Tryz.prog.funcs[f]? = some F ∧ (F.name == "runtime.NumGoroutine") = false) rfnn370 256 370 := ⟨fun x h => (by cases h; exact ⟨Tryz.func370, by kernel_rfl⟩), trivial, trivial⟩
theorem rfnn498_ok : AllT (fun f F => Tryz.prog.funcs[f]? = some F ∧ (F.name == "runtime.NumGoroutine") = false) rfnn498 256 498 := ⟨fun x h => (by cases h; exact ⟨Tryz.func498, by kernel_rfl⟩), trivial, trivial⟩
theorem rfnn242_ok : AllT (fun f F => Tryz.prog.funcs[f]? = some F ∧ (F.name == "runtime.NumGoroutine") = false) rfnn242 128 242 := ⟨fun x h => (by cases h), rfnn370_ok, rfnn498_ok⟩
theorem rfnn114_ok : AllT (fun f F => Tryz.prog.funcs[f]? = some F ∧ (F.name == "runtime.NumGoroutine") = false) rfnn114 64 114 := ⟨fun x h => (by cases h; exact ⟨Tryz.func114, by kernel_rfl⟩), rfnn178_ok, rfnn242_ok⟩
theorem rfnn50_ok : AllT (fun f F => Tryz.prog.funcs[f]? = some F ∧ (F.name == "runtime.NumGoroutine") = false) rfnn50 32 50 := ⟨fun x h => (by cases h; exact ⟨Tryz.func50, by kernel_rfl⟩), rfnn82_ok, rfnn114_ok⟩
theorem rfnn18_ok : AllT (fun f F => Tryz.prog.funcs[f]? = some F ∧ (F.name == "runtime.NumGoroutine") = false) rfnn18 16 18 := ⟨fun x h => (by cases h; exact ⟨Tryz.func18, by kernel_rfl⟩), rfnn34_ok, rfnn50_ok⟩
theorem rfnn522_ok : AllT (fun f F => Tryz.prog.funcs[f]? = some F ∧ (F.name == "runtime.NumGoroutine") = false) rfnn522 512 522 := ⟨fun x h => (by cases h; exact ⟨Tryz.func522, by kernel_rfl⟩), trivial, trivial⟩
theorem rfnn266_ok : AllT (fun f F => Tryz.prog.funcs[f]? = some F ∧ (F.name == "runtime.NumGoroutine") = false) rfnn266 256 266 := ⟨fun x h => (by cases h; exact ⟨Tryz.func266, by kernel_rfl⟩), rfnn522_ok, trivial⟩
theorem rfnn650_ok : AllT (fun f F => Tryz.prog.funcs[f]? = some F ∧ (F.name == "runtime.NumGoroutine") = false) rfnn650 512 650 := ⟨fun x h => (by cases h; exact ⟨Tryz.func650, by kernel_rfl⟩), trivial, trivial⟩
theorem rfnn394_ok : AllT (fun f F => Tryz.prog.funcs[f]? = some F ∧ (F.name == "runtime.NumGoroutine") = false) rfnn394 256 394 := ⟨fun x h => (by cases h), rfnn650_ok, trivial⟩
theorem rfnn138_ok : AllT (fun f F => Tryz.prog.funcs[f]? = some F ∧ (F.name == "runtime.NumGoroutine") = false) rfnn138 128 138 := ⟨fun x h => (by cases h), rfnn266_ok, rfnn394_ok⟩
theorem rfnn586_ok : AllT (fun f F => Tryz.prog.funcs[f]? = some F ∧ (F.name == "runtime.NumGoroutine") = false) rfnn586 512 586 := ⟨fun x h => (by cases h; exact ⟨Tryz.func586, by kernel_rfl⟩), trivial, trivial⟩
theorem rfnn330_ok : AllT (fun f F => Tryz.prog.funcs[f]? = some F ∧ (F.name == "runtime.NumGoroutine") = false) rfnn330 256 330 := ⟨fun x h => (by cases h; exact ⟨Tryz.func330, by kernel_rfl⟩), rfnn586_ok, trivial⟩
theorem rfnn202_ok : AllT (fun f F => Tryz.prog.funcs[f]? = some F ∧ (F.name == "runtime.NumGoroutine") = false) rfnn202 128 202 := ⟨fun x h => (by cases h), rfnn330_ok, trivial⟩
theorem rfnn74_ok : AllT (fun f F => Tryz.prog.funcs[f]? = some F ∧ (F.name == "runtime.NumGoroutine") = false) rfnn74 64 74 := ⟨fun x h => (by cases h; exact ⟨Tryz.func74, by kernel_rfl⟩), rfnn138_ok, rfnn202_ok⟩
theorem rfnn554_ok : AllT (fun f F => Tryz.prog.funcs[f]? = some F ∧ (F.name == "runtime.NumGoroutine") = false) rfnn554 512 554 := ⟨fun x h => (by cases h; exact ⟨Tryz.func554, by kernel_rfl⟩), trivial, trivial⟩
theorem rfnn298_ok : AllT (fun f F => Tryz.prog.funcs[f]? = some F ∧ (F.name == "runtime.NumGoroutine") = false) rfnn298 256 298 := ⟨fun x h => (by cases h; exact ⟨Tryz.func298, by kernel_rfl⟩), rfnn554_ok, trivial⟩
theorem rfnn682_ok : AllT (fun f F => Tryz.prog.funcs[f]? = some F ∧ (F.name == "runtime.NumGoroutine") = false) rfnn682 512 682 := ⟨fun x h => (by cases h; exact ⟨Tryz.func682, by kernel_rfl⟩), trivial, trivial⟩
theorem rfnn426_ok : AllT (fun f F => Tryz.prog.funcs[f]? = some F ∧ (F.name == "runtime.NumGoroutine") = false) rfnn426 256 426 := ⟨fun x h => (by cases h), rfnn682_ok, trivial⟩
theorem rfnn170_ok : AllT (fun f F => Tryz.prog.funcs[f]? = some F ∧ (F.name == "runtime.NumGoroutine") = false) rfnn170 128 170 := ⟨fun x h => (by cases h; exact ⟨Tryz.func170, by kernel_rfl⟩), rfnn298_ok, rfnn426_ok⟩
theorem rfnn234_ok : AllT (fun f F => Tryz.prog.funcs[f]? = some F ∧ (F.name == "runtime.NumGoroutine") = false) rfnn234 128 234 := ⟨fun x h => (by cases h; exact ⟨Tryz.func234, by kernel_rfl⟩), trivial, trivial⟩
theorem rfnn106_ok : AllT (fun f F => Tryz.prog.funcs[f]? = some F ∧ (F.name == "runtime.NumGoroutine") = false) rfnn106 64 106 := ⟨fun x h => (by cases h; exact ⟨Tryz.func106, by kernel_rfl⟩), rfnn170_ok, rfnn234_ok⟩
theorem rfnn42_ok : AllT (fun f F => Tryz.prog.funcs[f]? = some F ∧ (F.name == "runtime.NumGoroutine") = false) rfnn42 32 42 := ⟨fun x h => (by cases h), rfnn74_ok, rfnn106_ok⟩
theorem rfnn154_ok : AllT (fun f F => Tryz.prog.funcs[f]? = some F ∧ (F.name == "runtime.NumGoroutine") = false) rfnn154 128 154 := ⟨fun x h => (by cases h; exact ⟨Tryz.func154, by kernel_rfl⟩), trivial, trivial⟩
theorem rfnn602_ok : AllT (fun f F => Tryz.prog.funcs[f]? = some F ∧ (F.name == "runtime.NumGoroutine") = false) rfnn602 512 602 := ⟨fun x h => (by cases h; exact ⟨Tryz.func602, by kernel_rfl⟩), trivial, trivial⟩
theorem rfnn346_ok : AllT (fun f F => Tryz.prog.funcs[f]? = some F ∧ (F.name == "runtime.NumGoroutine") = false) rfnn346 256 346 := ⟨fun x h => (by cases h), rfnn602_ok, trivial⟩
theorem rfnn218_ok : AllT (fun f F => Tryz.prog.funcs[f]? = some F ∧ (F.name == "runtime.NumGoroutine") = false) rfnn218 128 218 := ⟨fun x h => (by cases h; exact ⟨Tryz.func218, by kernel_rfl⟩), rfnn346_ok, trivial⟩
theorem rfnn90_ok : AllT (fun f F => Tryz.prog.funcs[f]? = some F ∧ (F.name == "runtime.NumGoroutine") = false) rfnn90 64 90 := ⟨fun x h => (by cases h; exact ⟨Tryz.func90, by kernel_rfl⟩), rfnn154_ok, rfnn218_ok⟩
theorem rfnn570_ok : AllT (fun f F => Tryz.prog.funcs[f]? = some F ∧ (F.name == "runtime.NumGoroutine") = false) rfnn570 512 570 := ⟨fun x h => (by cases h; exact ⟨Tryz.func570, by kernel_rfl⟩), trivial, trivial⟩
theorem rfnn314_ok : AllT (fun f F => Tryz.prog.funcs[f]? = some F ∧ (F.name == "runtime.NumGoroutine") = false) rfnn314 256 314 := ⟨fun x h => (by cases h), rfnn570_ok, trivial⟩
theorem rfnn186_ok : AllT (fun f F => Tryz.prog.funcs[f]? = some F ∧ (F.name == "runtime.NumGoroutine") = false) rfnn186 128 186 := ⟨fun x h => (by cases h), rfnn314_ok, trivial⟩
theorem rfnn378_ok : AllT (fun f F => Tryz.prog.funcs[f]? = some F ∧ (F.name == "runtime.NumGoroutine") = false) rfnn378 256 378 := ⟨fun x h => (by cases h; exact ⟨Tryz.func378, by kernel_rfl⟩), trivial, trivial⟩
theorem rfnn506_ok : AllT (fun f F => Tryz.prog.funcs[f]? = some F ∧ (F.name == "runtime.NumGoroutine") = false) rfnn506 256 506 := ⟨fun x h => (by cases h; exact ⟨Tryz.func506, by kernel_rfl⟩), trivial, trivial⟩
theorem rfnn250_ok : AllT (fun f F => Tryz.prog.funcs[f]? = some F ∧ (F.name == "runtime.NumGoroutine") = false) rfnn250 128 250 := ⟨fun x h => (by cases h), rfnn378_ok, rfnn506_ok⟩
theorem rfnn122_ok : AllT (fun f F => Tryz.prog.funcs[f]? = some F ∧ (F.name == "runtime.NumGoroutine") = false) rfnn122 64 122 := ⟨fun x h => (by cases h), rfnn186_ok, rfnn250_ok⟩
theorem rfnn58_ok : AllT (fun f F => Tryz.prog.funcs[f]? = some F ∧ (F.name == "runtime.NumGoroutine") = false) rfnn58 32 58 := ⟨fun x h => (by cases h; exact ⟨Tryz.func58, by kernel_rfl⟩), rfnn90_ok, rfnn122_ok⟩
theorem rfnn26_ok : AllT (fun f F => Tryz.prog.funcs[f]? = some F ∧ (F.name == "runtime.NumGoroutine") = false) rfnn26 16 26 := ⟨fun x h => (by cases h), rfnn42_ok, rfnn58_ok⟩
theorem rfnn10_ok : AllT (fun f F => Tryz.prog.funcs[f]? = some F ∧ (F.name == "runtime.NumGoroutine") = false) rfnn10 8 10 := ⟨fun x h => (by cases h), rfnn18_ok, rfnn26_ok⟩
theorem rfnn646_ok : AllT (fun f F => Tryz.prog.funcs[f]? = some F ∧ (F.name == "runtime.NumGoroutine") = false) rfnn646 512 646 := ⟨fun x h => (by cases h; exact ⟨Tryz.func646, by kernel_rfl⟩), trivial, trivial⟩
theorem rfnn390_ok : AllT (fun f F => Tryz.prog.funcs[f]? = some F ∧ (F.name == "runtime.NumGoroutine") = false) rfnn390 256 390 := ⟨fun x h => (by cases h; exact ⟨Tryz.func390, by kernel_rfl⟩), rfnn646_ok, trivial⟩
theorem rfnn134_ok : AllT (fun f F => Tryz.prog.funcs[f]? = some F ∧ (F.name == "runtime.NumGoroutine") = false) rfnn134 128 134 := ⟨fun x h => (by cases h), trivial, rfnn390_ok⟩
theorem rfnn70_ok : AllT (fun f F => Tryz.prog.funcs[f]? = some F ∧ (F.name == "runtime.NumGoroutine") = false) rfnn70 64 70 := ⟨fun x h => (by cases h), rfnn134_ok, trivial⟩
theorem rfnn550_ok : AllT (fun f F => Tryz.prog.funcs[f]? = some F ∧ (F.name == "runtime.NumGoroutine") = false) rfnn550 512 550 := ⟨fun x h => (by cases h; exact ⟨Tryz.func550, by kernel_rfl⟩), trivial, trivial⟩
theorem rfnn294_ok : AllT (fun f F => Tryz.prog.funcs[f]? = some F ∧ (F.name == "runtime.NumGoroutine") = false) rfnn294 256 294 := ⟨fun x h => (by cases h; exact ⟨Tryz.func294, by kernel_rfl⟩), rfnn550_ok, trivial⟩
theorem rfnn678_ok : AllT (fun f F => Tryz.prog.funcs[f]? = some F ∧ (F.name == "runtime.NumGoroutine") = false) rfnn678 512 678 := ⟨fun x h => (by cases h; exact ⟨Tryz.func678, by kernel_rfl⟩), trivial, trivial⟩
theorem rfnn422_ok : AllT (fun f F => Tryz.prog.funcs[f]? = some F ∧ (F.name == "runtime.NumGoroutine") = false) rfnn422 256 422 := ⟨fun x h => (by cases h; exact ⟨Tryz.func422, by kernel_rfl⟩), rfnn678_ok, trivial⟩
theorem rfnn166_ok : AllT (fun f F => Tryz.prog.funcs[f]? = some F ∧ (F.name == "runtime.NumGoroutine") = false) rfnn166 128 166 := ⟨fun x h => (by cases h; exact ⟨Tryz.func166, by kernel_rfl⟩), rfnn294_ok, rfnn422_ok⟩
theorem rfnn614_ok : AllT (fun f F => Tryz.prog.funcs[f]? = some F ∧ (F.name == "runtime.NumGoroutine") = false) rfnn614 512 614 := ⟨fun x h => (by cases h; exact ⟨Tryz.func614, by kernel_rfl⟩), trivial, trivial⟩
theorem rfnn358_ok : AllT (fun f F => Tryz.prog.funcs[f]? = some F ∧ (F.name == "runtime.NumGoroutine") = false) rfnn358 256 358 := ⟨fun x h => (by cases h; exact ⟨Tryz.func358, by kernel_rfl⟩), rfnn614_ok, trivial⟩
theorem rfnn230_ok : AllT (fun f F => Tryz.prog.funcs[f]? = some F ∧ (F.name == "runtime.NumGoroutine") = false) rfnn230 128 230 := ⟨fun x h => (by cases h; exact ⟨Tryz.func230, by kernel_rfl⟩), rfnn358_ok, trivial⟩
theorem rfnn102_ok : AllT (fun f F => Tryz.prog.funcs[f]? = some F ∧ (F.name == "runtime.NumGoroutine") = false) rfnn102 64 102 := ⟨fun x h => (by cases h; exact ⟨Tryz.func102, by kernel_rfl⟩), rfnn166_ok, rfnn230_ok⟩
theorem rfnn38_ok : AllT (fun f F => Tryz.prog.funcs[f]? = some F ∧ (F.name == "runtime.NumGoroutine") = false) rfnn38 32 38 := ⟨fun x h => (by cases h), rfnn70_ok, rfnn102_ok⟩
theorem rfnn278_ok : AllT (fun f F => Tryz.prog.funcs[f]? = some F ∧ (F.name == "runtime.NumGoroutine") = false) rfnn278 256 278 := ⟨fun x h => (by cases h; exact ⟨Tryz.func278, by kernel_rfl⟩), trivial, trivial⟩
theorem rfnn150_ok : AllT (fun f F => Tryz.prog.funcs[f]? = some F ∧ (F.name == "runtime.NumGoroutine") = false) rfnn150 128 150 := ⟨fun x h => (by cases h; exact ⟨Tryz.func150, by kernel_rfl⟩), rfnn278_ok, trivial⟩
theorem rfnn598_ok : AllT (fun f F => Tryz.prog.funcs[f]? = some F ∧ (F.name == "runtime.NumGoroutine") = false) rfnn598 512 598 := ⟨fun x h => (by cases h; exact ⟨Tryz.func598, by kernel_rfl⟩), trivial, trivial⟩
theorem rfnn342_ok : AllT (fun f F => Tryz.prog.funcs[f]? = some F ∧ (F.name == "runtime.NumGoroutine") = false) rfnn342 256 342 := ⟨fun x h => (by cases h), rfnn598_ok, trivial⟩
theorem rfnn214_ok : AllT (fun f F => Tryz.prog.funcs[f]? = some F ∧ (F.name == "runtime.NumGoroutine") = false) rfnn214 128 214 := ⟨fun x h => (by cases h; exact ⟨Tryz.func214, by kernel_rfl⟩), rfnn342_ok, trivial⟩
theorem rfnn86_ok : AllT (fun f F => Tryz.prog.funcs[f]? = some F ∧ (F.name == "runtime.NumGoroutine") = false) rfnn86 64 86 := ⟨fun x h => (by cases h; exact ⟨Tryz.func86, by kernel_rfl⟩), rfnn150_ok, rfnn214_ok⟩
theorem rfnn182_ok : AllT (fun f F => Tryz.prog.funcs[f]? = some F ∧ (F.name == "runtime.NumGoroutine") = false) rfnn182 128 182 := ⟨fun x h => (by cases h; exact ⟨Tryz.func182, by kernel_rfl⟩), trivial, trivial⟩
theorem rfnn374_ok : AllT (fun f F => Tryz.prog.funcs[f]? = some F ∧ (F.name == "runtime.NumGoroutine") = false) rfnn374 256 374 := ⟨fun x h => (by cases h; exact ⟨Tryz.func374, by kernel_rfl⟩), trivial, trivial⟩
theorem rfnn246_ok : AllT (fun f F => Tryz.prog.funcs[f]? = some F ∧ (F.name == "runtime.NumGoroutine") = false) rfnn246 128 246 := ⟨fun x h => (by cases h), rfnn374_ok, trivial⟩
theorem rfnn118_ok : AllT (fun f F => Tryz.prog.funcs[f]? = some F ∧ (F.name == "runtime.NumGoroutine") = false) rfnn118 64 118 := ⟨fun x h => (by cases h; exact ⟨Tryz.func118, by kernel_rfl⟩), rfnn182_ok, rfnn246_ok⟩
theorem rfnn54_ok : AllT (fun f F => Tryz.prog.funcs[f]? = some F ∧ (F.name == "runtime.NumGoroutine") = false) rfnn54 32 54 := ⟨fun x h => (by cases h; exact ⟨Tryz.func54, by kernel_rfl⟩), rfnn86_ok, rfnn118_ok⟩
theorem rfnn22_ok : AllT (fun f F => Tryz.prog.funcs[f]? = some F ∧ (F.name == "runtime.NumGoroutine") = false) rfnn22 16 22 := ⟨fun x h => (by cases h; exact ⟨Tryz.func22, by kernel_rfl⟩), rfnn38_ok, rfnn54_ok⟩
theorem rfnn654_ok : AllT (fun f F => Tryz.prog.funcs[f]? = some F ∧ (F.name == "runtime.NumGoroutine") = false) rfnn654 512 654 := ⟨fun x h => (by cases h; exact ⟨Tryz.func654, by kernel_rfl⟩), trivial, trivial⟩
theorem rfnn398_ok : AllT (fun f F => Tryz.prog.funcs[f]? = some F ∧ (F.name == "runtime.NumGoroutine") = false) rfnn398 256 398 := ⟨fun x h => (by cases h), rfnn654_ok, trivial⟩
theorem rfnn142_ok : AllT (fun f F => Tryz.prog.funcs[f]? = some F ∧ (F.name == "runtime.NumGoroutine") = false) rfnn142 128 142 := ⟨fun x h => (by cases h; exact ⟨Tryz.func142, by kernel_rfl⟩), trivial, rfnn398_ok⟩
theorem rfnn590_ok : AllT (fun f F => Tryz.prog.funcs[f]? = some F ∧ (F.name == "runtime.NumGoroutine") = false) rfnn590 512 590 := ⟨fun x h => (by cases h; exact ⟨Tryz.func590, by kernel_rfl⟩), trivial, trivial⟩
theorem rfnn334_ok : AllT (fun f F => Tryz.prog.funcs[f]? = some F ∧ (F.name == "runtime.NumGoroutine") = false) rfnn334 256 334 := ⟨fun x h => (by cases h), rfnn590_ok, trivial⟩
theorem rfnn206_ok : AllT (fun f F => Tryz.prog.funcs[f]? = some F ∧ (F.name == "runtime.NumGoroutine") = false) rfnn206 128 206 := ⟨fun x h => (by cases h; exact ⟨Tryz.func206, by kernel_rfl⟩), rfnn334_ok, trivial⟩
theorem rfnn78_ok : AllT (fun f F => Tryz.prog.funcs[f]? = some F ∧ (F.name == "runtime.NumGoroutine") = false) rfnn78 64 78 := ⟨fun x h => (by cases h; exact ⟨Tryz.func78, by kernel_rfl⟩), rfnn142_ok, rfnn206_ok⟩
theorem rfnn558_ok : AllT (fun f F => Tryz.prog.funcs[f]? = some F ∧ (F.name == "runtime.NumGoroutine") = false) rfnn558 512 558 := ⟨fun x h => (by cases h; exact ⟨Tryz.func558, by kernel_rfl⟩), trivial, trivial⟩
theorem rfnn302_ok : AllT (fun f F => Tryz.prog.funcs[f]? = some F ∧ (F.name == "runtime.NumGoroutine") = false) rfnn302 256 302 := ⟨fun x h => (by cases h), rfnn558_ok, trivial⟩
theorem rfnn174_ok : AllT (fun f F => Tryz.prog.funcs[f]? = some F ∧ (F.name == "runtime.NumGoroutine") = false) rfnn174 128 174 := ⟨fun x h => (by cases h), rfnn302_ok, trivial⟩
theorem rfnn622_ok : AllT (fun f F => Tryz.prog.funcs[f]? = some F ∧ (F.name == "runtime.NumGoroutine") = false) rfnn622 512 622 := ⟨fun x h => (by cases h; exact ⟨Tryz.func622, by kernel_rfl⟩), trivial, trivial⟩
theorem rfnn366_ok : AllT (fun f F => Tryz.prog.funcs[f]? = some F ∧ (F.name == "runtime.NumGoroutine") = false) rfnn366 256 366 := ⟨fun x h => (by cases h; exact ⟨Tryz.func366, by kernel_rfl⟩), rfnn622_ok, trivial⟩
theorem rfnn494_ok : AllT (fun f F => Tryz.prog.funcs[f]? = some F ∧ (F.name == "runtime.NumGoroutine") = false) rfnn494 256 494 := ⟨fun x h => (by cases h; exact ⟨Tryz.func494, by kernel_rfl⟩), trivial, trivial⟩
theorem rfnn238_ok : AllT (fun f F => Tryz.prog.funcs[f]? = some F ∧ (F.name == "runtime.NumGoroutine") = false) rfnn238 128 238 := ⟨fun x h => (by cases h; exact ⟨Tryz.func238, by kernel_rfl⟩), rfnn366_ok, rfnn494_ok⟩
theorem rfnn110_ok : AllT (fun f F => Tryz.prog.funcs[f]? = some F ∧ (F.name == "runtime.NumGoroutine") = false) rfnn110 64 110 := ⟨fun x h => (by cases h; exact ⟨Tryz.func110, by kernel_rfl⟩), rfnn174_ok, rfnn238_ok⟩
theorem rfnn46_ok : AllT (fun f F => Tryz.prog.funcs[f]? = some F ∧ (F.name == "runtime.NumGoroutine") = false) rfnn46 32 46 := ⟨fun x h => (by cases h), rfnn78_ok, rfnn110_ok⟩
theorem rfnn414_ok : AllT (fun f F => Tryz.prog.funcs[f]? = some F ∧ (F.name == "runtime.NumGoroutine") = false) rfnn414 256 414 := ⟨fun x h => (by cases h; exact ⟨Tryz.func414, by kernel_rfl⟩), trivial, trivial⟩
theorem rfnn158_ok : AllT (fun f F => Tryz.prog.funcs[f]? = some F ∧ (F.name == "runtime.NumGoroutine") = false) rfnn158 128 158 := ⟨fun x h => (by cases h; exact ⟨Tryz.func158, by kernel_rfl⟩), trivial, rfnn414_ok⟩
theorem rfnn350_ok : AllT (fun f F => Tryz.prog.funcs[f]? = some F ∧ (F.name == "runtime.NumGoroutine") = false) rfnn350 256 350 := ⟨fun x h => (by cases h; exact ⟨Tryz.func350, by kernel_rfl⟩), trivial, trivial⟩
theorem rfnn478_ok : AllT (fun f F => Tryz.prog.funcs[f]? = some F ∧ (F.name == "runtime.NumGoroutine") = false) rfnn478 256 478 := ⟨fun x h => (by cases h; exact ⟨Tryz.func478, by kernel_rfl⟩), trivial, trivial⟩
theorem rfnn222_ok : AllT (fun f F => Tryz.prog.funcs[f]? = some F ∧ (F.name == "runtime.NumGoroutine") = false) rfnn222 128 222 := ⟨fun x h => (by cases h), rfnn350_ok, rfnn478_ok⟩
theorem rfnn94_ok : AllT (fun f F => Tryz.prog.funcs[f]? = some F ∧ (F.name == "runtime.NumGoroutine") = false) rfnn94 64 94 := ⟨fun x h => (by cases h), rfnn158_ok, rfnn222_ok⟩
theorem rfnn574_ok : AllT (fun f F => Tryz.prog.funcs[f]? = some F ∧ (F.name == "runtime.NumGoroutine") = false) rfnn574 512 574 := ⟨fun x h => (by cases h; exact ⟨Tryz.func574, by kernel_rfl⟩), trivial, trivial⟩
theorem rfnn318_ok : AllT (fun f F => Tryz.prog.funcs[f]? = some F ∧ (F.name == "runtime.NumGoroutine") = false) rfnn318 256 318 := ⟨fun x h => (by cases h), rfnn574_ok, trivial⟩
theorem rfnn190_ok : AllT (fun f F => Tryz.prog.funcs[f]? = some F ∧ (F.name == "runtime.NumGoroutine") = false) rfnn190 128 190 := ⟨fun x h => (by cases h), rfnn318_ok, trivial⟩
theorem rfnn382_ok : AllT (fun f F => Tryz.prog.funcs[f]? = some F ∧ (F.name == "runtime.NumGoroutine") = false) rfnn382 256 382 := ⟨fun x h => (by cases h; exact ⟨Tryz.func382, by kernel_rfl⟩), trivial, trivial⟩
theorem rfnn510_ok : AllT (fun f F => Tryz.prog.funcs[f]? = some F ∧ (F.name == "runtime.NumGoroutine") = false) rfnn510 256 510 := ⟨fun x h => (by cases h; exact ⟨Tryz.func510, by kernel_rfl⟩), trivial, trivial⟩
theorem rfnn254_ok : AllT (fun f F => Tryz.prog.funcs[f]? = some F ∧ (F.name == "runtime.NumGoroutine") = false) rfnn254 128 254 := ⟨fun x h => (by cases h), rfnn382_ok, rfnn510_ok⟩
theorem rfnn126_ok : AllT (fun f F => Tryz.prog.funcs[f]? = some F ∧ (F.name == "runtime.NumGoroutine") = false) rfnn126 64 126 := ⟨fun x h => (by cases h), rfnn190_ok, rfnn254_ok⟩
theorem rfnn62_ok : AllT (fun f F => Tryz.prog.funcs[f]? = some F ∧ (F.name == "runtime.NumGoroutine") = false) rfnn62 32 62 := ⟨fun x h => (by cases h; exact ⟨Tryz.func62, by kernel_rfl⟩), rfnn94_ok, rfnn126_ok⟩
theorem rfnn30_ok : AllT (fun f F => Tryz.prog.funcs[f]? = some F ∧ (F.name == "runtime.NumGoroutine") = false) rfnn30 16 30 := ⟨fun x h => (by cases h; exact ⟨Tryz.func30, by kernel_rfl⟩), rfnn46_ok, rfnn62_ok⟩
theorem rfnn14_ok : AllT (fun f F => Tryz.prog.funcs[f]? = some F ∧ (F.name == "runtime.NumGoroutine") = false) rfnn14 8 14 := ⟨fun x h => (by cases h), rfnn22_ok, rfnn30_ok⟩
theorem rfnn6_ok : AllT (fun f F => Tryz.prog.funcs[f]? = some F ∧ (F.name == "runtime.NumGoroutine") = false) rfnn6 4 6 := ⟨fun x h => (by cases h), rfnn10_ok, rfnn14_ok⟩
theorem rfnn2_ok : AllT (fun f F => Tryz.prog.funcs[f]? = some F ∧ (F.name == "runtime.NumGoroutine") = false) rfnn2 2 2 := ⟨fun x h => (by cases h), rfnn4_ok, rfnn6_ok⟩
theorem rfnn0_ok : AllT (fun f F => Tryz.prog.funcs[f]? = some F ∧ (F.name == "runtime.NumGoroutine") = false) rfnn0 1 0 := ⟨fun x h => (by cases h), rfnn1_ok, rfnn2_ok⟩
end Go.Proofs.YtdicpkjblflgbaaGreatDoor
