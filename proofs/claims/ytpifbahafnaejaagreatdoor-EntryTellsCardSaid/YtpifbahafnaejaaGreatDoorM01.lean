/- The words for worlds: later worlds, what package-level variables hold, errors that are sentinels. Contracts of the library at this translation: laid by the kit's shelf (lay-shelf, lay-plain), those alone that the claim uses. goods.Name: is a text one? Old cells behind a call; Within; errors and boxes. Slices of structs, as walks read them, sort them and append them. cmp.Or; strings compared: a strict order. Plain facts on decimal numerals: how strconv.Atoi ends at the digits of a number. No program in sight. Places: Check; what a compare of well places tells. -/
import Derived.Test.YtpifbahafnaejaaGreatDoorProg
import Derived.WalkKit
import Derived.WalkSmall
import Derived.WalkSpells
import Derived.WalkLawsBesides
import Derived.Lib.LaidTab
import Derived.Lib.ItoaNum
import Derived.Lib.Hide
import Derived.Deep.QuietTactic
import Derived.BigQuiet
import Derived.Deep.RegionWith
import Derived.Deep.RegionHeld3
import Derived.Deep.DeepCutAuto
import Derived.Deep.DeepFit
import Derived.LoopTactic
import Derived.Outline
import Derived.Shelf.Strings.OnBuilder
import Derived.Shelf.Strconv.Itoa3
import Derived.Shelf.Strconv.AtoiAll
import Derived.Shelf.Strings.Split
import Derived.Shelf.Strings.SlTrimAscii
import Derived.Lib.SlTrimSet
import Derived.Shelf.SlSortCmp.KitK
import Derived.Maps.AppendAt
import Derived.OwnWalk
import Derived.Sort.Statements
import Derived.Lib.AtoiAll
import Derived.Lib.AtoiAllCases
import Derived.Laws.StructEq
namespace Go.Proofs.YtpifbahafnaejaaGreatDoor
open Go.RowKit

theorem lt_of_cell {w : World} {a : Addr} {v : Value} (h : w.cell? a = some v) : a.block < w.heap.size := by
  rcases Nat.lt_or_ge a.block w.heap.size with hl | hl
  · exact hl
  · simp [World.cell?, Array.getElem?_eq_none hl] at h

/-- The table of strconv's powers of ten holds them. -/
def TabG (w : World) : Prop := Lib.TabIs Tryz.prog w "internal/strconv.uint64pow10" .u64 Lib.pow10Tab ∧ 14 < w.heap.size
theorem TabG.below {w w' : World} (h : TabG w) (hb : Below w.heap.size w w') : TabG w' :=
  ⟨var?_below hb (by kernel_rfl) h.2 h.1, Nat.lt_of_lt_of_le h.2 hb.size⟩

/-- strconv's two errors are interface values. -/
def AtoiG (w : World) : Prop := (∃ tp p, w.cell? ⟨17, 0, none⟩ = some (.iface tp p)) ∧ (∃ tp p, w.cell? ⟨18, 0, none⟩ = some (.iface tp p))
theorem AtoiG.below {w w' : World} (h : AtoiG w) (hb : Below w.heap.size w w') : AtoiG w' := by
  obtain ⟨⟨t1, p1, h1⟩, ⟨t2, p2, h2⟩⟩ := h
  exact ⟨⟨t1, p1, by rw [hb.cell (lt_of_cell h1)]; exact h1⟩, ⟨t2, p2, by rw [hb.cell (lt_of_cell h2)]; exact h2⟩⟩

/-- bytealg's variable MaxLen is a number. -/
def MaxG (w : World) : Prop := ∃ m : Int, w.cell? ⟨13, 0, none⟩ = some (.int .i64 m)
theorem MaxG.below {w w' : World} (h : MaxG w) (hb : Below w.heap.size w w') : MaxG w' := by
  obtain ⟨m, h1⟩ := h
  exact ⟨m, by rw [hb.cell (lt_of_cell h1)]; exact h1⟩

/-- A variable that holds an error of errors.New's make. -/
def ErrAt (g : Nat) (a : Addr) (w : World) : Prop := w.cell? ⟨g, 0, none⟩ = some (.iface 177 (.pointer (some a)))
theorem ErrAt.below {g : Nat} {a : Addr} {w w' : World} (h : ErrAt g a w) (hb : Below w.heap.size w w') : ErrAt g a w' := by
  unfold ErrAt
  rw [hb.cell (lt_of_cell h)]
  exact h

/-- The value of an error by its number: 0: nil. -/
def errOf (E : Nat → Addr) (k : Nat) : Value := if k = 0 then .nilIface else .iface 177 (.pointer (some (E k)))
theorem errOf_zero (E : Nat → Addr) : errOf E 0 = .nilIface := rfl
theorem errOf_pos (E : Nat → Addr) (k : Nat) (h : k ≠ 0) : errOf E k = .iface 177 (.pointer (some (E k))) := if_neg h
theorem TabG.drew {w : World} (h : TabG w) : TabG w.drew := h
theorem TabG.drewN {w : World} (h : TabG w) (n : Nat) : TabG (w.drewN n) := h
theorem mk_app (a b : List UInt8) : (⟨a.toArray⟩ : ByteArray) ++ (⟨b.toArray⟩ : ByteArray) = ⟨(a ++ b).toArray⟩ := by
  apply ByteArray.ext
  simp

/-- Within: a number within two. -/
theorem within_yes (n a b : Int) (w : World) (h1 : a ≤ n) (h2 : n ≤ b) : Calls Tryz.prog 49 #[.int .i64 n, .int .i64 a, .int .i64 b] w fun e w' => e = .returned (.bool true) ∧ w = w' := by
  go_enter Tryz.func49, Tryz.ntmps49
  go_wp2
  go_ret
  exact ⟨rfl, rfl⟩
theorem within_no (n a b : Int) (w : World) (h : n < a ∨ b < n) : Calls Tryz.prog 49 #[.int .i64 n, .int .i64 a, .int .i64 b] w fun e w' => e = .returned (.bool false) ∧ w = w' := by
  by_cases h1 : a ≤ n
  · have h2 : ¬ n ≤ b := by omega
    go_enter Tryz.func49, Tryz.ntmps49
    go_wp2
    go_ret
    exact ⟨rfl, rfl⟩
  · go_enter Tryz.func49, Tryz.ntmps49
    go_wp2
    go_ret
    exact ⟨rfl, rfl⟩
end Go.Proofs.YtpifbahafnaejaaGreatDoor
namespace Go.Proofs
open Go.Shelf
def Tryz.lays156_ren : Go.Shelf.Ren := ⟨fun | 156 => 17 | 165 => 42 | 166 => 43 | 169 => 44 | 240 => 58 | 241 => 59 | 276 => 75 | 277 => 76 | n => n, fun | 31 => 42 | 9 => 9 | 3 => 3 | 4 => 4 | 0 => 0 | 20 => 20 | 72 => 76 | 76 => 78 | 70 => 73 | 37 => 74 | 75 => 33 | 127 => 94 | 164 => 95 | 5 => 5 | 80 => 80 | n => n, fun | n => n⟩
theorem Tryz.lays156 : Go.Proofs.Lays.n156 Tryz.prog Tryz.lays156_ren := {
  mixed := by kernel_rfl
  f156 := Tryz.func17.trans (congrArg some (by kernel_rfl))
  f165 := Tryz.func42.trans (congrArg some (by kernel_rfl))
  f166 := Tryz.func43.trans (congrArg some (by kernel_rfl))
  f169 := Tryz.func44.trans (congrArg some (by kernel_rfl))
  f240 := Tryz.func58.trans (congrArg some (by kernel_rfl))
  f241 := Tryz.func59.trans (congrArg some (by kernel_rfl))
  f276 := Tryz.func75.trans (congrArg some (by kernel_rfl))
  f277 := Tryz.func76.trans (congrArg some (by kernel_rfl))
  t0 := Tryz.underlying0
  a0 := Tryz.isAgg0
  z0 := Tryz.sizeOf0
  v0 := Tryz.zeroValue0
  t3 := Tryz.underlying3
  a3 := Tryz.isAgg3
  z3 := Tryz.sizeOf3
  v3 := Tryz.zeroValue3
  t4 := Tryz.underlying4
  a4 := Tryz.isAgg4
  z4 := Tryz.sizeOf4
  v4 := Tryz.zeroValue4
  t9 := Tryz.underlying9
  a9 := Tryz.isAgg9
  z9 := Tryz.sizeOf9
  v9 := Tryz.zeroValue9
  t20 := Tryz.underlying20
  a20 := Tryz.isAgg20
  z20 := Tryz.sizeOf20
  v20 := Tryz.zeroValue20
  t31 := Tryz.underlying42
  a31 := Tryz.isAgg42
  z31 := Tryz.sizeOf42
  v31 := Tryz.zeroValue42
  t37 := Tryz.underlying74
  a37 := Tryz.isAgg74
  z37 := Tryz.sizeOf74
  v37 := Tryz.zeroValue74
  t70 := Tryz.underlying73
  a70 := Tryz.isAgg73
  z70 := Tryz.sizeOf73
  v70 := Tryz.zeroValue73
  t72 := Tryz.underlying76
  a72 := Tryz.isAgg76
  z72 := Tryz.sizeOf76
  v72 := Tryz.zeroValue76
  t75 := Tryz.underlying33
  a75 := Tryz.isAgg33
  z75 := Tryz.sizeOf33
  v75 := Tryz.zeroValue33
  t76 := Tryz.underlying78
  a76 := Tryz.isAgg78
  z76 := Tryz.sizeOf78
  v76 := Tryz.zeroValue78
  t127 := Tryz.underlying94
  a127 := Tryz.isAgg94
  z127 := Tryz.sizeOf94
  v127 := Tryz.zeroValue94
  t164 := Tryz.underlying95
  a164 := Tryz.isAgg95
  z164 := Tryz.sizeOf95
  v164 := Tryz.zeroValue95 }
theorem Tryz.Builder_Extra_156 : Builder.Extra Tryz.prog Tryz.lays156_ren := {
  sizeBuilder := by kernel_rfl
  liesBuilder := by kernel_rfl
  t5 := Tryz.underlying5
  a5 := Tryz.isAgg5
  z5 := Tryz.sizeOf5
  v5 := Tryz.zeroValue5
  infoByte := by kernel_rfl
  cellsByte := by kernel_rfl
  sizeByte := by kernel_rfl
  neB5 := by decide }
open Go.RowKit in
theorem Tryz.strings_Join_none (a : Option Addr) (c : Nat) (sep : ByteArray) (w : World) :
    Calls Tryz.prog 17 #[.slice a 0 c, .string sep] w fun e w' => e = .returned (.string ⟨#[]⟩) ∧ w' = w := Any.strings_Join_none Tryz.lays156 Tryz.Builder_Extra_156 a c sep w
open Go.RowKit in
theorem Tryz.strings_Join (bk o c : Nat) (xs : List ByteArray) (sep : ByteArray) (w : World) (hcells : ∀ (j : Nat) x, xs[j]? = some x → w.cell? ⟨bk, o + j, none⟩ = some (.string x)) (hbk : bk < w.heap.size) (hN : xs.length ≤ 140737488355328) (hcap : xs.length ≤ c) (hlen : (Lib.join (xs.map (·.data.toList)) sep.data.toList).length ≤ 140737488355328) :
    Calls Tryz.prog 17 #[.slice (some ⟨bk, o, none⟩) xs.length c, .string sep] w fun e w' => e = .returned (.string ⟨(Lib.join (xs.map (·.data.toList)) sep.data.toList).toArray⟩) ∧ Below w.heap.size w w' := Any.strings_Join Tryz.lays156 Tryz.Builder_Extra_156 bk o c xs sep w hcells hbk hN hcap hlen
def Tryz.lays160_ren : Go.Shelf.Ren := ⟨fun | 160 => 66 | 232 => 80 | 231 => 79 | 227 => 81 | 234 => 83 | 233 => 82 | 236 => 85 | 235 => 84 | 228 => 100 | 271 => 102 | 151 => 101 | 197 => 70 | 120 => 114 | 152 => 113 | 260 => 90 | 137 => 119 | 119 => 120 | 224 => 93 | 225 => 92 | 217 => 91 | 266 => 108 | n => n, fun | 9 => 9 | 4 => 4 | 3 => 3 | 5 => 5 | 117 => 136 | 116 => 135 | 0 => 0 | 124 => 139 | 21 => 21 | 105 => 112 | 46 => 147 | 119 => 162 | 139 => 165 | 138 => 164 | n => n, fun | 3 => 15 | 4 => 16 | n => n⟩
theorem Tryz.lays160 : Go.Proofs.Lays.n160 Tryz.prog Tryz.lays160_ren := {
  mixed := by kernel_rfl
  f119 := Tryz.func120.trans (congrArg some (by kernel_rfl))
  f120 := Tryz.func114.trans (congrArg some (by kernel_rfl))
  f137 := Tryz.func119.trans (congrArg some (by kernel_rfl))
  f151 := Tryz.func101.trans (congrArg some (by kernel_rfl))
  f152 := Tryz.func113.trans (congrArg some (by kernel_rfl))
  f160 := Tryz.func66.trans (congrArg some (by kernel_rfl))
  f197 := Tryz.func70.trans (congrArg some (by kernel_rfl))
  f217 := Tryz.func91.trans (congrArg some (by kernel_rfl))
  f224 := Tryz.func93.trans (congrArg some (by kernel_rfl))
  f225 := Tryz.func92.trans (congrArg some (by kernel_rfl))
  f227 := Tryz.func81.trans (congrArg some (by kernel_rfl))
  f228 := Tryz.func100.trans (congrArg some (by kernel_rfl))
  f231 := Tryz.func79.trans (congrArg some (by kernel_rfl))
  f232 := Tryz.func80.trans (congrArg some (by kernel_rfl))
  f233 := Tryz.func82.trans (congrArg some (by kernel_rfl))
  f234 := Tryz.func83.trans (congrArg some (by kernel_rfl))
  f235 := Tryz.func84.trans (congrArg some (by kernel_rfl))
  f236 := Tryz.func85.trans (congrArg some (by kernel_rfl))
  f260 := Tryz.func90.trans (congrArg some (by kernel_rfl))
  f266 := Tryz.func108.trans (congrArg some (by kernel_rfl))
  f271 := Tryz.func102.trans (congrArg some (by kernel_rfl))
  t0 := Tryz.underlying0
  a0 := Tryz.isAgg0
  z0 := Tryz.sizeOf0
  v0 := Tryz.zeroValue0
  t3 := Tryz.underlying3
  a3 := Tryz.isAgg3
  z3 := Tryz.sizeOf3
  v3 := Tryz.zeroValue3
  t4 := Tryz.underlying4
  a4 := Tryz.isAgg4
  z4 := Tryz.sizeOf4
  v4 := Tryz.zeroValue4
  t5 := Tryz.underlying5
  a5 := Tryz.isAgg5
  z5 := Tryz.sizeOf5
  v5 := Tryz.zeroValue5
  t9 := Tryz.underlying9
  a9 := Tryz.isAgg9
  z9 := Tryz.sizeOf9
  v9 := Tryz.zeroValue9
  t21 := Tryz.underlying21
  a21 := Tryz.isAgg21
  z21 := Tryz.sizeOf21
  v21 := Tryz.zeroValue21
  t46 := Tryz.underlying147
  a46 := Tryz.isAgg147
  z46 := Tryz.sizeOf147
  v46 := Tryz.zeroValue147
  t105 := Tryz.underlying112
  a105 := Tryz.isAgg112
  z105 := Tryz.sizeOf112
  v105 := Tryz.zeroValue112
  t116 := Tryz.underlying135
  a116 := Tryz.isAgg135
  z116 := Tryz.sizeOf135
  t117 := Tryz.underlying136
  a117 := Tryz.isAgg136
  z117 := Tryz.sizeOf136
  v117 := Tryz.zeroValue136
  t119 := Tryz.underlying162
  a119 := Tryz.isAgg162
  z119 := Tryz.sizeOf162
  t124 := Tryz.underlying139
  a124 := Tryz.isAgg139
  z124 := Tryz.sizeOf139
  v124 := Tryz.zeroValue139
  t138 := Tryz.underlying164
  a138 := Tryz.isAgg164
  z138 := Tryz.sizeOf164
  v138 := Tryz.zeroValue164
  t139 := Tryz.underlying165
  a139 := Tryz.isAgg165
  z139 := Tryz.sizeOf165
  v139 := Tryz.zeroValue165
  g3 := by kernel_rfl
  g4 := by kernel_rfl }
def Tryz.laysM171_ren : Go.Shelf.Ren := ⟨fun | 171 => 34 | 243 => 51 | 246 => 67 | 283 => 86 | 284 => 87 | 285 => 88 | 286 => 89 | 129 => 104 | 317 => 103 | 318 => 105 | 319 => 106 | 320 => 107 | 337 => 115 | 338 => 116 | n => n, fun | 3 => 3 | 9 => 9 | 2 => 2 | 4 => 4 | 171 => 140 | 0 => 0 | 53 => 141 | 37 => 74 | 5 => 5 | 173 => 144 | 212 => 157 | 51 => 158 | 20 => 20 | 213 => 159 | 46 => 147 | 232 => 181 | 233 => 182 | n => n, fun | 17 => 14 | 18 => 19 | 19 => 20 | n => n⟩
theorem Tryz.laysM171 : Go.Proofs.LaysM.n171 Tryz.prog Tryz.laysM171_ren := {
  mixed := by kernel_rfl
  f129 := Tryz.func104.trans (congrArg some (by kernel_rfl))
  f171 := Tryz.func34.trans (congrArg some (by kernel_rfl))
  f243 := Tryz.func51.trans (congrArg some (by kernel_rfl))
  f246 := Tryz.func67.trans (congrArg some (by kernel_rfl))
  f283 := Tryz.func86.trans (congrArg some (by kernel_rfl))
  f284 := Tryz.func87.trans (congrArg some (by kernel_rfl))
  f285 := Tryz.func88.trans (congrArg some (by kernel_rfl))
  f286 := Tryz.func89.trans (congrArg some (by kernel_rfl))
  f317 := Tryz.func103.trans (congrArg some (by kernel_rfl))
  f318 := Tryz.func105.trans (congrArg some (by kernel_rfl))
  f319 := Tryz.func106.trans (congrArg some (by kernel_rfl))
  f320 := Tryz.func107.trans (congrArg some (by kernel_rfl))
  f337 := Tryz.func115.trans (congrArg some (by kernel_rfl))
  f338 := Tryz.func116.trans (congrArg some (by kernel_rfl))
  t0 := Tryz.underlying0
  a0 := Tryz.isAgg0
  z0 := Tryz.sizeOf0
  v0 := Tryz.zeroValue0
  t2 := Tryz.underlying2
  a2 := Tryz.isAgg2
  z2 := Tryz.sizeOf2
  v2 := Tryz.zeroValue2
  t3 := Tryz.underlying3
  a3 := Tryz.isAgg3
  z3 := Tryz.sizeOf3
  v3 := Tryz.zeroValue3
  t4 := Tryz.underlying4
  a4 := Tryz.isAgg4
  z4 := Tryz.sizeOf4
  v4 := Tryz.zeroValue4
  t5 := Tryz.underlying5
  a5 := Tryz.isAgg5
  z5 := Tryz.sizeOf5
  v5 := Tryz.zeroValue5
  t9 := Tryz.underlying9
  a9 := Tryz.isAgg9
  z9 := Tryz.sizeOf9
  v9 := Tryz.zeroValue9
  t20 := Tryz.underlying20
  a20 := Tryz.isAgg20
  z20 := Tryz.sizeOf20
  v20 := Tryz.zeroValue20
  t37 := Tryz.underlying74
  a37 := Tryz.isAgg74
  z37 := Tryz.sizeOf74
  v37 := Tryz.zeroValue74
  t46 := Tryz.underlying147
  a46 := Tryz.isAgg147
  z46 := Tryz.sizeOf147
  v46 := Tryz.zeroValue147
  t51 := Tryz.underlying158
  a51 := Tryz.isAgg158
  z51 := Tryz.sizeOf158
  v51 := Tryz.zeroValue158
  t53 := Tryz.underlying141
  a53 := Tryz.isAgg141
  z53 := Tryz.sizeOf141
  v53 := Tryz.zeroValue141
  t171 := Tryz.underlying140
  a171 := Tryz.isAgg140
  z171 := Tryz.sizeOf140
  v171 := Tryz.zeroValue140
  t173 := Tryz.underlying144
  a173 := Tryz.isAgg144
  z173 := Tryz.sizeOf144
  v173 := Tryz.zeroValue144
  t212 := Tryz.underlying157
  a212 := Tryz.isAgg157
  z212 := Tryz.sizeOf157
  v212 := Tryz.zeroValue157
  t213 := Tryz.underlying159
  a213 := Tryz.isAgg159
  z213 := Tryz.sizeOf159
  t232 := Tryz.underlying181
  a232 := Tryz.isAgg181
  z232 := Tryz.sizeOf181
  v232 := Tryz.zeroValue181
  t233 := Tryz.underlying182
  a233 := Tryz.isAgg182
  z233 := Tryz.sizeOf182
  v233 := Tryz.zeroValue182
  g17 := by kernel_rfl
  g18 := by kernel_rfl
  g19 := by kernel_rfl
  i0 := by kernel_rfl
  i2 := by kernel_rfl
  i3 := by kernel_rfl
  i4 := by kernel_rfl
  i5 := by kernel_rfl
  i9 := by kernel_rfl
  i20 := by kernel_rfl
  i37 := by kernel_rfl
  i46 := by kernel_rfl
  i51 := by kernel_rfl
  i53 := by kernel_rfl
  i171 := by kernel_rfl
  i173 := by kernel_rfl
  i212 := by kernel_rfl
  i232 := by kernel_rfl
  i233 := by kernel_rfl
  m17 := by kernel_rfl
  m18 := by kernel_rfl
  m19 := by kernel_rfl }
open Go.RowKit Go.Sort Go.Lib in
theorem Tryz.strconv_Itoa (n : Int) (h0 : -9223372036854775808 ≤ n) (h1 : n ≤ 9223372036854775807) (w : World) (htab : Lib.TabIs Tryz.prog w "internal/strconv.uint64pow10" .u64 Lib.pow10Tab) :
    Calls Tryz.prog 34 #[.int .i64 n] w fun e w' => e = .returned (.string ⟨(Lib.itoa n).toArray⟩) ∧ ∃ k os, w' = grow (w.drewN k) os := Any.strconv_Itoa Tryz.laysM171 n h0 h1 w htab
def Tryz.laysC172_ren : Go.Shelf.Ren := ⟨fun | 172 => 57 | 244 => 73 | 245 => 74 | 247 => 95 | 279 => 96 | 280 => 97 | 281 => 98 | 282 => 99 | 287 => 110 | 316 => 111 | 171 => 34 | 205 => 112 | 321 => 117 | 322 => 118 | 243 => 51 | 246 => 67 | 283 => 86 | 284 => 87 | 285 => 88 | 286 => 89 | 129 => 104 | 317 => 103 | 318 => 105 | 319 => 106 | 320 => 107 | 337 => 115 | 338 => 116 | n => n, fun | 9 => 9 | 3 => 3 | 75 => 33 | 76 => 78 | 4 => 4 | 5 => 5 | 167 => 148 | 37 => 74 | 0 => 0 | 85 => 149 | 2 => 2 | 168 => 151 | 53 => 141 | 175 => 168 | 46 => 147 | 210 => 172 | 127 => 94 | 145 => 179 | 143 => 177 | 21 => 21 | 171 => 140 | 173 => 144 | 212 => 157 | 51 => 158 | 20 => 20 | 213 => 159 | 232 => 181 | 233 => 182 | 80 => 80 | n => n, fun | 15 => 17 | 16 => 18 | 17 => 14 | 18 => 19 | 19 => 20 | n => n⟩
theorem Tryz.laysC172 : Go.Proofs.LaysC.n172 Tryz.prog Tryz.laysC172_ren := {
  mixed := by kernel_rfl
  f129 := Tryz.func104.trans (congrArg some (by kernel_rfl))
  f171 := Tryz.func34.trans (congrArg some (by kernel_rfl))
  f172 := Tryz.func57.trans (congrArg some (by kernel_rfl))
  f205 := Tryz.func112.trans (congrArg some (by kernel_rfl))
  f243 := Tryz.func51.trans (congrArg some (by kernel_rfl))
  f244 := Tryz.func73.trans (congrArg some (by kernel_rfl))
  f245 := Tryz.func74.trans (congrArg some (by kernel_rfl))
  f246 := Tryz.func67.trans (congrArg some (by kernel_rfl))
  f247 := Tryz.func95.trans (congrArg some (by kernel_rfl))
  f279 := Tryz.func96.trans (congrArg some (by kernel_rfl))
  f280 := Tryz.func97.trans (congrArg some (by kernel_rfl))
  f281 := Tryz.func98.trans (congrArg some (by kernel_rfl))
  f282 := Tryz.func99.trans (congrArg some (by kernel_rfl))
  f283 := Tryz.func86.trans (congrArg some (by kernel_rfl))
  f284 := Tryz.func87.trans (congrArg some (by kernel_rfl))
  f285 := Tryz.func88.trans (congrArg some (by kernel_rfl))
  f286 := Tryz.func89.trans (congrArg some (by kernel_rfl))
  f287 := Tryz.func110.trans (congrArg some (by kernel_rfl))
  f316 := Tryz.func111.trans (congrArg some (by kernel_rfl))
  f317 := Tryz.func103.trans (congrArg some (by kernel_rfl))
  f318 := Tryz.func105.trans (congrArg some (by kernel_rfl))
  f319 := Tryz.func106.trans (congrArg some (by kernel_rfl))
  f320 := Tryz.func107.trans (congrArg some (by kernel_rfl))
  f321 := Tryz.func117.trans (congrArg some (by kernel_rfl))
  f322 := Tryz.func118.trans (congrArg some (by kernel_rfl))
  f337 := Tryz.func115.trans (congrArg some (by kernel_rfl))
  f338 := Tryz.func116.trans (congrArg some (by kernel_rfl))
  t0 := Tryz.underlying0
  a0 := Tryz.isAgg0
  z0 := Tryz.sizeOf0
  v0 := Tryz.zeroValue0
  t2 := Tryz.underlying2
  a2 := Tryz.isAgg2
  z2 := Tryz.sizeOf2
  v2 := Tryz.zeroValue2
  t3 := Tryz.underlying3
  a3 := Tryz.isAgg3
  z3 := Tryz.sizeOf3
  v3 := Tryz.zeroValue3
  t4 := Tryz.underlying4
  a4 := Tryz.isAgg4
  z4 := Tryz.sizeOf4
  v4 := Tryz.zeroValue4
  t5 := Tryz.underlying5
  a5 := Tryz.isAgg5
  z5 := Tryz.sizeOf5
  v5 := Tryz.zeroValue5
  t9 := Tryz.underlying9
  a9 := Tryz.isAgg9
  z9 := Tryz.sizeOf9
  v9 := Tryz.zeroValue9
  t20 := Tryz.underlying20
  a20 := Tryz.isAgg20
  z20 := Tryz.sizeOf20
  v20 := Tryz.zeroValue20
  t21 := Tryz.underlying21
  a21 := Tryz.isAgg21
  z21 := Tryz.sizeOf21
  v21 := Tryz.zeroValue21
  t37 := Tryz.underlying74
  a37 := Tryz.isAgg74
  z37 := Tryz.sizeOf74
  v37 := Tryz.zeroValue74
  t46 := Tryz.underlying147
  a46 := Tryz.isAgg147
  z46 := Tryz.sizeOf147
  v46 := Tryz.zeroValue147
  t51 := Tryz.underlying158
  a51 := Tryz.isAgg158
  z51 := Tryz.sizeOf158
  v51 := Tryz.zeroValue158
  t53 := Tryz.underlying141
  a53 := Tryz.isAgg141
  z53 := Tryz.sizeOf141
  v53 := Tryz.zeroValue141
  t75 := Tryz.underlying33
  a75 := Tryz.isAgg33
  z75 := Tryz.sizeOf33
  v75 := Tryz.zeroValue33
  t76 := Tryz.underlying78
  a76 := Tryz.isAgg78
  z76 := Tryz.sizeOf78
  v76 := Tryz.zeroValue78
  t85 := Tryz.underlying149
  a85 := Tryz.isAgg149
  z85 := Tryz.sizeOf149
  v85 := Tryz.zeroValue149
  t127 := Tryz.underlying94
  a127 := Tryz.isAgg94
  z127 := Tryz.sizeOf94
  v127 := Tryz.zeroValue94
  t143 := Tryz.underlying177
  a143 := Tryz.isAgg177
  z143 := Tryz.sizeOf177
  v143 := Tryz.zeroValue177
  t145 := Tryz.underlying179
  a145 := Tryz.isAgg179
  z145 := Tryz.sizeOf179
  v145 := Tryz.zeroValue179
  t167 := Tryz.underlying148
  a167 := Tryz.isAgg148
  z167 := Tryz.sizeOf148
  v167 := Tryz.zeroValue148
  t168 := Tryz.underlying151
  a168 := Tryz.isAgg151
  z168 := Tryz.sizeOf151
  v168 := Tryz.zeroValue151
  t171 := Tryz.underlying140
  a171 := Tryz.isAgg140
  z171 := Tryz.sizeOf140
  v171 := Tryz.zeroValue140
  t173 := Tryz.underlying144
  a173 := Tryz.isAgg144
  z173 := Tryz.sizeOf144
  v173 := Tryz.zeroValue144
  t175 := Tryz.underlying168
  a175 := Tryz.isAgg168
  z175 := Tryz.sizeOf168
  v175 := Tryz.zeroValue168
  t210 := Tryz.underlying172
  a210 := Tryz.isAgg172
  z210 := Tryz.sizeOf172
  v210 := Tryz.zeroValue172
  t212 := Tryz.underlying157
  a212 := Tryz.isAgg157
  z212 := Tryz.sizeOf157
  v212 := Tryz.zeroValue157
  t213 := Tryz.underlying159
  a213 := Tryz.isAgg159
  z213 := Tryz.sizeOf159
  t232 := Tryz.underlying181
  a232 := Tryz.isAgg181
  z232 := Tryz.sizeOf181
  v232 := Tryz.zeroValue181
  t233 := Tryz.underlying182
  a233 := Tryz.isAgg182
  z233 := Tryz.sizeOf182
  v233 := Tryz.zeroValue182
  g15 := by kernel_rfl
  g16 := by kernel_rfl
  g17 := by kernel_rfl
  g18 := by kernel_rfl
  g19 := by kernel_rfl
  t80 := Tryz.underlying80
  a80 := Tryz.isAgg80
  z80 := Tryz.sizeOf80
  v80 := Tryz.zeroValue80
  i0 := by kernel_rfl
  i2 := by kernel_rfl
  i3 := by kernel_rfl
  i4 := by kernel_rfl
  i5 := by kernel_rfl
  i9 := by kernel_rfl
  i20 := by kernel_rfl
  i21 := by kernel_rfl
  i37 := by kernel_rfl
  i46 := by kernel_rfl
  i51 := by kernel_rfl
  i53 := by kernel_rfl
  i75 := by kernel_rfl
  i76 := by kernel_rfl
  i80 := by kernel_rfl
  i85 := by kernel_rfl
  i127 := by kernel_rfl
  i143 := by kernel_rfl
  i145 := by kernel_rfl
  i167 := by kernel_rfl
  i168 := by kernel_rfl
  i171 := by kernel_rfl
  i173 := by kernel_rfl
  i175 := by kernel_rfl
  i210 := by kernel_rfl
  i212 := by kernel_rfl
  i232 := by kernel_rfl
  i233 := by kernel_rfl
  m15 := by kernel_rfl
  m16 := by kernel_rfl
  m17 := by kernel_rfl
  m18 := by kernel_rfl
  m19 := by kernel_rfl
  c0 := by kernel_rfl
  c2 := by kernel_rfl
  c3 := by kernel_rfl
  c4 := by kernel_rfl
  c5 := by kernel_rfl
  c9 := by kernel_rfl
  c20 := by kernel_rfl
  c21 := by kernel_rfl
  c37 := by kernel_rfl
  c46 := by kernel_rfl
  c51 := by kernel_rfl
  c53 := by kernel_rfl
  c75 := by kernel_rfl
  c76 := by kernel_rfl
  c80 := by kernel_rfl
  c85 := by kernel_rfl
  c127 := by kernel_rfl
  c143 := by kernel_rfl
  c145 := by kernel_rfl
  c167 := by kernel_rfl
  c168 := by kernel_rfl
  c171 := by kernel_rfl
  c173 := by kernel_rfl
  c175 := by kernel_rfl
  c210 := by kernel_rfl
  c212 := by kernel_rfl
  c213 := by kernel_rfl
  c232 := by kernel_rfl
  c233 := by kernel_rfl }
open Go.RowKit in
theorem Tryz.strconv_Atoi_ok (s : ByteArray) (hmax : s.size ≤ 9223372036854775806) (v : Int) (h : Lib.atoiAll s.data.toList = .ok v) (w : World) :
    Calls Tryz.prog 57 #[.string s] w fun e w' => e = .returned (.tuple #[.int .i64 v, .nilIface]) ∧ (w' = w ∨ ∃ t, w' = Lib.bytesWorld w 5 t) := Any.strconv_Atoi_ok Tryz.laysC172 s hmax v h w
open Go.RowKit in
theorem Tryz.strconv_Atoi_range (s : ByteArray) (hlim : s.size ≤ 281474976710656) (h : Lib.atoiAll s.data.toList = .range) (ev : Value) (w : World) (hv : w.cell? ⟨18, 0, none⟩ = some ev) (hev : ev = .nilIface ∨ ∃ te pe, ev = .iface te pe) :
    Calls Tryz.prog 57 #[.string s] w fun e w' => ∃ N, e = .returned (.tuple #[.int .i64 (Lib.atoiSat s.data.toList), .iface 151 (.pointer (some ⟨N, 0, none⟩))]) ∧ w.heap.size ≤ N ∧ w'.heap[N]? = some (.cells #[.string ⟨#[65, 116, 111, 105]⟩, .string s, ev] 172 (0, 0)) ∧ Below w.heap.size w w' := Any.strconv_Atoi_range Tryz.laysC172 s hlim h ev w hv hev
def Tryz.lays146_ren : Go.Shelf.Ren := ⟨fun | 146 => 13 | 221 => 40 | 268 => 54 | 138 => 55 | 143 => 56 | 195 => 69 | 197 => 70 | 218 => 71 | 219 => 72 | 260 => 90 | 217 => 91 | 225 => 92 | 224 => 93 | 267 => 94 | 266 => 108 | 314 => 109 | n => n, fun | 9 => 9 | 31 => 42 | 3 => 3 | 4 => 4 | 0 => 0 | 105 => 112 | 21 => 21 | 5 => 5 | 46 => 147 | 119 => 162 | 139 => 165 | 138 => 164 | 146 => 166 | 51 => 158 | n => n, fun | 1 => 13 | 3 => 15 | 4 => 16 | n => n⟩
theorem Tryz.lays146 : Go.Proofs.Lays.n146 Tryz.prog Tryz.lays146_ren := {
  mixed := by kernel_rfl
  f138 := Tryz.func55.trans (congrArg some (by kernel_rfl))
  f143 := Tryz.func56.trans (congrArg some (by kernel_rfl))
  f146 := Tryz.func13.trans (congrArg some (by kernel_rfl))
  f195 := Tryz.func69.trans (congrArg some (by kernel_rfl))
  f197 := Tryz.func70.trans (congrArg some (by kernel_rfl))
  f217 := Tryz.func91.trans (congrArg some (by kernel_rfl))
  f218 := Tryz.func71.trans (congrArg some (by kernel_rfl))
  f219 := Tryz.func72.trans (congrArg some (by kernel_rfl))
  f221 := Tryz.func40.trans (congrArg some (by kernel_rfl))
  f224 := Tryz.func93.trans (congrArg some (by kernel_rfl))
  f225 := Tryz.func92.trans (congrArg some (by kernel_rfl))
  f260 := Tryz.func90.trans (congrArg some (by kernel_rfl))
  f266 := Tryz.func108.trans (congrArg some (by kernel_rfl))
  f267 := Tryz.func94.trans (congrArg some (by kernel_rfl))
  f268 := Tryz.func54.trans (congrArg some (by kernel_rfl))
  f314 := Tryz.func109.trans (congrArg some (by kernel_rfl))
  t0 := Tryz.underlying0
  a0 := Tryz.isAgg0
  z0 := Tryz.sizeOf0
  v0 := Tryz.zeroValue0
  t3 := Tryz.underlying3
  a3 := Tryz.isAgg3
  z3 := Tryz.sizeOf3
  v3 := Tryz.zeroValue3
  t4 := Tryz.underlying4
  a4 := Tryz.isAgg4
  z4 := Tryz.sizeOf4
  v4 := Tryz.zeroValue4
  t5 := Tryz.underlying5
  a5 := Tryz.isAgg5
  z5 := Tryz.sizeOf5
  v5 := Tryz.zeroValue5
  t9 := Tryz.underlying9
  a9 := Tryz.isAgg9
  z9 := Tryz.sizeOf9
  v9 := Tryz.zeroValue9
  t21 := Tryz.underlying21
  a21 := Tryz.isAgg21
  z21 := Tryz.sizeOf21
  v21 := Tryz.zeroValue21
  t31 := Tryz.underlying42
  a31 := Tryz.isAgg42
  z31 := Tryz.sizeOf42
  v31 := Tryz.zeroValue42
  t46 := Tryz.underlying147
  a46 := Tryz.isAgg147
  z46 := Tryz.sizeOf147
  v46 := Tryz.zeroValue147
  t51 := Tryz.underlying158
  a51 := Tryz.isAgg158
  z51 := Tryz.sizeOf158
  v51 := Tryz.zeroValue158
  t105 := Tryz.underlying112
  a105 := Tryz.isAgg112
  z105 := Tryz.sizeOf112
  v105 := Tryz.zeroValue112
  t119 := Tryz.underlying162
  a119 := Tryz.isAgg162
  z119 := Tryz.sizeOf162
  t138 := Tryz.underlying164
  a138 := Tryz.isAgg164
  z138 := Tryz.sizeOf164
  v138 := Tryz.zeroValue164
  t139 := Tryz.underlying165
  a139 := Tryz.isAgg165
  z139 := Tryz.sizeOf165
  v139 := Tryz.zeroValue165
  t146 := Tryz.underlying166
  a146 := Tryz.isAgg166
  z146 := Tryz.sizeOf166
  v146 := Tryz.zeroValue166
  g1 := by kernel_rfl
  g3 := by kernel_rfl
  g4 := by kernel_rfl }
open Go.RowKit Go.Lib in
theorem Tryz.strings_Split (s sep : ByteArray) (m : Int) (w : World) (hs : s.size < 4294967281) (hm : w.cell? ⟨13, 0, none⟩ = some (.int .i64 m)) (h1 : 1 ≤ sep.size) :
    Calls Tryz.prog 13 #[.string s, .string sep] w fun e w' =>
      e = .returned (.slice (some ⟨w.heap.size, 0, none⟩) (Lib.countB s sep + 1) (Lib.countB s sep + 1)) ∧ w' = w.alloc (.cells ((Lib.splitB sep 0 (Lib.countB s sep) s).map Value.string).toArray 9) := Any.strings_Split Tryz.lays146 (by kernel_rfl) s sep m w hs hm h1
open Go.RowKit in
theorem Tryz.strings_Trim_laid (s cutset : ByteArray) (w : World) (hs : s.size ≤ 9223372036854775807) (hcs : cutset.size < 4294967281) (hascii : ∀ (j : Nat) b, cutset.data.toList[j]? = some b → b.toNat < 128) :
    Calls Tryz.prog 66 #[.string s, .string cutset] w fun e w' => e = .returned (.string ⟨(Lib.trimS s.data.toList cutset.data.toList).toArray⟩) ∧ Below w.heap.size w w' := Any.strings_Trim_laid Tryz.lays160 (by kernel_rfl) s cutset w hs hcs hascii
end Go.Proofs
namespace Go.Proofs.YtpifbahafnaejaaGreatDoor
open Go.RowKit

/-- A small letter or a digit. -/
def alnum (c : UInt8) : Bool := (decide (97 ≤ c.toNat) && decide (c.toNat ≤ 122)) || (decide (48 ≤ c.toNat) && decide (c.toNat ≤ 57))
def nameB (l : List UInt8) : Bool := !l.isEmpty && decide (l.length ≤ 8) && l.all alnum
def cutset : List UInt8 := [97, 98, 99, 100, 101, 102, 103, 104, 105, 106, 107, 108, 109, 110, 111, 112, 113, 114, 115, 116, 117, 118, 119, 120, 121, 122, 48, 49, 50, 51, 52, 53, 54, 55, 56, 57]
theorem cutset_alnum (c : UInt8) : cutset.contains c = alnum c := by
  have h : ∀ n : Fin 256, cutset.contains (UInt8.ofNat n.val) = alnum (UInt8.ofNat n.val) := by decide +kernel
  have := h ⟨c.toNat, c.toNat_lt⟩
  simpa using this
theorem dropWhile_all (l : List UInt8) (p : UInt8 → Bool) : l.dropWhile p = [] ↔ l.all p = true := by
  induction l with
  | nil => simp
  | cons x r ih =>
    by_cases h : p x = true
    · simp [h, ih]
    · simp [h]
theorem trimS_all (l cs : List UInt8) : Lib.trimS l cs = [] ↔ l.all (cs.contains ·) = true := by
  have hr : ∀ l : List UInt8, Lib.trimRightS l cs = [] ↔ l.all (cs.contains ·) = true := fun l => by
    unfold Lib.trimRightS
    rw [List.reverse_eq_nil_iff, dropWhile_all, List.all_reverse]
  unfold Lib.trimS Lib.trimLeftS
  rw [dropWhile_all]
  constructor
  · intro h
    -- what is left of the right trim is all in the set: so it is nothing
    have h1 : Lib.trimRightS l cs = [] := by
      unfold Lib.trimRightS at h ⊢
      rw [List.all_reverse] at h
      cases hd : l.reverse.dropWhile (cs.contains ·) with
      | nil => rfl
      | cons x r =>
        rw [hd] at h
        have hx := List.head_dropWhile_not (p := (cs.contains ·)) (l := l.reverse) (by rw [hd]; simp)
        simp only [hd, List.head_cons] at hx
        simp only [List.all_cons, Bool.and_eq_true] at h
        rw [h.1] at hx
        cases hx
    exact (hr l).1 h1
  · intro h
    rw [(hr l).2 h]
    rfl

set_option maxHeartbeats 400000 in
theorem name_any (l : List UInt8) (hs : l.length ≤ 1000000000) (w : World) :
    Calls Tryz.prog 48 #[.string ⟨l.toArray⟩] w fun e w' => e = .returned (.bool (nameB l)) ∧ Below w.heap.size w w' := by
  have hsz : (⟨l.toArray⟩ : ByteArray).size = l.length := by simp [ByteArray.size]
  by_cases h0 : l = []
  · subst h0
    go_enter Tryz.func48, Tryz.ntmps48
    go_wp2
    go_ret
    exact ⟨rfl, Below.refl _ _⟩
  · have hb1 : l.isEmpty = false := by cases l <;> simp_all
    have hb2 : (l == []) = false := by simpa using h0
    have hb3 : (!l == []) = true := by simpa using h0
    by_cases h8 : l.length ≤ 8
    · have HT := Lib.hid (Tryz.strings_Trim_laid ⟨l.toArray⟩ ⟨#[97, 98, 99, 100, 101, 102, 103, 104, 105, 106, 107, 108, 109, 110, 111, 112, 113, 114, 115, 116, 117, 118, 119, 120, 121, 122, 48, 49, 50, 51, 52, 53, 54, 55, 56, 57]⟩ w (by rw [hsz]; omega) (by decide) (ascii_of_all (by decide)))
      obtain ⟨t, ht⟩ : ∃ t, t = Lib.trimS l cutset := ⟨_, rfl⟩
      have hT := HT.out
      rw [show (⟨l.toArray⟩ : ByteArray).data.toList = l from rfl, show (⟨#[97, 98, 99, 100, 101, 102, 103, 104, 105, 106, 107, 108, 109, 110, 111, 112, 113, 114, 115, 116, 117, 118, 119, 120, 121, 122, 48, 49, 50, 51, 52, 53, 54, 55, 56, 57]⟩ : ByteArray).data.toList = cutset from rfl, ← ht] at hT
      have HTT := Lib.hid hT
      have hall := trimS_all l cutset
      rw [← ht] at hall
      have hal : l.all (cutset.contains ·) = l.all alnum := by congr 1; funext c; exact cutset_alnum c
      rw [hal] at hall
      have HN := Lib.hid (show nameB l = decide (t = []) by
        unfold nameB
        rw [hb1, decide_eq_true h8]
        simp only [Bool.not_false, Bool.true_and]
        rw [Bool.eq_iff_iff, ← hall]
        simp)
      clear HT hT ht hall hal hb1
      by_cases h9 : t = []
      · subst h9
        go_enter Tryz.func48, Tryz.ntmps48
        go_wp2_with fail
        refine HTT.out.mono ?_
        rintro e w1 ⟨rfl, b1⟩
        go_wp2
        go_ret
        exact ⟨by rw [HN.out]; rfl, b1⟩
      · have hb4 : (t == []) = false := by simpa using h9
        have hb5 : t.isEmpty = false := by cases t <;> simp_all
        go_enter Tryz.func48, Tryz.ntmps48
        go_wp2_with fail
        refine HTT.out.mono ?_
        rintro e w1 ⟨rfl, b1⟩
        go_wp2
        go_ret
        exact ⟨by rw [HN.out, decide_eq_false h9]; rfl, b1⟩
    · have HN := Lib.hid (show nameB l = false by unfold nameB; rw [decide_eq_false h8]; simp)
      clear hb1
      go_enter Tryz.func48, Tryz.ntmps48
      go_wp2
      go_ret
      exact ⟨by rw [HN.out]; rfl, Below.refl _ _⟩
set_option maxHeartbeats 400000 in
theorem name_wide (l : List UInt8) (w : World) :
    Calls Tryz.prog 48 #[.string ⟨l.toArray⟩] w fun e w' => e = .returned (.bool (nameB l)) ∧ Below w.heap.size w w' := by
  by_cases h8 : l.length ≤ 8
  · exact name_any l (by omega) w
  · have hsz : (⟨l.toArray⟩ : ByteArray).size = l.length := by simp [ByteArray.size]
    have h0 : l ≠ [] := by rintro rfl; simp at h8
    have hb2 : (l == []) = false := by simpa using h0
    have hb3 : (!l == []) = true := by simpa using h0
    have HN := Lib.hid (show nameB l = false by unfold nameB; rw [decide_eq_false h8]; simp)
    go_enter Tryz.func48, Tryz.ntmps48
    go_wp2
    go_ret
    exact ⟨by rw [HN.out]; rfl, Below.refl _ _⟩
end Go.Proofs.YtpifbahafnaejaaGreatDoor
namespace Go.Proofs.YtpifbahafnaejaaGreatDoor
open Go.RowKit

theorem bcell {W w1 : World} (hb : Below W.heap.size W w1) : (∀ b o, b < W.heap.size → w1.cell? ⟨b, o, none⟩ = W.cell? ⟨b, o, none⟩) ∧ (∀ b o, b < W.heap.size → w1.frozen? ⟨b, o, none⟩ = W.frozen? ⟨b, o, none⟩) :=
  ⟨fun b o h => hb.cell (p := ⟨b, o, none⟩) h, fun b o h => hb.frozen (p := ⟨b, o, none⟩) h⟩

/-- Is a number within two? -/
def wiB (n a b : Int) : Bool := decide (a ≤ n ∧ n ≤ b)
theorem within_any (n a b : Int) (w : World) : Calls Tryz.prog 49 #[.int .i64 n, .int .i64 a, .int .i64 b] w fun e w' => e = .returned (.bool (wiB n a b)) ∧ w = w' := by
  by_cases h : a ≤ n ∧ n ≤ b
  · rw [show wiB n a b = true from decide_eq_true h]
    exact within_yes n a b w h.1 h.2
  · rw [show wiB n a b = false from decide_eq_false h]
    exact within_no n a b w (by omega)
theorem heap_two {w w1 : World} {o : Obj} (b : Below (w.alloc o).heap.size (w.alloc o) w1) : w.heap.size < w1.heap.size := by
  have := b.size
  simp at this; omega
theorem below_one (w : World) (o : Obj) : Below w.heap.size w (w.alloc o) := (Below.refl _ _).alloc (Nat.le_refl _) _
theorem below_two (w : World) (o1 o2 : Obj) : Below w.heap.size w ((w.alloc o1).alloc o2) := ((Below.refl _ _).alloc (Nat.le_refl _) _).alloc (by simp) _
theorem ret_str {a b : List UInt8} (h : a = b) : Ending.returned (.string ⟨a.toArray⟩) = .returned (.string ⟨b.toArray⟩) := by rw [h]
end Go.Proofs.YtpifbahafnaejaaGreatDoor
namespace Go.Proofs.YtpifbahafnaejaaGreatDoor
open Go.RowKit Go.Sort Go.Proofs

section
variable {α : Type} {enc : α → List Value} {k : Nat} {w w' : World} {A : Option Addr} {xs : List α}

/-- The slice at A reads as the elements xs, of k cells each. -/
def RowAt (enc : α → List Value) (k : Nat) (w : World) (A : Option Addr) (xs : List α) : Prop :=
  xs = [] ∨ ∃ b o, A = some ⟨b, o, none⟩ ∧ b < w.heap.size ∧ ∀ i (h : i < xs.length) c v, (enc xs[i])[c]? = some v → w.cell? ⟨b, o + i * k + c, none⟩ = some v
theorem RowAt.nil : RowAt enc k w A ([] : List α) := .inl rfl
theorem RowAt.below (h : RowAt enc k w A xs) (hb : Below w.heap.size w w') : RowAt enc k w' A xs := by
  rcases h with h | ⟨b, o, h1, h2, h3⟩
  · exact .inl h
  · exact .inr ⟨b, o, h1, Nat.lt_of_lt_of_le h2 hb.size, fun i hi c v hv => (hb.cell (p := ⟨b, o + i * k + c, none⟩) h2).trans (h3 i hi c v hv)⟩

/-- The cells of elements, one behind the other. -/
def flatL (enc : α → List Value) (xs : List α) : List Value := xs.flatMap enc
theorem flatL_length (hk : ∀ x, (enc x).length = k) (xs : List α) : (flatL enc xs).length = xs.length * k := by
  induction xs with
  | nil => simp [flatL]
  | cons x r ih =>
    have : flatL enc (x :: r) = enc x ++ flatL enc r := rfl
    rw [this, List.length_append, hk, ih, List.length_cons, Nat.add_mul, Nat.one_mul, Nat.add_comm]
theorem flatL_append (xs ys : List α) : flatL enc (xs ++ ys) = flatL enc xs ++ flatL enc ys := by simp [flatL]
theorem flatL_get (hk : ∀ x, (enc x).length = k) (xs : List α) (i c : Nat) (hi : i < xs.length) (hc : c < k) : (flatL enc xs)[i * k + c]? = (enc xs[i])[c]? := by
  induction xs generalizing i with
  | nil => simp at hi
  | cons x r ih =>
    have e : flatL enc (x :: r) = enc x ++ flatL enc r := rfl
    rw [e]
    cases i with
    | zero => rw [Nat.zero_mul, Nat.zero_add, List.getElem?_append_left (by rw [hk]; exact hc)]; rfl
    | succ i =>
      rw [List.getElem?_append_right (by rw [hk, Nat.add_mul]; omega), hk, show (i + 1) * k + c - k = i * k + c by rw [Nat.add_mul]; omega, ih i (by simpa using hi)]
      rfl
theorem flat_split (hk0 : 0 < k) (xs : List α) (j : Nat) (hj : j < xs.length * k) : j / k < xs.length ∧ j % k < k ∧ j / k * k + j % k = j :=
  ⟨Nat.div_lt_of_lt_mul (by rw [Nat.mul_comm]; exact hj), Nat.mod_lt _ hk0, Nat.div_add_mod' j k⟩

/-- What the slice's cells are, for an append or a copy. -/
theorem RowAt.news (h : RowAt enc k w A xs) (hk : ∀ x, (enc x).length = k) (hk0 : 0 < k) {b o : Nat} (hA : A = some ⟨b, o, none⟩) : ∀ j u, (flatL enc xs)[j]? = some u → w.cell? ⟨b, o + j, none⟩ = some u := by
  intro j u hj
  have hjl : j < xs.length * k := by rw [← flatL_length hk]; exact (List.getElem?_eq_some_iff.1 hj).1
  obtain ⟨h1, h2, h3⟩ := flat_split hk0 xs j hjl
  rcases h with rfl | ⟨b', o', hA', _, hc⟩
  · simp at hjl
  · rw [hA] at hA'
    cases hA'
    have := flatL_get hk xs (j / k) (j % k) h1 h2
    rw [h3, hj] at this
    have h4 := hc (j / k) h1 (j % k) u this.symm
    rw [Nat.add_assoc, h3] at h4
    exact h4

/-- A row that the call owns reads so. -/
theorem RowAt.of_own {B : Nat} {e : TypeId} {v : Value} (hk : ∀ x, (enc x).length = k) (h : w.ownsRow B e k v xs.length (flatL enc xs)) : ∃ A cap, v = .slice A xs.length cap ∧ RowAt enc k w A xs ∧ (∀ a, A = some a → B ≤ a.block) := by
  rcases h.2 with ⟨rfl, h0⟩ | ⟨g, cap, cur, rfl, hB, hg, _, _, _, ht⟩
  · obtain rfl := List.eq_nil_of_length_eq_zero h0
    exact ⟨_, _, rfl, .inl rfl, fun a ha => by cases ha⟩
  · refine ⟨_, _, rfl, .inr ⟨g, 0, rfl, ?_, fun i hi c v hv => ?_⟩, fun a ha => by cases ha; exact hB⟩
    · rcases Nat.lt_or_ge g w.heap.size with hl | hl
      · exact hl
      · rw [Array.getElem?_eq_none hl] at hg; cases hg
    · have hc : c < k := by rw [← hk xs[i]]; exact (List.getElem?_eq_some_iff.1 hv).1
      have hlt : i * k + c < xs.length * k := by
        have : (i + 1) * k ≤ xs.length * k := Nat.mul_le_mul_right k hi
        rw [Nat.add_mul] at this; omega
      rw [cell_of_row w g _ cur _ _ hg, Nat.zero_add, ← Array.getElem?_toList, ← List.getElem?_take_of_lt (l := cur.toList) hlt, ht, flatL_get hk xs i c hi hc]
      exact hv

theorem getBang (xs : List α) [Inhabited α] (i : Nat) (h : i < xs.length) : xs.toArray[i]! = xs[i] := by
  simp [h]
/-- A row that the call owns can be sorted. -/
theorem holds_of_own [Inhabited α] {B g cap n : Nat} {e : TypeId} (hk : ∀ x, (enc x).length = k) (hk0 : 0 < k) (h : w.ownsRow B e k (.slice (some ⟨g, 0, none⟩) n cap) xs.length (flatL enc xs)) : HoldsK enc k w g 0 xs.toArray := by
  intro j hj
  rw [size_flatK, List.size_toArray] at hj
  obtain ⟨h1, h2, h3⟩ := flat_split hk0 xs j hj
  rw [get_flatK _ _ _ _ (by rw [List.size_toArray]; exact hj), getBang xs _ h1, Nat.zero_add]
  rcases h.2 with ⟨h0, _⟩ | ⟨g', cap', cur, h0, _, hg, _, _, _, ht⟩
  · cases h0
  · cases h0
    have hl : j < (flatL enc xs).length := by rw [flatL_length hk]; exact hj
    refine ⟨?_, by simp [World.frozen?, hg]⟩
    rw [cell_of_row w g _ cur _ _ hg, ← Array.getElem?_toList, ← List.getElem?_take_of_lt (l := cur.toList) hj, ht]
    have := flatL_get hk xs (j / k) (j % k) h1 h2
    rw [h3] at this
    rw [this]
    simp only [id]
    rw [List.getElem?_eq_getElem (by rw [hk]; exact h2)]
    congr 1
    rw [List.getElem!_eq_getElem?_getD, List.getElem?_eq_getElem (by rw [hk]; exact h2)]
    rfl

/-- Behind a sort: what is held reads as a slice. -/
theorem RowAt.of_sort [Inhabited α] {w0 : World} {g : Nat} {d0 : Array α} (hk : ∀ x, (enc x).length = k) (R : RowK enc k w0 g 0 d0) (S : SWK enc k w0 g 0 xs.toArray w) (hs : xs.length = d0.size) : RowAt enc k w (some ⟨g, 0, none⟩) xs := by
  refine .inr ⟨g, 0, rfl, S.lt R.hblk, fun i hi c v hv => ?_⟩
  have hc : c < k := by rw [← hk xs[i]]; exact (List.getElem?_eq_some_iff.1 hv).1
  have h := (HoldsK.cell (S.holds R.hblk R.hH (by rw [List.size_toArray]; exact hs)) (i := i) (c := c) (by rw [List.size_toArray]; exact hi) hc).1
  rw [h, getBang xs i hi]
  rw [List.getElem!_eq_getElem?_getD, hv]
  rfl

/-- What a sort turns: the row's block alone. -/
theorem sort_block [Inhabited α] {w0 : World} {g o : Nat} {d : Array α} (S : SWK enc k w0 g o d w) (j : Nat) (hj : j < w0.heap.size) (hne : j ≠ g) : w.heap[j]? = w0.heap[j]? := by
  obtain ⟨m, os, rfl⟩ := S
  simp [sortWorldK, Go.Sort.grow, putRowK, putRow, mapBlock, Go.Sort.ahead, Array.getElem?_append, hj]
  rw [Array.getElem_modify_of_ne (Ne.symm hne)]
theorem sort_below [Inhabited α] {B : Nat} {a w0 : World} {g o : Nat} {d : Array α} (h : Below B a w0) (S : SWK enc k w0 g o d w) (hg : B ≤ g) (hB : B ≤ w0.heap.size) : Below B a w := by
  refine h.trans ⟨?_, ?_, ?_, S.le, fun j hj => sort_block S j (by omega) (by omega)⟩
  all_goals
    obtain ⟨m, os, rfl⟩ := S
    rfl

/-- Appending elements to a row of the call's own. -/
theorem run_append_rows {P : Program} (w : World) (base : Nat) (t ty e : TypeId) (i : TypeInfo) (z : Value) (bytes : Nat) (ht : P.underlying t = some (.slice e)) (hi : P.info? e = some i) (hz : i.zero = some z)
    (hsize : i.size = k) (hby : i.bytes = bytes) (hzs : z.cells.size = k) (hk : ∀ x, (enc x).length = k) (hk0 : 0 < k) (h1 : ∀ x, ∀ u ∈ enc x, u.oneCell' = true)
    (v : Value) (n : Nat) (cs : List Value) (hown : w.ownsRow base e k v n cs) (A : Option Addr) (c : Nat) (ys : List α) (hS : RowAt enc k w A ys) (hn : n + ys.length ≤ 1000000) (hbytes : bytes ≤ 1000) (hbase : base ≤ w.heap.size) :
    ∃ v' w', (Builtin.append_ #[t, t] ty #[v, .slice A ys.length c]).run P w = .ok v' w' ∧ w'.ownsRow base e k v' (n + ys.length) (cs ++ flatL enc ys) ∧ w.grownBy w' v.ownBlock := by
  cases A with
  | none =>
    have h0 : ys = [] := by
      rcases hS with h | ⟨b, o, h, _⟩
      · exact h
      · cases h
    subst h0
    refine ⟨v, w, ?_, by simpa [flatL] using hown, World.grownBy.refl w _⟩
    rcases hown.2 with ⟨rfl, rfl⟩ | ⟨g, cap, cur, rfl, _, _, hnc, _⟩
    · simp [Builtin.append_, run_underlying ht, sizeOf, typeInfo, hi, Builtin.lenOf, Builtin.firstCells]
    · simp [Builtin.append_, run_underlying ht, sizeOf, typeInfo, hi, Builtin.lenOf, Builtin.firstCells, hnc, storeCells]
  | some ad =>
    have hc : ∀ j u, (flatL enc ys)[j]? = some u → w.cell? (ad.add j) = some u := by
      intro j u hj
      have hjl : j < (flatL enc ys).length := (List.getElem?_eq_some_iff.1 hj).1
      have hS' := hS
      rcases hS' with h | ⟨b, o, h, _, _⟩
      · subst h; simp [flatL] at hjl
      · cases h
        have hplain : (⟨b, o, none⟩ : Addr).add j = ⟨b, o + j, none⟩ := by unfold Addr.add; split <;> simp_all
        rw [hplain]
        exact hS.news hk hk0 rfl j u hj
    have hb : (n + ys.length) * bytes ≤ 1000000 * 1000 := Nat.mul_le_mul hn hbytes
    obtain ⟨v', w', h4, h2, h3, _, _⟩ := run_append_own_at (P := P) w base t ty e i z k bytes ht hi hz hsize hby hzs hk0 v n cs hown ad ys.length c (flatL enc ys) (flatL_length hk ys) hc (fun u hu => by
      obtain ⟨x, _, hx⟩ := List.mem_flatMap.1 hu
      exact h1 x u hx) (by unfold maxLen; omega) (by omega) hbase
    exact ⟨v', w', h4, h2, h3⟩
theorem wpList_append_rows {P : Program} {ops : Array Oper} {rest : List Oper} {o : Oper} {a : Act} {Q : Exit → Act → World → Prop} (w : World) (hgd : o.guard = none) (s x : Operand) (t : TypeId)
    (ho : o.op = .call { callee := .builtin .append, args := #[s, x], argTypes := #[t, t] })
    (base : Nat) (e : TypeId) (i : TypeInfo) (z : Value) (bytes : Nat) (ht : P.underlying t = some (.slice e)) (hi : P.info? e = some i) (hz : i.zero = some z)
    (hsize : i.size = k) (hby : i.bytes = bytes) (hzs : z.cells.size = k) (hk : ∀ x, (enc x).length = k) (hk0 : 0 < k) (h1 : ∀ x, ∀ u ∈ enc x, u.oneCell' = true)
    (v : Value) (n : Nat) (cs : List Value) (hs : a.eval s = v) (hown : w.ownsRow base e k v n cs) (A : Option Addr) (c : Nat) (ys : List α) (hx : a.eval x = .slice A ys.length c) (hS : RowAt enc k w A ys) (hn : n + ys.length ≤ 1000000) (hbytes : bytes ≤ 1000) (hbase : base ≤ w.heap.size)
    (h : ∀ v' w', Hid (w'.ownsRow base e k v' (n + ys.length) (cs ++ flatL enc ys)) → Below base w w' → wpList P ops Q rest (a.put o.dst v') w') : wpList P ops Q (o :: rest) a w := by
  refine wpList_plain hgd fun K hK => ?_
  obtain ⟨v', w', hr, h2, h3⟩ := run_append_rows w base t o.type e i z bytes ht hi hz hsize hby hzs hk hk0 h1 v n cs hown A c ys hS hn hbytes hbase
  unfold Oper.wp execOp
  simp only [ho, resolve, invoke, builtin, Sem.run_bind, Sem.run_pure, Result.andThen_ok, List.map_toArray, List.map_cons, List.map_nil, hs, hx, hr]
  exact hK _ _ (h v' w' h2 ((Below.refl base w).grown h3 hbase (fun j hj => (hown.lt j hj).1)))
end
theorem below_grown (w : World) (q : Nat) (os : Array Obj) : Below w.heap.size w (Go.Sort.grow (w.drewN q) os) :=
  ⟨rfl, rfl, rfl, by simp [Go.Sort.grow, World.drewN], fun k hk => by simp [Go.Sort.grow, World.drewN, Array.getElem?_append, hk]⟩
end Go.Proofs.YtpifbahafnaejaaGreatDoor
namespace Go.Proofs.YtpifbahafnaejaaGreatDoor
open Go.RowKit

/-- The first that is not zero. -/
def orL : List Int → Int
  | [] => 0
  | x :: r => if x = 0 then orL r else x
theorem orL_zeros (xs : List Int) (k : Nat) (hk : k ≤ xs.length) (h : ∀ j (hj : j < xs.length), j < k → xs[j] = 0) : orL xs = orL (xs.drop k) := by
  induction xs generalizing k with
  | nil => simp
  | cons x r ih =>
    cases k with
    | zero => rfl
    | succ k =>
      have h0 := h 0 (by simp) (by omega)
      simp only [List.getElem_cons_zero] at h0
      subst h0
      rw [List.drop_succ_cons]
      show (if (0 : Int) = 0 then orL r else 0) = _
      rw [if_pos rfl]
      exact ih k (by simpa using hk) fun j hj hjk => by
        have := h (j + 1) (by simpa using hj) (by omega)
        simpa using this
theorem orL_at (xs : List Int) (k : Nat) (hk : k < xs.length) (h : ∀ j (hj : j < xs.length), j < k → xs[j] = 0) (hx : xs[k] ≠ 0) : orL xs = xs[k] := by
  rw [orL_zeros xs k (by omega) h, List.drop_eq_getElem_cons hk]
  exact if_neg hx

/-! Strings compared. -/
theorem cmpB_refl (a : List UInt8) : Lib.compareBytes a a = 0 := by
  induction a with
  | nil => rfl
  | cons x r ih => simp [Lib.compareBytes, ih]
theorem cmpB_vals (a b : List UInt8) : Lib.compareBytes a b = -1 ∨ Lib.compareBytes a b = 0 ∨ Lib.compareBytes a b = 1 := by
  induction a generalizing b with
  | nil => cases b <;> simp [Lib.compareBytes]
  | cons x r ih =>
    cases b with
    | nil => simp [Lib.compareBytes]
    | cons y s =>
      simp only [Lib.compareBytes]
      split
      · simp
      · split
        · simp
        · exact ih s
theorem cmpB_eq (a b : List UInt8) : Lib.compareBytes a b = 0 ↔ a = b := by
  refine ⟨fun h => ?_, fun h => by subst h; exact cmpB_refl a⟩
  induction a generalizing b with
  | nil => cases b with
    | nil => rfl
    | cons y s => simp [Lib.compareBytes] at h
  | cons x r ih =>
    cases b with
    | nil => simp [Lib.compareBytes] at h
    | cons y s =>
      simp only [Lib.compareBytes] at h
      split at h
      · simp at h
      · split at h
        · simp at h
        · rename_i h1 h2
          have : x = y := by
            have a1 : ¬ x.toNat < y.toNat := h1
            have a2 : ¬ y.toNat < x.toNat := h2
            exact UInt8.toNat_inj.1 (by omega)
          rw [this, ih s h]
theorem cmpB_swap (a b : List UInt8) : Lib.compareBytes b a = - Lib.compareBytes a b := by
  induction a generalizing b with
  | nil => cases b <;> simp [Lib.compareBytes]
  | cons x r ih =>
    cases b with
    | nil => simp [Lib.compareBytes]
    | cons y s =>
      simp only [Lib.compareBytes]
      by_cases h1 : x < y
      · have h2 : ¬ y < x := by
          have a1 : x.toNat < y.toNat := h1
          intro h
          have a2 : y.toNat < x.toNat := h
          omega
        rw [if_pos h1, if_neg h2, if_pos h1]; rfl
      · by_cases h2 : y < x
        · simp [h1, h2]
        · simp [h1, h2, ih s]
theorem cmpB_trans (a b c : List UInt8) (h1 : Lib.compareBytes a b < 0) (h2 : Lib.compareBytes b c < 0) : Lib.compareBytes a c < 0 := by
  induction a generalizing b c with
  | nil => cases c with
    | nil => cases b <;> simp [Lib.compareBytes] at h1 h2
    | cons z t => simp [Lib.compareBytes]
  | cons x r ih =>
    cases b with
    | nil => simp [Lib.compareBytes] at h1
    | cons y s =>
      cases c with
      | nil => simp [Lib.compareBytes] at h2
      | cons z t =>
        simp only [Lib.compareBytes] at h1 h2 ⊢
        by_cases a1 : x < y
        · by_cases b1 : y < z
          · rw [if_pos (show x < z from (show x.toNat < z.toNat from Nat.lt_trans (show x.toNat < y.toNat from a1) b1))]; omega
          · by_cases b2 : z < y
            · rw [if_neg b1, if_pos b2] at h2; omega
            · have e : y.toNat = z.toNat := by
                have q1 : ¬ y.toNat < z.toNat := b1
                have q2 : ¬ z.toNat < y.toNat := b2
                omega
              rw [if_pos (show x < z from (show x.toNat < z.toNat by rw [← e]; exact a1))]; omega
        · by_cases a2 : y < x
          · rw [if_neg a1, if_pos a2] at h1; omega
          · have e : x = y := by
              have q1 : ¬ x.toNat < y.toNat := a1
              have q2 : ¬ y.toNat < x.toNat := a2
              exact UInt8.toNat_inj.1 (by omega)
            subst e
            rw [if_neg a1, if_neg a1] at h1
            by_cases b1 : x < z
            · rw [if_pos b1]; omega
            · by_cases b2 : z < x
              · rw [if_neg b1, if_pos b2] at h2; omega
              · rw [if_neg b1, if_neg b2] at h2 ⊢
                exact ih s t h1 h2
end Go.Proofs.YtpifbahafnaejaaGreatDoor
namespace Go.Proofs.YtpifbahafnaejaaGreatDoor
open Go.Lib

theorem parse_app (l : List UInt8) (c : UInt8) : ∀ (acc a : Nat), parseUint10 acc l = .ok a → parseUint10 acc (l ++ [c]) = parseUint10 a [c] := by
  induction l with
  | nil => intro acc a h; simp [parseUint10] at h; subst h; rfl
  | cons x r ih =>
    intro acc a h
    rw [List.cons_append, parseUint10]
    rw [parseUint10] at h
    split at h
    · rename_i h1
      rw [if_pos h1]
      split at h
      · cases h
      · rename_i h2
        rw [if_neg h2]
        split at h
        · cases h
        · rename_i h3
          rw [if_neg h3]
          exact ih _ _ h
    · cases h

theorem digit_toNat (u : Nat) (h : u < 10) : (UInt8.ofNat (48 + u)).toNat = 48 + u := by
  simp; omega

theorem parse_dec (u : Nat) : u < 18446744073709551616 → parseUint10 0 (decDigits u) = .ok u := by
  induction u using Nat.strongRecOn with
  | _ u ih =>
    intro hu
    rw [decDigits]
    by_cases h : u < 10
    · rw [dif_pos h, parseUint10, digit_toNat u h, if_pos (by omega), if_neg (by omega), if_neg (by omega), parseUint10]
      simp
    · rw [dif_neg h, parse_app _ _ _ _ (ih (u / 10) (by omega) (by omega)), parseUint10, digit_toNat _ (Nat.mod_lt _ (by omega)), if_pos (by omega), if_neg (by omega), if_neg (by omega), parseUint10]
      congr 1; omega

theorem dec_ne_nil (u : Nat) : decDigits u ≠ [] := by
  rw [decDigits]; split <;> simp

theorem dec_digit (u : Nat) : ∀ c ∈ decDigits u, 48 ≤ c.toNat ∧ c.toNat ≤ 57 := by
  induction u using Nat.strongRecOn with
  | _ u ih =>
    intro c hc
    rw [decDigits] at hc
    by_cases h : u < 10
    · rw [dif_pos h] at hc
      simp only [List.mem_singleton] at hc
      subst hc
      rw [digit_toNat u h]; omega
    · rw [dif_neg h, List.mem_append, List.mem_singleton] at hc
      rcases hc with hc | rfl
      · exact ih (u / 10) (by omega) c hc
      · rw [digit_toNat _ (Nat.mod_lt _ (by omega))]; omega

theorem atoi_dec (u : Nat) (hu : u ≤ 9223372036854775807) : atoiAll (decDigits u) = .ok (u : Int) := by
  have hp := parse_dec u (by omega)
  have hd := dec_digit u
  have hn := dec_ne_nil u
  revert hp hd hn
  generalize decDigits u = l
  intro hp hd hn
  match l, hn with
  | c :: r, _ =>
    have hc := hd c (by simp)
    rw [atoiAll_plain c r (by omega) (by omega)]
    unfold parseMag
    rw [if_neg (by simp), hp]
    unfold signless
    simp
    omega

theorem dec_inj (u v : Nat) (hu : u ≤ 9223372036854775807) (hv : v ≤ 9223372036854775807) (h : decDigits u = decDigits v) : u = v := by
  have h1 := atoi_dec u hu
  have h2 := atoi_dec v hv
  rw [h, h2] at h1
  injection h1 with h1
  omega

theorem itoa_nat (v : Int) (h : 0 ≤ v) : itoa v = decDigits v.toNat := by
  unfold itoa; rw [if_neg (by omega)]

theorem dec_len_le (u k : Nat) (hk : 1 ≤ k) (h : u < 10 ^ k) : (decDigits u).length ≤ k := by
  rw [decDigits_length]
  induction k generalizing u with
  | zero => omega
  | succ k ih =>
    by_cases h9 : u < 10
    · rw [nDigits_small h9]; omega
    · rw [nDigits_big h9]
      by_cases hk0 : k = 0
      · subst hk0; simp at h; omega
      · have := ih (u / 10) (by omega) (by rw [Nat.pow_succ] at h; omega)
        omega

/-- Is a text the numeral of n, of at most d digits? -/
def NumIs (l : List UInt8) (d n : Nat) : Prop := l = decDigits n ∧ l.length ≤ d ∧ n ≤ 9223372036854775807

/-- The number of a text that is a numeral of at most d digits. -/
def numQ (l : List UInt8) (d : Nat) : Option Nat :=
  match atoiAll l with
  | .ok v => if l = decDigits v.toNat ∧ 0 ≤ v ∧ l.length ≤ d then some v.toNat else none
  | _ => none

theorem numQ_iff (l : List UInt8) (d n : Nat) : numQ l d = some n ↔ NumIs l d n := by
  constructor
  · intro h
    unfold numQ at h
    split at h
    · rename_i v hv
      obtain ⟨b0, b1⟩ := atoiAll_bounds hv
      split at h
      · rename_i hh
        injection h with h
        subst h
        exact ⟨hh.1, hh.2.2, by omega⟩
      · cases h
    · cases h
  · rintro ⟨h1, h2, h3⟩
    unfold numQ
    have ha := atoi_dec n h3
    rw [← h1] at ha
    rw [ha]
    simp [← h1, h2]

theorem numQ_none (l : List UInt8) (d : Nat) (h : numQ l d = none) (n : Nat) : ¬ NumIs l d n := by
  intro hn
  rw [(numQ_iff l d n).2 hn] at h
  cases h

theorem numQ_lt {l : List UInt8} {d n : Nat} (h : NumIs l d n) (_hd : 1 ≤ d) : n < 10 ^ d := by
  obtain ⟨h1, h2, _⟩ := h
  have h3 := lt_pow_nDigits n
  rw [← decDigits_length, ← h1] at h3
  exact Nat.lt_of_lt_of_le h3 (Nat.pow_le_pow_right (by omega) h2)
end Go.Proofs.YtpifbahafnaejaaGreatDoor
namespace Go.Proofs.YtpifbahafnaejaaGreatDoor
open Go.RowKit Go.Sort Go.Proofs

/-- A place: its zone, its row, its bay. -/
abbrev PlaceV := List UInt8 × Int × Int
def encPlace (x : PlaceV) : List Value := [.string ⟨x.1.toArray⟩, .int .i64 x.2.1, .int .i64 x.2.2]
theorem encPlace_len (x : PlaceV) : (encPlace x).length = 3 := rfl
theorem encPlace_one (x : PlaceV) : ∀ v ∈ encPlace x, v.oneCell' = true := fun v hv => by
  simp [encPlace] at hv
  rcases hv with rfl | rfl | rfl <;> rfl

/-- The number of a place's error. -/
def placeE (x : PlaceV) : Nat := if nameB x.1 = false then 5 else if x.2.1 < 1 ∨ 20 < x.2.1 ∨ x.2.2 < 1 ∨ 40 < x.2.2 then 2 else 0
theorem placeE_zero {x : PlaceV} : placeE x = 0 ↔ nameB x.1 = true ∧ 1 ≤ x.2.1 ∧ x.2.1 ≤ 20 ∧ 1 ≤ x.2.2 ∧ x.2.2 ≤ 40 := by
  unfold placeE
  cases hn : nameB x.1
  · simp
  · simp only [Bool.true_eq_false, if_false]
    split
    · simp; omega
    · simp; omega
theorem nameB_len {l : List UInt8} (h : nameB l = true) : 1 ≤ l.length ∧ l.length ≤ 8 := by
  unfold nameB at h
  simp at h
  refine ⟨?_, h.1.2⟩
  cases l with
  | nil => simp at h
  | cons x r => simp

/-- The variables that hold the two errors. -/
structure PlaceG (E : Nat → Addr) (w : World) : Prop where
  name : ErrAt 4 (E 5) w
  bound : ErrAt 3 (E 2) w
  tab : TabG w
theorem PlaceG.below {E : Nat → Addr} {w w' : World} (h : PlaceG E w) (hb : Below w.heap.size w w') : PlaceG E w' := ⟨h.name.below hb, h.bound.below hb, h.tab.below hb⟩

/-- The two errors alone. -/
structure PlaceCG (E : Nat → Addr) (w : World) : Prop where
  name : ErrAt 4 (E 5) w
  bound : ErrAt 3 (E 2) w
theorem PlaceCG.below {E : Nat → Addr} {w w' : World} (h : PlaceCG E w) (hb : Below w.heap.size w w') : PlaceCG E w' := ⟨h.name.below hb, h.bound.below hb⟩
theorem placeE_wi (x : PlaceV) : placeE x = if nameB x.1 = false then 5 else if wiB x.2.1 1 20 = false then 2 else if wiB x.2.2 1 40 = false then 2 else 0 := by
  unfold placeE wiB
  cases nameB x.1
  · rfl
  · simp only [Bool.true_eq_false, if_false, decide_eq_false_iff_not]
    split
    · split
      · rfl
      · rw [if_pos (by omega)]
    · rw [if_neg (by omega), if_neg (by omega)]

set_option maxHeartbeats 400000 in
theorem checkPlace_c (E : Nat → Addr) (x : PlaceV) (w : World) (hG : PlaceCG E w) :
    Calls Tryz.prog 52 #[.agg (encPlace x).toArray] w fun e w' => e = .returned (errOf E (placeE x)) ∧ Below w.heap.size w w' := by
  have HE := Lib.hid (placeE_wi x)
  obtain ⟨a1, a2, a3⟩ := x
  have HN := Lib.hid (fun W => name_wide a1 W)
  have H2 := Lib.hid (within_any a2 1 20)
  have H3 := Lib.hid (within_any a3 1 40)
  have g1 := hG.name
  have g2 := hG.bound
  have l1 := lt_of_cell g1
  have l2 := lt_of_cell g2
  simp only at l1 l2
  unfold ErrAt at g1 g2
  simp only [encPlace] at HE ⊢
  clear hG
  generalize nameB a1 = nm at HN HE
  generalize wiB a2 1 20 = p2 at H2 HE
  generalize wiB a3 1 40 = p3 at H3 HE
  go_enter Tryz.func52, Tryz.ntmps52
  go_wp2_with fail
  refine (HN.out _).mono ?_
  rintro e w1 ⟨rfl, b1⟩
  obtain ⟨hc, hf⟩ := bcell b1
  have B1 : Hid (Below w.heap.size w w1) := ((Below.refl _ _).alloc (Nat.le_refl _) _).trans (b1.mono (by simp))
  clear b1 HN
  cases nm with
  | false =>
    go_wp2_with fail
    go_ret
    rw [HE.out]
    exact ⟨rfl, B1.out⟩
  | true =>
    go_wp2_with fail
    refine (H2.out _).mono ?_
    rintro e w2 ⟨rfl, rfl⟩
    cases p2 with
    | false =>
      go_wp2_with fail
      go_ret
      rw [HE.out]
      exact ⟨rfl, B1.out⟩
    | true =>
      go_wp2_with fail
      refine (H3.out _).mono ?_
      rintro e w2 ⟨rfl, rfl⟩
      cases p3 with
      | false =>
        go_wp2_with fail
        go_ret
        rw [HE.out]
        exact ⟨rfl, B1.out⟩
      | true =>
        go_wp2_with fail
        go_ret
        rw [HE.out]
        exact ⟨rfl, B1.out⟩
theorem checkPlace_any (E : Nat → Addr) (x : PlaceV) (w : World) (hG : PlaceG E w) :
    Calls Tryz.prog 52 #[.agg (encPlace x).toArray] w fun e w' => e = .returned (errOf E (placeE x)) ∧ Below w.heap.size w w' := checkPlace_c E x w ⟨hG.name, hG.bound⟩
end Go.Proofs.YtpifbahafnaejaaGreatDoor
