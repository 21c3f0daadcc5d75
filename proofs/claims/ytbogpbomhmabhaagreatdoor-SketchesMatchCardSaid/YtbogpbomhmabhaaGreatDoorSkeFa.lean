/-
  Closed facts on the program.
-/
import Derived.Test.YtbogpbomhmabhaaGreatDoorRows
import Derived.Test.YtbogpbomhmabhaaGreatDoorSkeLi1
set_option maxRecDepth 100000
set_option linter.unusedSimpArgs false
set_option linter.unusedVariables false
namespace Go.Proofs.YtbogpbomhmabhaaGreatDoor
open Go Go.DB Go.RowKit

theorem mixed : Tryz.prog.follows .mixedOrders = true := by kernel_rfl
theorem mx : Tryz.prog.follows .mixedOrders = true := mixed
def trimStr_ren : Shelf.Ren where
  f := fun x => match x with | 160 => 88 | 232 => 105 | 231 => 104 | 227 => 106 | 234 => 108 | 233 => 107 | 236 => 110 | 235 => 109 | 228 => 115 | 271 => 118 | 151 => 117 | 197 => 116 | 120 => 121 | 152 => 120 | 260 => 119 | 137 => 122 | 119 => 123 | 224 => 124 | 225 => 125 | 217 => 126 | 266 => 127 | n => n
  t := fun x => match x with | 9 => 9 | 4 => 4 | 3 => 3 | 5 => 5 | 117 => 159 | 116 => 158 | 0 => 0 | 124 => 162 | 21 => 21 | 105 => 166 | 46 => 82 | 119 => 150 | 139 => 153 | 138 => 152 | n => n
  g := fun x => match x with | 3 => 0 | 4 => 1 | n => n
theorem trimStr_lay : Lays.n160 Tryz.prog trimStr_ren where
  mixed := by kernel_rfl
  f119 := Tryz.func123.trans (by kernel_rfl)
  f120 := Tryz.func121.trans (by kernel_rfl)
  f137 := Tryz.func122.trans (by kernel_rfl)
  f151 := Tryz.func117.trans (by kernel_rfl)
  f152 := Tryz.func120.trans (by kernel_rfl)
  f160 := Tryz.func88.trans (by kernel_rfl)
  f197 := Tryz.func116.trans (by kernel_rfl)
  f217 := Tryz.func126.trans (by kernel_rfl)
  f224 := Tryz.func124.trans (by kernel_rfl)
  f225 := Tryz.func125.trans (by kernel_rfl)
  f227 := Tryz.func106.trans (by kernel_rfl)
  f228 := Tryz.func115.trans (by kernel_rfl)
  f231 := Tryz.func104.trans (by kernel_rfl)
  f232 := Tryz.func105.trans (by kernel_rfl)
  f233 := Tryz.func107.trans (by kernel_rfl)
  f234 := Tryz.func108.trans (by kernel_rfl)
  f235 := Tryz.func109.trans (by kernel_rfl)
  f236 := Tryz.func110.trans (by kernel_rfl)
  f260 := Tryz.func119.trans (by kernel_rfl)
  f266 := Tryz.func127.trans (by kernel_rfl)
  f271 := Tryz.func118.trans (by kernel_rfl)
  t0 := Tryz.underlying0
  a0 := Tryz.isAgg0
  z0 := Tryz.sizeOf0
  v0 := Tryz.zeroValue0
  t3 := Tryz.underlying3
  a3 := Tryz.isAgg3
  z3 := Tryz.sizeOf3
  v3 := Tryz.zeroValue3
  t4 := Tryz.underlying4
  a4 := Tryz.isAgg4
  z4 := Tryz.sizeOf4
  v4 := Tryz.zeroValue4
  t5 := Tryz.underlying5
  a5 := Tryz.isAgg5
  z5 := Tryz.sizeOf5
  v5 := Tryz.zeroValue5
  t9 := Tryz.underlying9
  a9 := Tryz.isAgg9
  z9 := Tryz.sizeOf9
  v9 := Tryz.zeroValue9
  t21 := Tryz.underlying21
  a21 := Tryz.isAgg21
  z21 := Tryz.sizeOf21
  v21 := Tryz.zeroValue21
  t46 := Tryz.underlying82
  a46 := Tryz.isAgg82
  z46 := Tryz.sizeOf82
  v46 := Tryz.zeroValue82
  t105 := Tryz.underlying166
  a105 := Tryz.isAgg166
  z105 := Tryz.sizeOf166
  v105 := Tryz.zeroValue166
  t116 := Tryz.underlying158
  a116 := Tryz.isAgg158
  z116 := Tryz.sizeOf158
  t117 := Tryz.underlying159
  a117 := Tryz.isAgg159
  z117 := Tryz.sizeOf159
  v117 := Tryz.zeroValue159
  t119 := Tryz.underlying150
  a119 := Tryz.isAgg150
  z119 := Tryz.sizeOf150
  t124 := Tryz.underlying162
  a124 := Tryz.isAgg162
  z124 := Tryz.sizeOf162
  v124 := Tryz.zeroValue162
  t138 := Tryz.underlying152
  a138 := Tryz.isAgg152
  z138 := Tryz.sizeOf152
  v138 := Tryz.zeroValue152
  t139 := Tryz.underlying153
  a139 := Tryz.isAgg153
  z139 := Tryz.sizeOf153
  v139 := Tryz.zeroValue153
  g3 := by kernel_rfl
  g4 := by kernel_rfl

def validStr_ren : Shelf.Ren where
  f := fun x => match x with | 196 => 83 | 259 => 98 | n => n
  t := fun x => match x with | 9 => 9 | 4 => 4 | 3 => 3 | 5 => 5 | 12 => 12 | 119 => 150 | 0 => 0 | 46 => 82 | 139 => 153 | 138 => 152 | 53 => 123 | n => n
  g := fun x => match x with | 3 => 0 | 4 => 1 | n => n
theorem validStr_lay : Lays.n196 Tryz.prog validStr_ren where
  mixed := by kernel_rfl
  f196 := Tryz.func83.trans (by kernel_rfl)
  f259 := Tryz.func98.trans (by kernel_rfl)
  t0 := Tryz.underlying0
  a0 := Tryz.isAgg0
  z0 := Tryz.sizeOf0
  v0 := Tryz.zeroValue0
  t3 := Tryz.underlying3
  a3 := Tryz.isAgg3
  z3 := Tryz.sizeOf3
  v3 := Tryz.zeroValue3
  t4 := Tryz.underlying4
  a4 := Tryz.isAgg4
  z4 := Tryz.sizeOf4
  v4 := Tryz.zeroValue4
  t5 := Tryz.underlying5
  a5 := Tryz.isAgg5
  z5 := Tryz.sizeOf5
  v5 := Tryz.zeroValue5
  t9 := Tryz.underlying9
  a9 := Tryz.isAgg9
  z9 := Tryz.sizeOf9
  v9 := Tryz.zeroValue9
  t12 := Tryz.underlying12
  a12 := Tryz.isAgg12
  z12 := Tryz.sizeOf12
  v12 := Tryz.zeroValue12
  t46 := Tryz.underlying82
  a46 := Tryz.isAgg82
  z46 := Tryz.sizeOf82
  v46 := Tryz.zeroValue82
  t53 := Tryz.underlying123
  a53 := Tryz.isAgg123
  z53 := Tryz.sizeOf123
  v53 := Tryz.zeroValue123
  t119 := Tryz.underlying150
  a119 := Tryz.isAgg150
  z119 := Tryz.sizeOf150
  t138 := Tryz.underlying152
  a138 := Tryz.isAgg152
  z138 := Tryz.sizeOf152
  v138 := Tryz.zeroValue152
  t139 := Tryz.underlying153
  a139 := Tryz.isAgg153
  z139 := Tryz.sizeOf153
  v139 := Tryz.zeroValue153
  g3 := by kernel_rfl
  g4 := by kernel_rfl

def repeatStr_ren : Shelf.Ren where
  f := fun x => match x with | 105 => 14 | 212 => 32 | 99 => 33 | 165 => 34 | 166 => 18 | 170 => 35 | 169 => 19 | 263 => 68 | 264 => 69 | 206 => 70 | 240 => 40 | 241 => 71 | 276 => 81 | 277 => 93 | n => n
  t := fun x => match x with | 9 => 9 | 3 => 3 | 4 => 4 | 20 => 20 | 0 => 0 | 46 => 82 | 109 => 83 | 5 => 5 | 72 => 55 | 76 => 58 | 51 => 120 | 146 => 121 | 53 => 123 | 148 => 124 | 70 => 53 | 37 => 42 | 75 => 57 | 127 => 94 | 164 => 133 | 80 => 35 | n => n
  g := fun n => n
theorem repeatStr_lay : Lays.n105 Tryz.prog repeatStr_ren where
  mixed := by kernel_rfl
  f99 := Tryz.func33.trans (by kernel_rfl)
  f105 := Tryz.func14.trans (by kernel_rfl)
  f165 := Tryz.func34.trans (by kernel_rfl)
  f166 := Tryz.func18.trans (by kernel_rfl)
  f169 := Tryz.func19.trans (by kernel_rfl)
  f170 := Tryz.func35.trans (by kernel_rfl)
  f206 := Tryz.func70.trans (by kernel_rfl)
  f212 := Tryz.func32.trans (by kernel_rfl)
  f240 := Tryz.func40.trans (by kernel_rfl)
  f241 := Tryz.func71.trans (by kernel_rfl)
  f263 := Tryz.func68.trans (by kernel_rfl)
  f264 := Tryz.func69.trans (by kernel_rfl)
  f276 := Tryz.func81.trans (by kernel_rfl)
  f277 := Tryz.func93.trans (by kernel_rfl)
  t0 := Tryz.underlying0
  a0 := Tryz.isAgg0
  z0 := Tryz.sizeOf0
  v0 := Tryz.zeroValue0
  t3 := Tryz.underlying3
  a3 := Tryz.isAgg3
  z3 := Tryz.sizeOf3
  v3 := Tryz.zeroValue3
  t4 := Tryz.underlying4
  a4 := Tryz.isAgg4
  z4 := Tryz.sizeOf4
  v4 := Tryz.zeroValue4
  t5 := Tryz.underlying5
  a5 := Tryz.isAgg5
  z5 := Tryz.sizeOf5
  v5 := Tryz.zeroValue5
  t9 := Tryz.underlying9
  a9 := Tryz.isAgg9
  z9 := Tryz.sizeOf9
  v9 := Tryz.zeroValue9
  t20 := Tryz.underlying20
  a20 := Tryz.isAgg20
  z20 := Tryz.sizeOf20
  v20 := Tryz.zeroValue20
  t37 := Tryz.underlying42
  a37 := Tryz.isAgg42
  z37 := Tryz.sizeOf42
  v37 := Tryz.zeroValue42
  t46 := Tryz.underlying82
  a46 := Tryz.isAgg82
  z46 := Tryz.sizeOf82
  v46 := Tryz.zeroValue82
  t51 := Tryz.underlying120
  a51 := Tryz.isAgg120
  z51 := Tryz.sizeOf120
  v51 := Tryz.zeroValue120
  t53 := Tryz.underlying123
  a53 := Tryz.isAgg123
  z53 := Tryz.sizeOf123
  v53 := Tryz.zeroValue123
  t70 := Tryz.underlying53
  a70 := Tryz.isAgg53
  z70 := Tryz.sizeOf53
  v70 := Tryz.zeroValue53
  t72 := Tryz.underlying55
  a72 := Tryz.isAgg55
  z72 := Tryz.sizeOf55
  v72 := Tryz.zeroValue55
  t75 := Tryz.underlying57
  a75 := Tryz.isAgg57
  z75 := Tryz.sizeOf57
  v75 := Tryz.zeroValue57
  t76 := Tryz.underlying58
  a76 := Tryz.isAgg58
  z76 := Tryz.sizeOf58
  v76 := Tryz.zeroValue58
  t109 := Tryz.underlying83
  a109 := Tryz.isAgg83
  z109 := Tryz.sizeOf83
  v109 := Tryz.zeroValue83
  t127 := Tryz.underlying94
  a127 := Tryz.isAgg94
  z127 := Tryz.sizeOf94
  v127 := Tryz.zeroValue94
  t146 := Tryz.underlying121
  a146 := Tryz.isAgg121
  z146 := Tryz.sizeOf121
  v146 := Tryz.zeroValue121
  t148 := Tryz.underlying124
  a148 := Tryz.isAgg124
  z148 := Tryz.sizeOf124
  v148 := Tryz.zeroValue124
  t164 := Tryz.underlying133
  a164 := Tryz.isAgg133
  z164 := Tryz.sizeOf133
  v164 := Tryz.zeroValue133
theorem repeatStr_extra : Proofs.Builder.Extra Tryz.prog repeatStr_ren where
  sizeBuilder := by kernel_rfl
  liesBuilder := by kernel_rfl
  t5 := repeatStr_lay.t5
  a5 := repeatStr_lay.a5
  z5 := repeatStr_lay.z5
  v5 := repeatStr_lay.v5
  infoByte := by kernel_rfl
  cellsByte := by kernel_rfl
  sizeByte := by kernel_rfl
  neB5 := by decide

def bldStringL_ren : Shelf.Ren where
  f := fun x => match x with | 169 => 19 | n => n
  t := fun x => match x with | 70 => 53 | 9 => 9 | 0 => 0 | 72 => 55 | 37 => 42 | 127 => 94 | 3 => 3 | 5 => 5 | n => n
  g := fun n => n
theorem bldStringL_lay : Lays.n169 Tryz.prog bldStringL_ren where
  mixed := by kernel_rfl
  f169 := Tryz.func19.trans (by kernel_rfl)
  t0 := Tryz.underlying0
  a0 := Tryz.isAgg0
  z0 := Tryz.sizeOf0
  v0 := Tryz.zeroValue0
  t3 := Tryz.underlying3
  a3 := Tryz.isAgg3
  z3 := Tryz.sizeOf3
  v3 := Tryz.zeroValue3
  t9 := Tryz.underlying9
  a9 := Tryz.isAgg9
  z9 := Tryz.sizeOf9
  v9 := Tryz.zeroValue9
  t37 := Tryz.underlying42
  a37 := Tryz.isAgg42
  z37 := Tryz.sizeOf42
  v37 := Tryz.zeroValue42
  t70 := Tryz.underlying53
  a70 := Tryz.isAgg53
  z70 := Tryz.sizeOf53
  v70 := Tryz.zeroValue53
  t72 := Tryz.underlying55
  a72 := Tryz.isAgg55
  z72 := Tryz.sizeOf55
  v72 := Tryz.zeroValue55
  t127 := Tryz.underlying94
  a127 := Tryz.isAgg94
  z127 := Tryz.sizeOf94
  v127 := Tryz.zeroValue94
theorem bldStringL_extra : Proofs.Builder.Extra Tryz.prog bldStringL_ren where
  sizeBuilder := by kernel_rfl
  liesBuilder := by kernel_rfl
  t5 := repeatStr_lay.t5
  a5 := repeatStr_lay.a5
  z5 := repeatStr_lay.z5
  v5 := repeatStr_lay.v5
  infoByte := by kernel_rfl
  cellsByte := by kernel_rfl
  sizeByte := by kernel_rfl
  neB5 := by decide

set_option maxHeartbeats 1000000 in
theorem cc_fresh (m : Nat) (w : World) (h0 : w.cell? ⟨m, 0, none⟩ = some (.pointer none)) (hsh : w.shape? m = some (55, 2)) (hfz : w.frozen? ⟨m, 0, none⟩ = false) :
    Calls Tryz.prog 40 #[.pointer (some ⟨m, 0, none⟩)] w fun e w' => e = .returned (.tuple #[]) ∧ w' = w.setCell ⟨m, 0, none⟩ (.pointer (some ⟨m, 0, none⟩)) := by
  obtain ⟨j, hj, hjs⟩ := Option.map_eq_some_iff.1 (show (Tryz.prog.info? 55).map (·.size) = some 2 from by kernel_rfl)
  go_enter Tryz.func40, Tryz.ntmps40
  go_wp2
  rw [Lib.run_to_unsafe w ⟨m, 0, none⟩ Tryz.underlying53 Tryz.underlying133 hj (by rw [hjs]; decide) hsh (Nat.zero_lt_succ 1)]
  simp only [Result.andThen]
  rw [Oper.upon_value]
  go_wp2
  rw [run_callFunc_extern Tryz.func81 (by kernel_rfl) (by kernel_rfl) (by kernel_rfl) (e := Extern.AbiNoEscape.same) (by kernel_rfl)]
  rw [Lib.run_noEscape]
  simp only [Result.andThen]
  rw [Oper.upon_value]
  go_wp2
  rw [Lib.run_from_unsafe w ⟨m, 0, none⟩ Tryz.underlying133 Tryz.underlying53 hj hsh (by kernel_rfl)]
  simp only [Result.andThen]
  rw [Oper.upon_value]
  go_wp2
  go_end0
  exact ⟨rfl, rfl⟩
set_option maxHeartbeats 1000000 in
theorem cc_used (m : Nat) (w : World) (h0 : w.cell? ⟨m, 0, none⟩ = some (.pointer (some ⟨m, 0, none⟩))) :
    Calls Tryz.prog 40 #[.pointer (some ⟨m, 0, none⟩)] w fun e w' => e = .returned (.tuple #[]) ∧ w' = w := by
  obtain ⟨j, hj, _⟩ := Option.map_eq_some_iff.1 (show (Tryz.prog.info? 55).map (·.size) = some 2 from by kernel_rfl)
  go_enter Tryz.func40, Tryz.ntmps40
  go_wp2
  rw [Lib.run_neq_ptr_same w _ Tryz.underlying53 hj]
  go_wp2
  go_end0
  exact ⟨rfl, rfl⟩
theorem cc_at : ChecksCopy Tryz.prog 40 55 := by
  intro m p u w hp h3
  rcases hp with rfl | rfl
  · refine Calls.mono (cc_fresh m w (by rw [Go.DB.cell_of_heap h3]; rfl) (by simp [World.shape?, h3]) (by simp [World.frozen?, h3])) ?_
    rintro e w' ⟨rfl, rfl⟩
    refine ⟨rfl, by simp [World.setCell, Array.getElem?_modify, h3], rfl, rfl, rfl, by simp [World.setCell], fun k hk => ?_⟩
    simp only [World.setCell, Array.getElem?_modify]
    rw [if_neg (Ne.symm hk)]
  · refine Calls.mono (cc_used m w (by rw [Go.DB.cell_of_heap h3]; rfl)) ?_
    rintro e w' ⟨rfl, rfl⟩
    exact ⟨rfl, h3, rfl, rfl, rfl, rfl, fun _ _ => rfl⟩
set_option maxHeartbeats 1000000 in
theorem ws_at : WritesStr Tryz.prog 18 55 5 := by
  intro m p u c s w hp h3 h4 h5 hl
  obtain ⟨i0, hi, hz0, hz1, hz2⟩ := info_parts (show (Tryz.prog.info? 5).map (fun i => (i.zero, i.size, i.bytes)) = some (some (.int .u8 0), 1, 1) from by kernel_rfl)
  have hm := (Array.getElem?_eq_some_iff.1 h3).1
  have hss : (ByteArray.mk s.toArray).size = s.length := rfl
  go_enter Tryz.func18, Tryz.ntmps18
  go_wp2_with (go_at_call 40; refine Calls.mono (cc_at m p u _ hp h3) ?_)
  rintro e w1 ⟨rfl, g1, g2, g3, g4, g5, g6⟩
  have c0 : w1.cell? ⟨m, 0, none⟩ = some (.pointer (some ⟨m, 0, none⟩)) := by rw [Go.DB.cell_of_heap g1]; rfl
  have c1 : w1.cell? ⟨m, 1, none⟩ = some u := by rw [Go.DB.cell_of_heap g1]; rfl
  have hown1 := own_turn (T := 55) h4 h5 g6
  go_wp2_with (at_builtin; refine wp_append_str rfl _ _ 42 9 rfl 5 i0 Tryz.underlying42 Tryz.underlying9 hi hz0 hz1 hz2 _ _ _ rfl hown1 ⟨s.toArray⟩ rfl ?c3 ?_)
  case c3 => rw [hss]; exact hl
  intro v' w2 hown2 hgrow hwhere
  have hm2 : w2.heap[m]? = some (.cells #[.pointer (some ⟨m, 0, none⟩), u] 55 (0, 0)) := by
    rw [hgrow.block m (by omega) (fun e => h5 e.symm)]; exact g1
  have d0 : w2.cell? ⟨m, 0, none⟩ = some (.pointer (some ⟨m, 0, none⟩)) := by rw [Go.DB.cell_of_heap hm2]; rfl
  have d1 : w2.cell? ⟨m, 1, none⟩ = some u := by rw [Go.DB.cell_of_heap hm2]; rfl
  have f1 : w2.frozen? ⟨m, 1, none⟩ = false := by simp [World.frozen?, hm2]
  obtain ⟨ao, n', cap, rfl⟩ := own_shape hown2
  go_wp2
  go_ret2
  exact ws_end (by decide) h3 h5 g2 g3 g4 g5 g6 hm2 hown2 hgrow (fun k hk => (hwhere k hk).imp id (fun h => by omega))

def growNil47_ren : Shelf.Ren where
  f := fun x => match x with | 4 => 94 | n => n
  t := fun x => match x with | 22 => 77 | 25 => 47 | 3 => 3 | 4 => 4 | 9 => 9 | 20 => 20 | 0 => 0 | 2 => 3 | n => n
  g := fun n => n
theorem growNil47_lay : Lays8.n4 Tryz.prog growNil47_ren where
  mixed := by kernel_rfl
  f4 := ⟨ "slices.Grow[[]drawboard/api.Point,drawboard/api.Point]", of_decide_eq_true (by kernel_rfl), Tryz.func94.trans (by kernel_rfl)⟩
  t0 := Tryz.underlying0
  a0 := Tryz.isAgg0
  z0 := Tryz.sizeOf0
  v0 := Tryz.zeroValue0
  t3 := Tryz.underlying3
  a3 := Tryz.isAgg3
  z3 := Tryz.sizeOf3
  v3 := Tryz.zeroValue3
  t4 := Tryz.underlying4
  a4 := Tryz.isAgg4
  z4 := Tryz.sizeOf4
  v4 := Tryz.zeroValue4
  t9 := Tryz.underlying9
  a9 := Tryz.isAgg9
  z9 := Tryz.sizeOf9
  v9 := Tryz.zeroValue9
  t20 := Tryz.underlying20
  a20 := Tryz.isAgg20
  z20 := Tryz.sizeOf20
  v20 := Tryz.zeroValue20
  t22 := Tryz.underlying77
  a22 := Tryz.isAgg77
  z22 := Tryz.sizeOf77
  v22 := Tryz.zeroValue77

theorem fnok88 : FnOK Tryz.prog 88 := ⟨_, Tryz.func88, by kernel_rfl, by kernel_rfl⟩
theorem fnok83 : FnOK Tryz.prog 83 := ⟨_, Tryz.func83, by kernel_rfl, by kernel_rfl⟩
theorem fnok14 : FnOK Tryz.prog 14 := ⟨_, Tryz.func14, by kernel_rfl, by kernel_rfl⟩
theorem fnok19 : FnOK Tryz.prog 19 := ⟨_, Tryz.func19, by kernel_rfl, by kernel_rfl⟩
theorem fnok18 : FnOK Tryz.prog 18 := ⟨_, Tryz.func18, by kernel_rfl, by kernel_rfl⟩
theorem sl77 : SliceOf Tryz.prog 77 47 := Tryz.underlying77
theorem ty47 : Ty Tryz.prog 47 Point := ⟨⟨_, Tryz.underlying47, rfl⟩, by kernel_rfl⟩
theorem rk77 : RowOK Tryz.prog 77 47 Point := ⟨sl77, ty47, by kernel_rfl⟩
theorem fnok94 : FnOK Tryz.prog 94 := ⟨_, Tryz.func94, by kernel_rfl, by kernel_rfl⟩
theorem fnok3 : FnOK Tryz.prog 3 := ⟨_, Tryz.func3, by kernel_rfl, by kernel_rfl⟩
theorem ty25 : Ty Tryz.prog 25 Doc := ⟨⟨_, Tryz.underlying25, rfl⟩, by kernel_rfl⟩
theorem fnok4 : FnOK Tryz.prog 4 := ⟨_, Tryz.func4, by kernel_rfl, by kernel_rfl⟩
theorem fnok13 : FnOK Tryz.prog 13 := ⟨_, Tryz.func13, by kernel_rfl, by kernel_rfl⟩
theorem fd25_0 : FieldAt Tryz.prog 25 0 0 := ⟨_, _, Tryz.underlying25, rfl, rfl, by kernel_rfl⟩
theorem hfd25_0 : HasField Doc (List DNode) 0 Doc.Nodes := ⟨by decide, fun M x cs w h => (HasField.fst HasField.self).2 M _ cs w h⟩
theorem ty22 : Ty Tryz.prog 22 (List DNode) := ⟨⟨_, Tryz.underlying22, rfl⟩, by kernel_rfl⟩
theorem sl22 : SliceOf Tryz.prog 22 40 := Tryz.underlying22
theorem fd25_1 : FieldAt Tryz.prog 25 1 1 := ⟨_, _, Tryz.underlying25, rfl, rfl, by kernel_rfl⟩
theorem hfd25_1 : HasField Doc (List DEdge) 1 Doc.Edges := ⟨by decide, fun M x cs w h => (HasField.snd HasField.self).2 M _ cs w h⟩
theorem ty23 : Ty Tryz.prog 23 (List DEdge) := ⟨⟨_, Tryz.underlying23, rfl⟩, by kernel_rfl⟩
theorem sl23 : SliceOf Tryz.prog 23 79 := Tryz.underlying23
theorem ty40 : Ty Tryz.prog 40 DNode := ⟨⟨_, Tryz.underlying40, rfl⟩, by kernel_rfl⟩
theorem zo40 : ZeroOf Tryz.prog 40 (⟨Str.nil, (0 : Int), (⟨(0 : Int), (0 : Int), (0 : Int), (0 : Int)⟩ : Box), Str.nil, Str.nil, Str.nil, false⟩ : DNode) := ⟨[.string ByteArray.empty, .int .i64 0, .int .i64 0, .int .i64 0, .int .i64 0, .int .i64 0, .string ByteArray.empty, .string ByteArray.empty, .string ByteArray.empty, .bool false], by kernel_rfl, fun _ _ => ⟨[_], _, rfl, str_zero, ⟨[_], _, rfl, ⟨rfl, by decide⟩, ⟨[_, _, _, _], _, rfl, ⟨[_], _, rfl, ⟨rfl, by decide⟩, ⟨[_], _, rfl, ⟨rfl, by decide⟩, ⟨[_], _, rfl, ⟨rfl, by decide⟩, ⟨rfl, by decide⟩⟩⟩⟩, ⟨[_], _, rfl, str_zero, ⟨[_], _, rfl, str_zero, ⟨[_], _, rfl, str_zero, rfl⟩⟩⟩⟩⟩⟩⟩
theorem fd40_0 : FieldAt Tryz.prog 40 0 0 := ⟨_, _, Tryz.underlying40, rfl, rfl, by kernel_rfl⟩
theorem hfd40_0 : HasField DNode Str 0 DNode.Id := ⟨by decide, fun M x cs w h => (HasField.fst HasField.self).2 M _ cs w h⟩
theorem ty9 : Ty Tryz.prog 9 Str := ⟨⟨_, Tryz.underlying9, rfl⟩, by kernel_rfl⟩
theorem zo4 : ZeroOf Tryz.prog 4 false := ⟨[.bool false], by kernel_rfl, fun _ _ => rfl⟩
theorem mo70 : MapOf Tryz.prog 70 9 4 (MKey.desc Str) := ⟨Tryz.underlying70, Tryz.underlying9⟩
theorem fnok27 : FnOK Tryz.prog 27 := ⟨_, Tryz.func27, by kernel_rfl, by kernel_rfl⟩
theorem fnok60 : FnOK Tryz.prog 60 := ⟨_, Tryz.func60, by kernel_rfl, by kernel_rfl⟩
theorem fd40_1 : FieldAt Tryz.prog 40 1 1 := ⟨_, _, Tryz.underlying40, rfl, rfl, by kernel_rfl⟩
theorem hfd40_1 : HasField DNode Int 1 DNode.Kind := ⟨by decide, fun M x cs w h => (HasField.snd (HasField.fst HasField.self)).2 M _ cs w h⟩
theorem ty3 : Ty Tryz.prog 3 Int := ⟨⟨_, Tryz.underlying3, rfl⟩, by kernel_rfl⟩
theorem fd40_2 : FieldAt Tryz.prog 40 2 2 := ⟨_, _, Tryz.underlying40, rfl, rfl, by kernel_rfl⟩
theorem hfd40_2 : HasField DNode Box 2 DNode.Box := ⟨by decide, fun M x cs w h => (HasField.snd (HasField.snd (HasField.fst HasField.self))).2 M _ cs w h⟩
theorem ty38 : Ty Tryz.prog 38 Box := ⟨⟨_, Tryz.underlying38, rfl⟩, by kernel_rfl⟩
theorem bu38 : BuildAt Tryz.prog 38 [.int .i64 0, .int .i64 0, .int .i64 0, .int .i64 0] [(0, 1), (1, 1), (2, 1), (3, 1)] := ⟨by kernel_rfl, _, Tryz.underlying38, by kernel_rfl⟩
theorem zc38 : ∀ (M : MSet) (w : World), Rep.cells M (⟨(0 : Int), (0 : Int), (0 : Int), (0 : Int)⟩ : Box) [.int .i64 0, .int .i64 0, .int .i64 0, .int .i64 0] w := fun _ _ => ⟨[_], _, rfl, ⟨rfl, by decide⟩, ⟨[_], _, rfl, ⟨rfl, by decide⟩, ⟨[_], _, rfl, ⟨rfl, by decide⟩, ⟨rfl, by decide⟩⟩⟩⟩
theorem eq38 : DB.EqAt Tryz.prog 38 Box := eqAt_ints (n := 4) (fun p => [p.X, p.Y, p.W_, p.H]) (fun a b => by cases a; cases b; simp) (fun _ => rfl) (fun M v w a h => by obtain ⟨cs, h, rfl⟩ := h; obtain ⟨_, _, rfl, ⟨rfl, _⟩, ⟨_, _, rfl, ⟨rfl, _⟩, ⟨_, _, rfl, ⟨rfl, _⟩, ⟨rfl, _⟩⟩⟩⟩ := h; rfl) ⟨by kernel_rfl, by kernel_rfl, by kernel_rfl, by kernel_rfl⟩
theorem fnok61 : FnOK Tryz.prog 61 := ⟨_, Tryz.func61, by kernel_rfl, by kernel_rfl⟩
theorem fd38_0 : FieldAt Tryz.prog 38 0 0 := ⟨_, _, Tryz.underlying38, rfl, rfl, by kernel_rfl⟩
theorem hfd38_0 : HasField Box Int 0 Box.X := ⟨by decide, fun M x cs w h => (HasField.fst HasField.self).2 M _ cs w h⟩
theorem fnok89 : FnOK Tryz.prog 89 := ⟨_, Tryz.func89, by kernel_rfl, by kernel_rfl⟩
theorem fd38_1 : FieldAt Tryz.prog 38 1 1 := ⟨_, _, Tryz.underlying38, rfl, rfl, by kernel_rfl⟩
theorem hfd38_1 : HasField Box Int 1 Box.Y := ⟨by decide, fun M x cs w h => (HasField.snd (HasField.fst HasField.self)).2 M _ cs w h⟩
theorem fd38_2 : FieldAt Tryz.prog 38 2 2 := ⟨_, _, Tryz.underlying38, rfl, rfl, by kernel_rfl⟩
theorem hfd38_2 : HasField Box Int 2 Box.W_ := ⟨by decide, fun M x cs w h => (HasField.snd (HasField.snd (HasField.fst HasField.self))).2 M _ cs w h⟩
theorem fd38_3 : FieldAt Tryz.prog 38 3 3 := ⟨_, _, Tryz.underlying38, rfl, rfl, by kernel_rfl⟩
theorem hfd38_3 : HasField Box Int 3 Box.H := ⟨by decide, fun M x cs w h => (HasField.snd (HasField.snd (HasField.snd HasField.self))).2 M _ cs w h⟩
theorem fd40_3 : FieldAt Tryz.prog 40 3 6 := ⟨_, _, Tryz.underlying40, rfl, rfl, by kernel_rfl⟩
theorem hfd40_3 : HasField DNode Str 6 DNode.Text := ⟨by decide, fun M x cs w h => (HasField.snd (HasField.snd (HasField.snd (HasField.fst HasField.self)))).2 M _ cs w h⟩
theorem fnok62 : FnOK Tryz.prog 62 := ⟨_, Tryz.func62, by kernel_rfl, by kernel_rfl⟩
theorem fd40_4 : FieldAt Tryz.prog 40 4 7 := ⟨_, _, Tryz.underlying40, rfl, rfl, by kernel_rfl⟩
theorem hfd40_4 : HasField DNode Str 7 DNode.Class := ⟨by decide, fun M x cs w h => (HasField.snd (HasField.snd (HasField.snd (HasField.snd (HasField.fst HasField.self))))).2 M _ cs w h⟩
theorem fnok28 : FnOK Tryz.prog 28 := ⟨_, Tryz.func28, by kernel_rfl, by kernel_rfl⟩
theorem zvc_Page_view_o12 : ∀ (M : MSet) (w : World), Rep.cells M (⟨(⟨([] : (List DNode)), ([] : (List DEdge))⟩ : Doc), ⟨.map none⟩, ⟨.map none⟩⟩ : Page_view_o12) [.slice none 0 0, .slice none 0 0, .map none, .map none] w := fun _ _ => ⟨[_, _], _, rfl, ⟨[_], _, rfl, ⟨none, 0, rfl, Nat.le_refl _, by decide, rfl⟩, ⟨none, 0, rfl, Nat.le_refl _, by decide, rfl⟩⟩, ⟨[_], _, rfl, ⟨rfl, rfl, rfl⟩, ⟨rfl, rfl, rfl⟩⟩⟩
theorem hv_Page_view_o12_2 : HasField Page_view_o12 Raw 3 Page_view_o12.members := ⟨by decide, fun M x cs w h => (HasField.snd (HasField.snd HasField.self)).2 M _ cs w h⟩
theorem sv_Page_view_o12_2 : SetField Page_view_o12 Raw 3 (fun x z => { x with members := z }) := ⟨by decide, fun M x z cs zs w h hz => (SetField.snd (SetField.snd SetField.self)).2 M _ z cs zs w h hz⟩
theorem hv_Page_view_o12_1 : HasField Page_view_o12 Raw 2 Page_view_o12.number := ⟨by decide, fun M x cs w h => (HasField.snd (HasField.fst HasField.self)).2 M _ cs w h⟩
theorem sv_Page_view_o12_1 : SetField Page_view_o12 Raw 2 (fun x z => { x with number := z }) := ⟨by decide, fun M x z cs zs w h hz => (SetField.snd (SetField.fst SetField.self)).2 M _ z cs zs w h hz⟩
theorem sv_Page_view_o12_0 : SetField Page_view_o12 Doc 0 (fun x z => { x with d := z }) := ⟨by decide, fun M x z cs zs w h hz => (SetField.fst SetField.self).2 M _ z cs zs w h hz⟩
theorem bu116 : BuildAt Tryz.prog 116 [.slice none 0 0, .slice none 0 0, .map none, .map none] [(0, 2), (2, 1), (3, 1)] := ⟨by kernel_rfl, _, Tryz.underlying116, by kernel_rfl⟩
theorem fd116_1 : FieldAt Tryz.prog 116 1 2 := ⟨_, _, Tryz.underlying116, rfl, rfl, by kernel_rfl⟩
theorem hfd116_1 : HasField Page_view (GMap Str Int) 2 Page_view.number := ⟨by decide, fun M x cs w h => (HasField.snd (HasField.fst HasField.self)).2 M _ cs w h⟩
theorem tr113 : Ty Tryz.prog 113 Raw := ⟨⟨_, Tryz.underlying113, rfl⟩, by kernel_rfl⟩
theorem mo113 : MapOf Tryz.prog 113 9 3 (MKey.desc Str) := ⟨Tryz.underlying113, Tryz.underlying9⟩
theorem fd40_5 : FieldAt Tryz.prog 40 5 8 := ⟨_, _, Tryz.underlying40, rfl, rfl, by kernel_rfl⟩
theorem hfd40_5 : HasField DNode Str 8 DNode.Parent := ⟨by decide, fun M x cs w h => (HasField.snd (HasField.snd (HasField.snd (HasField.snd (HasField.snd (HasField.fst HasField.self)))))).2 M _ cs w h⟩
theorem fd116_2 : FieldAt Tryz.prog 116 2 3 := ⟨_, _, Tryz.underlying116, rfl, rfl, by kernel_rfl⟩
theorem hfd116_2 : HasField Page_view (GMap Str (List Int)) 3 Page_view.members := ⟨by decide, fun M x cs w h => (HasField.snd (HasField.snd HasField.self)).2 M _ cs w h⟩
theorem tr114 : Ty Tryz.prog 114 Raw := ⟨⟨_, Tryz.underlying114, rfl⟩, by kernel_rfl⟩
theorem zo90 : ZeroOf Tryz.prog 90 ([] : (List Int)) := ⟨[.slice none 0 0], by kernel_rfl, fun _ _ => ⟨none, 0, rfl, Nat.le_refl _, by decide, rfl⟩⟩
theorem mo114 : MapOf Tryz.prog 114 9 90 (MKey.desc Str) := ⟨Tryz.underlying114, Tryz.underlying9⟩
theorem zraw90 : ZeroOf Tryz.prog 90 (⟨.slice none 0 0⟩ : Raw) := ⟨[.slice none 0 0], by kernel_rfl, fun _ _ => ⟨rfl, rfl, rfl⟩⟩
theorem sl90 : SliceOf Tryz.prog 90 3 := Tryz.underlying90
theorem hz3 : HasZero Tryz.prog 3 := by unfold HasZero; kernel_rfl
theorem rk90 : RowOK Tryz.prog 90 3 Int := ⟨sl90, ty3, by kernel_rfl⟩
theorem fnok29 : FnOK Tryz.prog 29 := ⟨_, Tryz.func29, by kernel_rfl, by kernel_rfl⟩
theorem fd116_0 : FieldAt Tryz.prog 116 0 0 := ⟨_, _, Tryz.underlying116, rfl, rfl, by kernel_rfl⟩
theorem hfd116_0 : HasField Page_view Doc 0 Page_view.d := ⟨by decide, fun M x cs w h => (HasField.fst HasField.self).2 M _ cs w h⟩
theorem ty113 : Ty Tryz.prog 113 (GMap Str Int) := ⟨⟨_, Tryz.underlying113, rfl⟩, by kernel_rfl⟩
theorem zo3 : ZeroOf Tryz.prog 3 (0 : Int) := ⟨[.int .i64 0], by kernel_rfl, fun _ _ => ⟨rfl, by decide⟩⟩
theorem fnok63 : FnOK Tryz.prog 63 := ⟨_, Tryz.func63, by kernel_rfl, by kernel_rfl⟩
theorem fnok90 : FnOK Tryz.prog 90 := ⟨_, Tryz.func90, by kernel_rfl, by kernel_rfl⟩
theorem ty114 : Ty Tryz.prog 114 (GMap Str (List Int)) := ⟨⟨_, Tryz.underlying114, rfl⟩, by kernel_rfl⟩
theorem ty79 : Ty Tryz.prog 79 DEdge := ⟨⟨_, Tryz.underlying79, rfl⟩, by kernel_rfl⟩
theorem zo79 : ZeroOf Tryz.prog 79 (⟨Str.nil, (⟨Str.nil, (0 : Int), (0 : Int)⟩ : DEnd), (⟨Str.nil, (0 : Int), (0 : Int)⟩ : DEnd), ([] : (List Point)), Str.nil, Str.nil⟩ : DEdge) := ⟨[.string ByteArray.empty, .string ByteArray.empty, .int .i64 0, .int .i64 0, .string ByteArray.empty, .int .i64 0, .int .i64 0, .slice none 0 0, .string ByteArray.empty, .string ByteArray.empty], by kernel_rfl, fun _ _ => ⟨[_], _, rfl, str_zero, ⟨[_, _, _], _, rfl, ⟨[_], _, rfl, str_zero, ⟨[_], _, rfl, ⟨rfl, by decide⟩, ⟨rfl, by decide⟩⟩⟩, ⟨[_, _, _], _, rfl, ⟨[_], _, rfl, str_zero, ⟨[_], _, rfl, ⟨rfl, by decide⟩, ⟨rfl, by decide⟩⟩⟩, ⟨[_], _, rfl, ⟨none, 0, rfl, Nat.le_refl _, by decide, rfl⟩, ⟨[_], _, rfl, str_zero, str_zero⟩⟩⟩⟩⟩⟩
theorem fd79_0 : FieldAt Tryz.prog 79 0 0 := ⟨_, _, Tryz.underlying79, rfl, rfl, by kernel_rfl⟩
theorem hfd79_0 : HasField DEdge Str 0 DEdge.Id := ⟨by decide, fun M x cs w h => (HasField.fst HasField.self).2 M _ cs w h⟩
theorem fnok30 : FnOK Tryz.prog 30 := ⟨_, Tryz.func30, by kernel_rfl, by kernel_rfl⟩
theorem fd79_1 : FieldAt Tryz.prog 79 1 1 := ⟨_, _, Tryz.underlying79, rfl, rfl, by kernel_rfl⟩
theorem hfd79_1 : HasField DEdge DEnd 1 DEdge.From := ⟨by decide, fun M x cs w h => (HasField.snd (HasField.fst HasField.self)).2 M _ cs w h⟩
theorem ty76 : Ty Tryz.prog 76 DEnd := ⟨⟨_, Tryz.underlying76, rfl⟩, by kernel_rfl⟩
theorem fd79_2 : FieldAt Tryz.prog 79 2 4 := ⟨_, _, Tryz.underlying79, rfl, rfl, by kernel_rfl⟩
theorem hfd79_2 : HasField DEdge DEnd 4 DEdge.To := ⟨by decide, fun M x cs w h => (HasField.snd (HasField.snd (HasField.fst HasField.self))).2 M _ cs w h⟩
theorem sl106 : SliceOf Tryz.prog 106 76 := Tryz.underlying106
theorem hz76 : HasZero Tryz.prog 76 := by unfold HasZero; kernel_rfl
theorem zo76 : ZeroOf Tryz.prog 76 (⟨Str.nil, (0 : Int), (0 : Int)⟩ : DEnd) := ⟨[.string ByteArray.empty, .int .i64 0, .int .i64 0], by kernel_rfl, fun _ _ => ⟨[_], _, rfl, str_zero, ⟨[_], _, rfl, ⟨rfl, by decide⟩, ⟨rfl, by decide⟩⟩⟩⟩
theorem fnok64 : FnOK Tryz.prog 64 := ⟨_, Tryz.func64, by kernel_rfl, by kernel_rfl⟩
theorem fd76_0 : FieldAt Tryz.prog 76 0 0 := ⟨_, _, Tryz.underlying76, rfl, rfl, by kernel_rfl⟩
theorem hfd76_0 : HasField DEnd Str 0 DEnd.Node := ⟨by decide, fun M x cs w h => (HasField.fst HasField.self).2 M _ cs w h⟩
theorem fd76_1 : FieldAt Tryz.prog 76 1 1 := ⟨_, _, Tryz.underlying76, rfl, rfl, by kernel_rfl⟩
theorem hfd76_1 : HasField DEnd Int 1 DEnd.Side := ⟨by decide, fun M x cs w h => (HasField.snd (HasField.fst HasField.self)).2 M _ cs w h⟩
theorem fd76_2 : FieldAt Tryz.prog 76 2 2 := ⟨_, _, Tryz.underlying76, rfl, rfl, by kernel_rfl⟩
theorem hfd76_2 : HasField DEnd Int 2 DEnd.At := ⟨by decide, fun M x cs w h => (HasField.snd (HasField.snd HasField.self)).2 M _ cs w h⟩
theorem fd79_3 : FieldAt Tryz.prog 79 3 7 := ⟨_, _, Tryz.underlying79, rfl, rfl, by kernel_rfl⟩
theorem hfd79_3 : HasField DEdge (List Point) 7 DEdge.Bends := ⟨by decide, fun M x cs w h => (HasField.snd (HasField.snd (HasField.snd (HasField.fst HasField.self)))).2 M _ cs w h⟩
theorem ty77 : Ty Tryz.prog 77 (List Point) := ⟨⟨_, Tryz.underlying77, rfl⟩, by kernel_rfl⟩
theorem fnok65 : FnOK Tryz.prog 65 := ⟨_, Tryz.func65, by kernel_rfl, by kernel_rfl⟩
theorem fnok91 : FnOK Tryz.prog 91 := ⟨_, Tryz.func91, by kernel_rfl, by kernel_rfl⟩
theorem zo47 : ZeroOf Tryz.prog 47 (⟨(0 : Int), (0 : Int)⟩ : Point) := ⟨[.int .i64 0, .int .i64 0], by kernel_rfl, fun _ _ => ⟨[_], _, rfl, ⟨rfl, by decide⟩, ⟨rfl, by decide⟩⟩⟩
theorem fnok79 : FnOK Tryz.prog 79 := ⟨_, Tryz.func79, by kernel_rfl, by kernel_rfl⟩
theorem fd47_0 : FieldAt Tryz.prog 47 0 0 := ⟨_, _, Tryz.underlying47, rfl, rfl, by kernel_rfl⟩
theorem hfd47_0 : HasField Point Int 0 Point.X := ⟨by decide, fun M x cs w h => (HasField.fst HasField.self).2 M _ cs w h⟩
theorem fd47_1 : FieldAt Tryz.prog 47 1 1 := ⟨_, _, Tryz.underlying47, rfl, rfl, by kernel_rfl⟩
theorem hfd47_1 : HasField Point Int 1 Point.Y := ⟨by decide, fun M x cs w h => (HasField.snd HasField.self).2 M _ cs w h⟩
theorem fd79_4 : FieldAt Tryz.prog 79 4 8 := ⟨_, _, Tryz.underlying79, rfl, rfl, by kernel_rfl⟩
theorem hfd79_4 : HasField DEdge Str 8 DEdge.Text := ⟨by decide, fun M x cs w h => (HasField.snd (HasField.snd (HasField.snd (HasField.snd (HasField.fst HasField.self))))).2 M _ cs w h⟩
theorem fd79_5 : FieldAt Tryz.prog 79 5 9 := ⟨_, _, Tryz.underlying79, rfl, rfl, by kernel_rfl⟩
theorem hfd79_5 : HasField DEdge Str 9 DEdge.Class := ⟨by decide, fun M x cs w h => (HasField.snd (HasField.snd (HasField.snd (HasField.snd (HasField.snd HasField.self))))).2 M _ cs w h⟩
theorem fnok31 : FnOK Tryz.prog 31 := ⟨_, Tryz.func31, by kernel_rfl, by kernel_rfl⟩
theorem zo38 : ZeroOf Tryz.prog 38 (⟨(0 : Int), (0 : Int), (0 : Int), (0 : Int)⟩ : Box) := ⟨[.int .i64 0, .int .i64 0, .int .i64 0, .int .i64 0], by kernel_rfl, fun _ _ => ⟨[_], _, rfl, ⟨rfl, by decide⟩, ⟨[_], _, rfl, ⟨rfl, by decide⟩, ⟨[_], _, rfl, ⟨rfl, by decide⟩, ⟨rfl, by decide⟩⟩⟩⟩⟩
theorem sl64 : SliceOf Tryz.prog 64 38 := Tryz.underlying64
theorem hz38 : HasZero Tryz.prog 38 := by unfold HasZero; kernel_rfl
theorem rk64 : RowOK Tryz.prog 64 38 Box := ⟨sl64, ty38, by kernel_rfl⟩
theorem fnok66 : FnOK Tryz.prog 66 := ⟨_, Tryz.func66, by kernel_rfl, by kernel_rfl⟩
theorem fnok92 : FnOK Tryz.prog 92 := ⟨_, Tryz.func92, by kernel_rfl, by kernel_rfl⟩
theorem sf38_3 : SetField Box Int 3 (fun x z => { x with H := z }) := ⟨by decide, fun M x z cs zs w h hz => (SetField.snd (SetField.snd (SetField.snd SetField.self))).2 M _ z cs zs w h hz⟩
theorem sf38_2 : SetField Box Int 2 (fun x z => { x with W_ := z }) := ⟨by decide, fun M x z cs zs w h hz => (SetField.snd (SetField.snd (SetField.fst SetField.self))).2 M _ z cs zs w h hz⟩
theorem sf38_1 : SetField Box Int 1 (fun x z => { x with Y := z }) := ⟨by decide, fun M x z cs zs w h hz => (SetField.snd (SetField.fst SetField.self)).2 M _ z cs zs w h hz⟩
theorem sf38_0 : SetField Box Int 0 (fun x z => { x with X := z }) := ⟨by decide, fun M x z cs zs w h hz => (SetField.fst SetField.self).2 M _ z cs zs w h hz⟩
theorem fnok67 : FnOK Tryz.prog 67 := ⟨_, Tryz.func67, by kernel_rfl, by kernel_rfl⟩
theorem sl41 : SliceOf Tryz.prog 41 42 := Tryz.underlying41
theorem tr42 : Ty Tryz.prog 42 Raw := ⟨⟨_, Tryz.underlying42, rfl⟩, by kernel_rfl⟩
theorem rkraw41 : RowOK Tryz.prog 41 42 Raw := ⟨sl41, tr42, by kernel_rfl⟩
theorem zraw42 : ZeroOf Tryz.prog 42 (⟨.slice none 0 0⟩ : Raw) := ⟨[.slice none 0 0], by kernel_rfl, fun _ _ => ⟨rfl, rfl, rfl⟩⟩
theorem ty42 : Ty Tryz.prog 42 (List (KI .u8)) := ⟨⟨_, Tryz.underlying42, rfl⟩, by kernel_rfl⟩
theorem fnok15 : FnOK Tryz.prog 15 := ⟨_, Tryz.func15, by kernel_rfl, by kernel_rfl⟩
theorem fnok36 : FnOK Tryz.prog 36 := ⟨_, Tryz.func36, by kernel_rfl, by kernel_rfl⟩
theorem fnok72 : FnOK Tryz.prog 72 := ⟨_, Tryz.func72, by kernel_rfl, by kernel_rfl⟩
theorem fnok74 : FnOK Tryz.prog 74 := ⟨_, Tryz.func74, by kernel_rfl, by kernel_rfl⟩
theorem fnok73 : FnOK Tryz.prog 73 := ⟨_, Tryz.func73, by kernel_rfl, by kernel_rfl⟩
theorem fnok76 : FnOK Tryz.prog 76 := ⟨_, Tryz.func76, by kernel_rfl, by kernel_rfl⟩
theorem fnok95 : FnOK Tryz.prog 95 := ⟨_, Tryz.func95, by kernel_rfl, by kernel_rfl⟩
theorem fnok78 : FnOK Tryz.prog 78 := ⟨_, Tryz.func78, by kernel_rfl, by kernel_rfl⟩
theorem bu47 : BuildAt Tryz.prog 47 [.int .i64 0, .int .i64 0] [(0, 1), (1, 1)] := ⟨by kernel_rfl, _, Tryz.underlying47, by kernel_rfl⟩
theorem zc47 : ∀ (M : MSet) (w : World), Rep.cells M (⟨(0 : Int), (0 : Int)⟩ : Point) [.int .i64 0, .int .i64 0] w := fun _ _ => ⟨[_], _, rfl, ⟨rfl, by decide⟩, ⟨rfl, by decide⟩⟩
theorem sf47_1 : SetField Point Int 1 (fun x z => { x with Y := z }) := ⟨by decide, fun M x z cs zs w h hz => (SetField.snd SetField.self).2 M _ z cs zs w h hz⟩
theorem sf47_0 : SetField Point Int 0 (fun x z => { x with X := z }) := ⟨by decide, fun M x z cs zs w h hz => (SetField.fst SetField.self).2 M _ z cs zs w h hz⟩
theorem fnok111 : FnOK Tryz.prog 111 := ⟨_, Tryz.func111, by kernel_rfl, by kernel_rfl⟩
theorem fnok80 : FnOK Tryz.prog 80 := ⟨_, Tryz.func80, by kernel_rfl, by kernel_rfl⟩
theorem fnok96 : FnOK Tryz.prog 96 := ⟨_, Tryz.func96, by kernel_rfl, by kernel_rfl⟩
theorem fnok97 : FnOK Tryz.prog 97 := ⟨_, Tryz.func97, by kernel_rfl, by kernel_rfl⟩
theorem zr163 : ZeroOf Tryz.prog 163 (⟨.nilFunc⟩ : Raw) := ⟨[.nilFunc], by kernel_rfl, fun _ _ => ⟨rfl, rfl, rfl⟩⟩
theorem tr163 : Ty Tryz.prog 163 Raw := ⟨⟨_, Tryz.underlying163, rfl⟩, by kernel_rfl⟩
theorem fnok113 : FnOK Tryz.prog 113 := ⟨_, Tryz.func113, by kernel_rfl, by kernel_rfl⟩
theorem fnok112 : FnOK Tryz.prog 112 := ⟨_, Tryz.func112, by kernel_rfl, by kernel_rfl⟩
theorem fnok114 : FnOK Tryz.prog 114 := ⟨_, Tryz.func114, by kernel_rfl, by kernel_rfl⟩
theorem hz47 : HasZero Tryz.prog 47 := by unfold HasZero; kernel_rfl
theorem sl144 : SliceOf Tryz.prog 144 77 := Tryz.underlying144
theorem hz77 : HasZero Tryz.prog 77 := by unfold HasZero; kernel_rfl
theorem fnok75 : FnOK Tryz.prog 75 := ⟨_, Tryz.func75, by kernel_rfl, by kernel_rfl⟩
theorem ao48 : ArrOf Tryz.prog 48 1 47 := Tryz.underlying48
theorem az48 : ArrZero Tryz.prog 48 ((1 + 1) * Rep.sz Point) := by unfold ArrZero; kernel_rfl
theorem sl44 : SliceOf Tryz.prog 44 48 := Tryz.underlying44
theorem ty48 : Ty Tryz.prog 48 (Arr 1 Point) := ⟨⟨_, Tryz.underlying48, rfl⟩, by kernel_rfl⟩
theorem hz48 : HasZero Tryz.prog 48 := by unfold HasZero; kernel_rfl
theorem rk44 : RowOK Tryz.prog 44 48 (Arr 1 Point) := ⟨sl44, ty48, by kernel_rfl⟩
theorem zo48 : ZeroOf Tryz.prog 48 (⟨List.replicate 2 (⟨(0 : Int), (0 : Int)⟩ : Point)⟩ : (Arr 1 Point)) := ⟨[.int .i64 0, .int .i64 0, .int .i64 0, .int .i64 0], by kernel_rfl, fun _ _ => ⟨rfl, ⟨[_, _], _, rfl, ⟨[_], _, rfl, ⟨rfl, by decide⟩, ⟨rfl, by decide⟩⟩, ⟨[_, _], _, rfl, ⟨[_], _, rfl, ⟨rfl, by decide⟩, ⟨rfl, by decide⟩⟩, rfl⟩⟩⟩⟩
theorem fnok16 : FnOK Tryz.prog 16 := ⟨_, Tryz.func16, by kernel_rfl, by kernel_rfl⟩
theorem sl42 : SliceOf Tryz.prog 42 5 := Tryz.underlying42
theorem ty5 : Ty Tryz.prog 5 (KI .u8) := ⟨⟨_, Tryz.underlying5, rfl⟩, by kernel_rfl⟩
theorem fnok17 : FnOK Tryz.prog 17 := ⟨_, Tryz.func17, by kernel_rfl, by kernel_rfl⟩
theorem fnok37 : FnOK Tryz.prog 37 := ⟨_, Tryz.func37, by kernel_rfl, by kernel_rfl⟩
theorem zr90 : ZeroOf Tryz.prog 90 (⟨.slice none 0 0⟩ : Raw) := ⟨[.slice none 0 0], by kernel_rfl, fun _ _ => ⟨rfl, rfl, rfl⟩⟩
theorem zr86 : ZeroOf Tryz.prog 86 (⟨.nilFunc⟩ : Raw) := ⟨[.nilFunc], by kernel_rfl, fun _ _ => ⟨rfl, rfl, rfl⟩⟩
theorem tr86 : Ty Tryz.prog 86 Raw := ⟨⟨_, Tryz.underlying86, rfl⟩, by kernel_rfl⟩
theorem ty72 : Ty Tryz.prog 72 (Option Page_view) := ⟨⟨_, Tryz.underlying72, rfl⟩, by kernel_rfl⟩
theorem fnok77 : FnOK Tryz.prog 77 := ⟨_, Tryz.func77, by kernel_rfl, by kernel_rfl⟩
theorem tr90 : Ty Tryz.prog 90 Raw := ⟨⟨_, Tryz.underlying90, rfl⟩, by kernel_rfl⟩
theorem ty90 : Ty Tryz.prog 90 (List Int) := ⟨⟨_, Tryz.underlying90, rfl⟩, by kernel_rfl⟩
theorem fnok38 : FnOK Tryz.prog 38 := ⟨_, Tryz.func38, by kernel_rfl, by kernel_rfl⟩
theorem fnok39 : FnOK Tryz.prog 39 := ⟨_, Tryz.func39, by kernel_rfl, by kernel_rfl⟩
theorem bu40 : BuildAt Tryz.prog 40 [.string ByteArray.empty, .int .i64 0, .int .i64 0, .int .i64 0, .int .i64 0, .int .i64 0, .string ByteArray.empty, .string ByteArray.empty, .string ByteArray.empty, .bool false] [(0, 1), (1, 1), (2, 4), (6, 1), (7, 1), (8, 1), (9, 1)] := ⟨by kernel_rfl, _, Tryz.underlying40, by kernel_rfl⟩
theorem zc40 : ∀ (M : MSet) (w : World), Rep.cells M (⟨Str.nil, (0 : Int), (⟨(0 : Int), (0 : Int), (0 : Int), (0 : Int)⟩ : Box), Str.nil, Str.nil, Str.nil, false⟩ : DNode) [.string ByteArray.empty, .int .i64 0, .int .i64 0, .int .i64 0, .int .i64 0, .int .i64 0, .string ByteArray.empty, .string ByteArray.empty, .string ByteArray.empty, .bool false] w := fun _ _ => ⟨[_], _, rfl, str_zero, ⟨[_], _, rfl, ⟨rfl, by decide⟩, ⟨[_, _, _, _], _, rfl, ⟨[_], _, rfl, ⟨rfl, by decide⟩, ⟨[_], _, rfl, ⟨rfl, by decide⟩, ⟨[_], _, rfl, ⟨rfl, by decide⟩, ⟨rfl, by decide⟩⟩⟩⟩, ⟨[_], _, rfl, str_zero, ⟨[_], _, rfl, str_zero, ⟨[_], _, rfl, str_zero, rfl⟩⟩⟩⟩⟩⟩
theorem zbld55 : ZeroOf Tryz.prog 55 ((⟨.pointer none⟩, ⟨.slice none 0 0⟩) : Raw × Raw) := ⟨_, by kernel_rfl, fun _ _ => ⟨[.pointer none], [.slice none 0 0], rfl, ⟨rfl, rfl, rfl⟩, ⟨rfl, rfl, rfl⟩⟩⟩
theorem fnok6 : FnOK Tryz.prog 6 := ⟨_, Tryz.func6, by kernel_rfl, by kernel_rfl⟩
theorem fnok20 : FnOK Tryz.prog 20 := ⟨_, Tryz.func20, by kernel_rfl, by kernel_rfl⟩
theorem fnok42 : FnOK Tryz.prog 42 := ⟨_, Tryz.func42, by kernel_rfl, by kernel_rfl⟩
theorem fnok41 : FnOK Tryz.prog 41 := ⟨_, Tryz.func41, by kernel_rfl, by kernel_rfl⟩
theorem fnok82 : FnOK Tryz.prog 82 := ⟨_, Tryz.func82, by kernel_rfl, by kernel_rfl⟩
theorem fnok43 : FnOK Tryz.prog 43 := ⟨_, Tryz.func43, by kernel_rfl, by kernel_rfl⟩
theorem fnok7 : FnOK Tryz.prog 7 := ⟨_, Tryz.func7, by kernel_rfl, by kernel_rfl⟩
theorem fnok8 : FnOK Tryz.prog 8 := ⟨_, Tryz.func8, by kernel_rfl, by kernel_rfl⟩
theorem sl60 : SliceOf Tryz.prog 60 26 := Tryz.underlying60
theorem ty26 : Ty Tryz.prog 26 Int := ⟨⟨_, Tryz.underlying26, rfl⟩, by kernel_rfl⟩
theorem hz26 : HasZero Tryz.prog 26 := by unfold HasZero; kernel_rfl
theorem fnok5 : FnOK Tryz.prog 5 := ⟨_, Tryz.func5, by kernel_rfl, by kernel_rfl⟩
theorem fnok44 : FnOK Tryz.prog 44 := ⟨_, Tryz.func44, by kernel_rfl, by kernel_rfl⟩
theorem fnok55 : FnOK Tryz.prog 55 := ⟨_, Tryz.func55, by kernel_rfl, by kernel_rfl⟩
theorem fnok45 : FnOK Tryz.prog 45 := ⟨_, Tryz.func45, by kernel_rfl, by kernel_rfl⟩
theorem fnok46 : FnOK Tryz.prog 46 := ⟨_, Tryz.func46, by kernel_rfl, by kernel_rfl⟩
theorem fnok21 : FnOK Tryz.prog 21 := ⟨_, Tryz.func21, by kernel_rfl, by kernel_rfl⟩
theorem fnok47 : FnOK Tryz.prog 47 := ⟨_, Tryz.func47, by kernel_rfl, by kernel_rfl⟩
theorem fnok84 : FnOK Tryz.prog 84 := ⟨_, Tryz.func84, by kernel_rfl, by kernel_rfl⟩
theorem fnok48 : FnOK Tryz.prog 48 := ⟨_, Tryz.func48, by kernel_rfl, by kernel_rfl⟩
theorem fnok49 : FnOK Tryz.prog 49 := ⟨_, Tryz.func49, by kernel_rfl, by kernel_rfl⟩
theorem hz40 : HasZero Tryz.prog 40 := by unfold HasZero; kernel_rfl
theorem rk22 : RowOK Tryz.prog 22 40 DNode := ⟨sl22, ty40, by kernel_rfl⟩
theorem fnok22 : FnOK Tryz.prog 22 := ⟨_, Tryz.func22, by kernel_rfl, by kernel_rfl⟩
theorem fnok51 : FnOK Tryz.prog 51 := ⟨_, Tryz.func51, by kernel_rfl, by kernel_rfl⟩
theorem fnok50 : FnOK Tryz.prog 50 := ⟨_, Tryz.func50, by kernel_rfl, by kernel_rfl⟩
theorem fnok52 : FnOK Tryz.prog 52 := ⟨_, Tryz.func52, by kernel_rfl, by kernel_rfl⟩
theorem fnok53 : FnOK Tryz.prog 53 := ⟨_, Tryz.func53, by kernel_rfl, by kernel_rfl⟩
theorem fnok23 : FnOK Tryz.prog 23 := ⟨_, Tryz.func23, by kernel_rfl, by kernel_rfl⟩
theorem fnok54 : FnOK Tryz.prog 54 := ⟨_, Tryz.func54, by kernel_rfl, by kernel_rfl⟩
theorem zo9 : ZeroOf Tryz.prog 9 Str.nil := ⟨[.string ByteArray.empty], by kernel_rfl, fun _ _ => str_zero⟩
theorem fnok9 : FnOK Tryz.prog 9 := ⟨_, Tryz.func9, by kernel_rfl, by kernel_rfl⟩
theorem fnok24 : FnOK Tryz.prog 24 := ⟨_, Tryz.func24, by kernel_rfl, by kernel_rfl⟩
theorem fnok25 : FnOK Tryz.prog 25 := ⟨_, Tryz.func25, by kernel_rfl, by kernel_rfl⟩
theorem fnok56 : FnOK Tryz.prog 56 := ⟨_, Tryz.func56, by kernel_rfl, by kernel_rfl⟩
theorem fnok85 : FnOK Tryz.prog 85 := ⟨_, Tryz.func85, by kernel_rfl, by kernel_rfl⟩
theorem zr136 : ZeroOf Tryz.prog 136 (⟨.slice none 0 0⟩ : Raw) := ⟨[.slice none 0 0], by kernel_rfl, fun _ _ => ⟨rfl, rfl, rfl⟩⟩
theorem zr154 : ZeroOf Tryz.prog 154 (⟨.nilFunc⟩ : Raw) := ⟨[.nilFunc], by kernel_rfl, fun _ _ => ⟨rfl, rfl, rfl⟩⟩
theorem tr154 : Ty Tryz.prog 154 Raw := ⟨⟨_, Tryz.underlying154, rfl⟩, by kernel_rfl⟩
theorem fnok99 : FnOK Tryz.prog 99 := ⟨_, Tryz.func99, by kernel_rfl, by kernel_rfl⟩
theorem tr136 : Ty Tryz.prog 136 Raw := ⟨⟨_, Tryz.underlying136, rfl⟩, by kernel_rfl⟩
theorem sl136 : SliceOf Tryz.prog 136 9 := Tryz.underlying136
theorem hz9 : HasZero Tryz.prog 9 := by unfold HasZero; kernel_rfl
theorem rk136 : RowOK Tryz.prog 136 9 Str := ⟨sl136, ty9, by kernel_rfl⟩
theorem ty136 : Ty Tryz.prog 136 (List Str) := ⟨⟨_, Tryz.underlying136, rfl⟩, by kernel_rfl⟩
theorem fnok86 : FnOK Tryz.prog 86 := ⟨_, Tryz.func86, by kernel_rfl, by kernel_rfl⟩
theorem fnok100 : FnOK Tryz.prog 100 := ⟨_, Tryz.func100, by kernel_rfl, by kernel_rfl⟩
theorem fnok101 : FnOK Tryz.prog 101 := ⟨_, Tryz.func101, by kernel_rfl, by kernel_rfl⟩
theorem fnok102 : FnOK Tryz.prog 102 := ⟨_, Tryz.func102, by kernel_rfl, by kernel_rfl⟩
theorem fnok57 : FnOK Tryz.prog 57 := ⟨_, Tryz.func57, by kernel_rfl, by kernel_rfl⟩
theorem fnok87 : FnOK Tryz.prog 87 := ⟨_, Tryz.func87, by kernel_rfl, by kernel_rfl⟩
theorem fnok103 : FnOK Tryz.prog 103 := ⟨_, Tryz.func103, by kernel_rfl, by kernel_rfl⟩
theorem fnok10 : FnOK Tryz.prog 10 := ⟨_, Tryz.func10, by kernel_rfl, by kernel_rfl⟩
theorem fnok26 : FnOK Tryz.prog 26 := ⟨_, Tryz.func26, by kernel_rfl, by kernel_rfl⟩
theorem sl69 : SliceOf Tryz.prog 69 68 := Tryz.underlying69
theorem ty68 : Ty Tryz.prog 68 Rule := ⟨⟨_, Tryz.underlying68, rfl⟩, by kernel_rfl⟩
theorem zo68 : ZeroOf Tryz.prog 68 (⟨Str.nil, Str.nil, Str.nil⟩ : Rule) := ⟨[.string ByteArray.empty, .string ByteArray.empty, .string ByteArray.empty], by kernel_rfl, fun _ _ => ⟨[_], _, rfl, str_zero, ⟨[_], _, rfl, str_zero, str_zero⟩⟩⟩
theorem fd68_0 : FieldAt Tryz.prog 68 0 0 := ⟨_, _, Tryz.underlying68, rfl, rfl, by kernel_rfl⟩
theorem hfd68_0 : HasField Rule Str 0 Rule.Class := ⟨by decide, fun M x cs w h => (HasField.fst HasField.self).2 M _ cs w h⟩
theorem fnok58 : FnOK Tryz.prog 58 := ⟨_, Tryz.func58, by kernel_rfl, by kernel_rfl⟩
theorem fd68_1 : FieldAt Tryz.prog 68 1 1 := ⟨_, _, Tryz.underlying68, rfl, rfl, by kernel_rfl⟩
theorem hfd68_1 : HasField Rule Str 1 Rule.Prop_ := ⟨by decide, fun M x cs w h => (HasField.snd (HasField.fst HasField.self)).2 M _ cs w h⟩
theorem fd68_2 : FieldAt Tryz.prog 68 2 2 := ⟨_, _, Tryz.underlying68, rfl, rfl, by kernel_rfl⟩
theorem hfd68_2 : HasField Rule Str 2 Rule.Value := ⟨by decide, fun M x cs w h => (HasField.snd (HasField.snd HasField.self)).2 M _ cs w h⟩
theorem fnok59 : FnOK Tryz.prog 59 := ⟨_, Tryz.func59, by kernel_rfl, by kernel_rfl⟩
theorem bu68 : BuildAt Tryz.prog 68 [.string ByteArray.empty, .string ByteArray.empty, .string ByteArray.empty] [(0, 1), (1, 1), (2, 1)] := ⟨by kernel_rfl, _, Tryz.underlying68, by kernel_rfl⟩
theorem zc68 : ∀ (M : MSet) (w : World), Rep.cells M (⟨Str.nil, Str.nil, Str.nil⟩ : Rule) [.string ByteArray.empty, .string ByteArray.empty, .string ByteArray.empty] w := fun _ _ => ⟨[_], _, rfl, str_zero, ⟨[_], _, rfl, str_zero, str_zero⟩⟩
theorem hz68 : HasZero Tryz.prog 68 := by unfold HasZero; kernel_rfl
theorem fnok12 : FnOK Tryz.prog 12 := ⟨_, Tryz.func12, by kernel_rfl, by kernel_rfl⟩
theorem fnok11 : FnOK Tryz.prog 11 := ⟨_, Tryz.func11, by kernel_rfl, by kernel_rfl⟩

end Go.Proofs.YtbogpbomhmabhaaGreatDoor
