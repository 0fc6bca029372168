/-
  Facts on the program's types, each read off its table. Printed by a program (wip/tools/mkfacts.py). No statement of the seat is proved here; no condition.
-/
import Derived.Test.YtlflocejgffjdaaM26
import Derived.Test.YtlflocejgffjdaaProg
namespace Go.Mini
open Go.Proofs
-- 2: int64
theorem ty2 : tyOf Try.prog 2 = some (false, 1) := by kernel_rfl
theorem us2 : usOf Try.prog 2 = true := by kernel_rfl
theorem sz2 : szOf Try.prog 2 = some 1 := by kernel_rfl
theorem zero2 : zeroM Try.prog 2 = some (.int .i64 0) := by kernel_rfl
theorem kind2 : kindOf Try.prog 2 = some .i64 := by kernel_rfl
-- 3: int
theorem ty3 : tyOf Try.prog 3 = some (false, 1) := by kernel_rfl
theorem us3 : usOf Try.prog 3 = true := by kernel_rfl
theorem sz3 : szOf Try.prog 3 = some 1 := by kernel_rfl
theorem zero3 : zeroM Try.prog 3 = some (.int .i64 0) := by kernel_rfl
theorem kind3 : kindOf Try.prog 3 = some .i64 := by kernel_rfl
-- 4: bool
theorem ty4 : tyOf Try.prog 4 = some (false, 1) := by kernel_rfl
theorem us4 : usOf Try.prog 4 = true := by kernel_rfl
theorem sz4 : szOf Try.prog 4 = some 1 := by kernel_rfl
theorem zero4 : zeroM Try.prog 4 = some (.bool false) := by kernel_rfl
-- 5: uint8
theorem ty5 : tyOf Try.prog 5 = some (false, 1) := by kernel_rfl
theorem us5 : usOf Try.prog 5 = true := by kernel_rfl
theorem sz5 : szOf Try.prog 5 = some 1 := by kernel_rfl
theorem zero5 : zeroM Try.prog 5 = some (.int .u8 0) := by kernel_rfl
theorem kind5 : kindOf Try.prog 5 = some .u8 := by kernel_rfl
-- 9: string
theorem ty9 : tyOf Try.prog 9 = some (false, 1) := by kernel_rfl
theorem us9 : usOf Try.prog 9 = true := by kernel_rfl
theorem sz9 : szOf Try.prog 9 = some 1 := by kernel_rfl
theorem zero9 : zeroM Try.prog 9 = some (.string ⟨#[]⟩) := by kernel_rfl
-- 28: []signetlaw11.Act
theorem ty28 : tyOf Try.prog 28 = some (false, 1) := by kernel_rfl
theorem us28 : usOf Try.prog 28 = true := by kernel_rfl
theorem sz28 : szOf Try.prog 28 = some 1 := by kernel_rfl
theorem zero28 : zeroM Try.prog 28 = some (.slice none 0 0) := by kernel_rfl
theorem el28 : elemOf Try.prog 28 = some (104, 3, 24) := by kernel_rfl
theorem elem28 : Elem Try.prog 28 104 3 24 (.agg (List.toArray ([.int .i64 0, .int .i64 0, .int .i64 0]))) := ⟨el28, by kernel_rfl, by kernel_rfl, by decide⟩
-- 29: *bits.Map
theorem ty29 : tyOf Try.prog 29 = some (false, 1) := by kernel_rfl
theorem us29 : usOf Try.prog 29 = true := by kernel_rfl
theorem sz29 : szOf Try.prog 29 = some 1 := by kernel_rfl
theorem zero29 : zeroM Try.prog 29 = some (.pointer none) := by kernel_rfl
-- 30: []bool
theorem ty30 : tyOf Try.prog 30 = some (false, 1) := by kernel_rfl
theorem us30 : usOf Try.prog 30 = true := by kernel_rfl
theorem sz30 : szOf Try.prog 30 = some 1 := by kernel_rfl
theorem zero30 : zeroM Try.prog 30 = some (.slice none 0 0) := by kernel_rfl
theorem el30 : elemOf Try.prog 30 = some (4, 1, 1) := by kernel_rfl
theorem elem30 : Elem Try.prog 30 4 1 1 (.bool false) := ⟨el30, by kernel_rfl, by kernel_rfl, by decide⟩
-- 33: []api.Block
theorem ty33 : tyOf Try.prog 33 = some (false, 1) := by kernel_rfl
theorem us33 : usOf Try.prog 33 = true := by kernel_rfl
theorem sz33 : szOf Try.prog 33 = some 1 := by kernel_rfl
theorem zero33 : zeroM Try.prog 33 = some (.slice none 0 0) := by kernel_rfl
theorem el33 : elemOf Try.prog 33 = some (38, 256, 256) := by kernel_rfl
theorem elem33 : Elem Try.prog 33 38 256 256 (.agg (List.toArray (List.replicate 256 (.int .u8 0)))) := ⟨el33, by kernel_rfl, by kernel_rfl, by decide⟩
-- 35: [][256]uint8
theorem ty35 : tyOf Try.prog 35 = some (false, 1) := by kernel_rfl
theorem us35 : usOf Try.prog 35 = true := by kernel_rfl
theorem sz35 : szOf Try.prog 35 = some 1 := by kernel_rfl
theorem zero35 : zeroM Try.prog 35 = some (.slice none 0 0) := by kernel_rfl
theorem el35 : elemOf Try.prog 35 = some (37, 256, 256) := by kernel_rfl
theorem elem35 : Elem Try.prog 35 37 256 256 (.agg (List.toArray (List.replicate 256 (.int .u8 0)))) := ⟨el35, by kernel_rfl, by kernel_rfl, by decide⟩
-- 37: [256]uint8
theorem ty37 : tyOf Try.prog 37 = some (true, 256) := by kernel_rfl
theorem us37 : usOf Try.prog 37 = true := by kernel_rfl
theorem sz37 : szOf Try.prog 37 = some 256 := by kernel_rfl
theorem zero37 : zeroM Try.prog 37 = some (.agg (List.toArray (List.replicate 256 (.int .u8 0)))) := by kernel_rfl
theorem arr37 : arrOf Try.prog 37 = some (256, 5, 1) := by kernel_rfl
-- 38: api.Block
theorem ty38 : tyOf Try.prog 38 = some (true, 256) := by kernel_rfl
theorem us38 : usOf Try.prog 38 = true := by kernel_rfl
theorem sz38 : szOf Try.prog 38 = some 256 := by kernel_rfl
theorem zero38 : zeroM Try.prog 38 = some (.agg (List.toArray (List.replicate 256 (.int .u8 0)))) := by kernel_rfl
theorem arr38 : arrOf Try.prog 38 = some (256, 5, 1) := by kernel_rfl
-- 39: api.Errno
theorem ty39 : tyOf Try.prog 39 = some (false, 1) := by kernel_rfl
theorem us39 : usOf Try.prog 39 = true := by kernel_rfl
theorem sz39 : szOf Try.prog 39 = some 1 := by kernel_rfl
theorem zero39 : zeroM Try.prog 39 = some (.int .i64 0) := by kernel_rfl
theorem kind39 : kindOf Try.prog 39 = some .i64 := by kernel_rfl
-- 47: *room.Room
theorem ty47 : tyOf Try.prog 47 = some (false, 1) := by kernel_rfl
theorem us47 : usOf Try.prog 47 = true := by kernel_rfl
theorem sz47 : szOf Try.prog 47 = some 1 := by kernel_rfl
theorem zero47 : zeroM Try.prog 47 = some (.pointer none) := by kernel_rfl
-- 53: []uint32
theorem ty53 : tyOf Try.prog 53 = some (false, 1) := by kernel_rfl
theorem us53 : usOf Try.prog 53 = true := by kernel_rfl
theorem sz53 : szOf Try.prog 53 = some 1 := by kernel_rfl
theorem zero53 : zeroM Try.prog 53 = some (.slice none 0 0) := by kernel_rfl
theorem el53 : elemOf Try.prog 53 = some (55, 1, 4) := by kernel_rfl
theorem elem53 : Elem Try.prog 53 55 1 4 (.int .u32 0) := ⟨el53, by kernel_rfl, by kernel_rfl, by decide⟩
-- 55: uint32
theorem ty55 : tyOf Try.prog 55 = some (false, 1) := by kernel_rfl
theorem us55 : usOf Try.prog 55 = true := by kernel_rfl
theorem sz55 : szOf Try.prog 55 = some 1 := by kernel_rfl
theorem zero55 : zeroM Try.prog 55 = some (.int .u32 0) := by kernel_rfl
theorem kind55 : kindOf Try.prog 55 = some .u32 := by kernel_rfl
-- 62: []int
theorem ty62 : tyOf Try.prog 62 = some (false, 1) := by kernel_rfl
theorem us62 : usOf Try.prog 62 = true := by kernel_rfl
theorem sz62 : szOf Try.prog 62 = some 1 := by kernel_rfl
theorem zero62 : zeroM Try.prog 62 = some (.slice none 0 0) := by kernel_rfl
theorem el62 : elemOf Try.prog 62 = some (3, 1, 8) := by kernel_rfl
theorem elem62 : Elem Try.prog 62 3 1 8 (.int .i64 0) := ⟨el62, by kernel_rfl, by kernel_rfl, by decide⟩
-- 74: []api.Run
theorem ty74 : tyOf Try.prog 74 = some (false, 1) := by kernel_rfl
theorem us74 : usOf Try.prog 74 = true := by kernel_rfl
theorem sz74 : szOf Try.prog 74 = some 1 := by kernel_rfl
theorem zero74 : zeroM Try.prog 74 = some (.slice none 0 0) := by kernel_rfl
theorem el74 : elemOf Try.prog 74 = some (78, 2, 16) := by kernel_rfl
theorem elem74 : Elem Try.prog 74 78 2 16 (.agg (List.toArray ([.int .i64 0, .int .i64 0]))) := ⟨el74, by kernel_rfl, by kernel_rfl, by decide⟩
-- 77: struct { From int; To int }
theorem ty77 : tyOf Try.prog 77 = some (true, 2) := by kernel_rfl
theorem us77 : usOf Try.prog 77 = true := by kernel_rfl
theorem sz77 : szOf Try.prog 77 = some 2 := by kernel_rfl
theorem zero77 : zeroM Try.prog 77 = some (.agg (List.toArray ([.int .i64 0, .int .i64 0]))) := by kernel_rfl
theorem fo77_0 : fieldOff Try.prog 77 0 = some 0 := by kernel_rfl
theorem fo77_1 : fieldOff Try.prog 77 1 = some 1 := by kernel_rfl
theorem build77 (n0 : Int) (n1 : Int) : buildM Try.prog 77 [(0, .int .i64 n0), (1, .int .i64 n1)] = some (.agg #[.int .i64 n0, .int .i64 n1]) := by kernel_rfl
-- 78: api.Run
theorem ty78 : tyOf Try.prog 78 = some (true, 2) := by kernel_rfl
theorem us78 : usOf Try.prog 78 = true := by kernel_rfl
theorem sz78 : szOf Try.prog 78 = some 2 := by kernel_rfl
theorem zero78 : zeroM Try.prog 78 = some (.agg (List.toArray ([.int .i64 0, .int .i64 0]))) := by kernel_rfl
theorem fo78_0 : fieldOff Try.prog 78 0 = some 0 := by kernel_rfl
theorem fo78_1 : fieldOff Try.prog 78 1 = some 1 := by kernel_rfl
theorem build78 (n0 : Int) (n1 : Int) : buildM Try.prog 78 [(0, .int .i64 n0), (1, .int .i64 n1)] = some (.agg #[.int .i64 n0, .int .i64 n1]) := by kernel_rfl
-- 97: desk.word
theorem ty97 : tyOf Try.prog 97 = some (true, 2) := by kernel_rfl
theorem us97 : usOf Try.prog 97 = true := by kernel_rfl
theorem sz97 : szOf Try.prog 97 = some 2 := by kernel_rfl
theorem zero97 : zeroM Try.prog 97 = some (.agg (List.toArray ([.string ⟨#[]⟩, .bool false]))) := by kernel_rfl
theorem fo97_0 : fieldOff Try.prog 97 0 = some 0 := by kernel_rfl
theorem fo97_1 : fieldOff Try.prog 97 1 = some 1 := by kernel_rfl
theorem build97 (s0 : ByteArray) (b1 : Bool) : buildM Try.prog 97 [(0, .string s0), (1, .bool b1)] = some (.agg #[.string s0, .bool b1]) := by kernel_rfl
-- 100: []uint8
theorem ty100 : tyOf Try.prog 100 = some (false, 1) := by kernel_rfl
theorem us100 : usOf Try.prog 100 = true := by kernel_rfl
theorem sz100 : szOf Try.prog 100 = some 1 := by kernel_rfl
theorem zero100 : zeroM Try.prog 100 = some (.slice none 0 0) := by kernel_rfl
theorem el100 : elemOf Try.prog 100 = some (5, 1, 1) := by kernel_rfl
theorem elem100 : Elem Try.prog 100 5 1 1 (.int .u8 0) := ⟨el100, by kernel_rfl, by kernel_rfl, by decide⟩
-- 101: uint
theorem ty101 : tyOf Try.prog 101 = some (false, 1) := by kernel_rfl
theorem us101 : usOf Try.prog 101 = true := by kernel_rfl
theorem sz101 : szOf Try.prog 101 = some 1 := by kernel_rfl
theorem zero101 : zeroM Try.prog 101 = some (.int .u64 0) := by kernel_rfl
theorem kind101 : kindOf Try.prog 101 = some .u64 := by kernel_rfl
-- 104: signetlaw11.Act
theorem ty104 : tyOf Try.prog 104 = some (true, 3) := by kernel_rfl
theorem us104 : usOf Try.prog 104 = true := by kernel_rfl
theorem sz104 : szOf Try.prog 104 = some 3 := by kernel_rfl
theorem zero104 : zeroM Try.prog 104 = some (.agg (List.toArray ([.int .i64 0, .int .i64 0, .int .i64 0]))) := by kernel_rfl
theorem fo104_0 : fieldOff Try.prog 104 0 = some 0 := by kernel_rfl
theorem fo104_1 : fieldOff Try.prog 104 1 = some 1 := by kernel_rfl
theorem fo104_2 : fieldOff Try.prog 104 2 = some 2 := by kernel_rfl
theorem build104 (n0 : Int) (n1 : Int) (n2 : Int) : buildM Try.prog 104 [(0, .int .i64 n0), (1, .int .i64 n1), (2, .int .i64 n2)] = some (.agg #[.int .i64 n0, .int .i64 n1, .int .i64 n2]) := by kernel_rfl
-- 108: bits.Map
theorem ty108 : tyOf Try.prog 108 = some (true, 2) := by kernel_rfl
theorem us108 : usOf Try.prog 108 = true := by kernel_rfl
theorem sz108 : szOf Try.prog 108 = some 2 := by kernel_rfl
theorem zero108 : zeroM Try.prog 108 = some (.agg (List.toArray ([.int .i64 0, .slice none 0 0]))) := by kernel_rfl
theorem fo108_0 : fieldOff Try.prog 108 0 = some 0 := by kernel_rfl
theorem fo108_1 : fieldOff Try.prog 108 1 = some 1 := by kernel_rfl
theorem build108 (n0 : Int) (a1 : Option Addr) (l1 c1 : Nat) : buildM Try.prog 108 [(0, .int .i64 n0), (1, .slice a1 l1 c1)] = some (.agg #[.int .i64 n0, .slice a1 l1 c1]) := by kernel_rfl
-- 109: [4]uint8
theorem ty109 : tyOf Try.prog 109 = some (true, 4) := by kernel_rfl
theorem us109 : usOf Try.prog 109 = true := by kernel_rfl
theorem sz109 : szOf Try.prog 109 = some 4 := by kernel_rfl
theorem zero109 : zeroM Try.prog 109 = some (.agg (List.toArray (List.replicate 4 (.int .u8 0)))) := by kernel_rfl
theorem arr109 : arrOf Try.prog 109 = some (4, 5, 1) := by kernel_rfl
-- 112: uint64
theorem ty112 : tyOf Try.prog 112 = some (false, 1) := by kernel_rfl
theorem us112 : usOf Try.prog 112 = true := by kernel_rfl
theorem sz112 : szOf Try.prog 112 = some 1 := by kernel_rfl
theorem zero112 : zeroM Try.prog 112 = some (.int .u64 0) := by kernel_rfl
theorem kind112 : kindOf Try.prog 112 = some .u64 := by kernel_rfl
-- 117: []signetref11.Run
theorem ty117 : tyOf Try.prog 117 = some (false, 1) := by kernel_rfl
theorem us117 : usOf Try.prog 117 = true := by kernel_rfl
theorem sz117 : szOf Try.prog 117 = some 1 := by kernel_rfl
theorem zero117 : zeroM Try.prog 117 = some (.slice none 0 0) := by kernel_rfl
theorem el117 : elemOf Try.prog 117 = some (119, 2, 16) := by kernel_rfl
theorem elem117 : Elem Try.prog 117 119 2 16 (.agg (List.toArray ([.int .i64 0, .int .i64 0]))) := ⟨el117, by kernel_rfl, by kernel_rfl, by decide⟩
-- 119: signetref11.Run
theorem ty119 : tyOf Try.prog 119 = some (true, 2) := by kernel_rfl
theorem us119 : usOf Try.prog 119 = true := by kernel_rfl
theorem sz119 : szOf Try.prog 119 = some 2 := by kernel_rfl
theorem zero119 : zeroM Try.prog 119 = some (.agg (List.toArray ([.int .i64 0, .int .i64 0]))) := by kernel_rfl
theorem fo119_0 : fieldOff Try.prog 119 0 = some 0 := by kernel_rfl
theorem fo119_1 : fieldOff Try.prog 119 1 = some 1 := by kernel_rfl
theorem build119 (n0 : Int) (n1 : Int) : buildM Try.prog 119 [(0, .int .i64 n0), (1, .int .i64 n1)] = some (.agg #[.int .i64 n0, .int .i64 n1]) := by kernel_rfl
-- 123: room.Room
theorem ty123 : tyOf Try.prog 123 = some (true, 1) := by kernel_rfl
theorem us123 : usOf Try.prog 123 = true := by kernel_rfl
theorem sz123 : szOf Try.prog 123 = some 1 := by kernel_rfl
theorem zero123 : zeroM Try.prog 123 = some (.agg (List.toArray ([.slice none 0 0]))) := by kernel_rfl
theorem fo123_0 : fieldOff Try.prog 123 0 = some 0 := by kernel_rfl
theorem build123 (a0 : Option Addr) (l0 c0 : Nat) : buildM Try.prog 123 [(0, .slice a0 l0 c0)] = some (.agg #[.slice a0 l0 c0]) := by kernel_rfl
set_option linter.defProp false
/-- all of them -/
def typesT := And.intro (And.intro (And.intro (And.intro (And.intro (And.intro (And.intro (@ty2) (@us2)) (And.intro (@sz2) (And.intro (@zero2) (@kind2)))) (And.intro (And.intro (@ty3) (@us3)) (And.intro (@sz3) (And.intro (@zero3) (@kind3))))) (And.intro (And.intro (And.intro (@ty4) (@us4)) (And.intro (@sz4) (And.intro (@zero4) (@ty5)))) (And.intro (And.intro (@us5) (@sz5)) (And.intro (@zero5) (And.intro (@kind5) (@ty9)))))) (And.intro (And.intro (And.intro (And.intro (@us9) (@sz9)) (And.intro (@zero9) (And.intro (@ty28) (@us28)))) (And.intro (And.intro (@sz28) (@zero28)) (And.intro (@el28) (And.intro (@ty29) (@us29))))) (And.intro (And.intro (And.intro (@sz29) (@zero29)) (And.intro (@ty30) (And.intro (@us30) (@sz30)))) (And.intro (And.intro (@zero30) (@el30)) (And.intro (@ty33) (And.intro (@us33) (@sz33))))))) (And.intro (And.intro (And.intro (And.intro (And.intro (@zero33) (@el33)) (And.intro (@ty35) (And.intro (@us35) (@sz35)))) (And.intro (And.intro (@zero35) (@el35)) (And.intro (@ty37) (And.intro (@us37) (@sz37))))) (And.intro (And.intro (And.intro (@zero37) (@arr37)) (And.intro (@ty38) (And.intro (@us38) (@sz38)))) (And.intro (And.intro (@zero38) (@arr38)) (And.intro (@ty39) (And.intro (@us39) (@sz39)))))) (And.intro (And.intro (And.intro (And.intro (@zero39) (@kind39)) (And.intro (@ty47) (And.intro (@us47) (@sz47)))) (And.intro (And.intro (@zero47) (@ty53)) (And.intro (@us53) (And.intro (@sz53) (@zero53))))) (And.intro (And.intro (And.intro (@el53) (@ty55)) (And.intro (@us55) (And.intro (@sz55) (@zero55)))) (And.intro (And.intro (@kind55) (@ty62)) (And.intro (@us62) (And.intro (@sz62) (@zero62)))))))) (And.intro (And.intro (And.intro (And.intro (And.intro (And.intro (@el62) (@ty74)) (And.intro (@us74) (And.intro (@sz74) (@zero74)))) (And.intro (And.intro (@el74) (@ty77)) (And.intro (@us77) (And.intro (@sz77) (@zero77))))) (And.intro (And.intro (And.intro (@fo77_0) (@fo77_1)) (And.intro (@build77) (And.intro (@ty78) (@us78)))) (And.intro (And.intro (@sz78) (@zero78)) (And.intro (@fo78_0) (And.intro (@fo78_1) (@build78)))))) (And.intro (And.intro (And.intro (And.intro (@ty97) (@us97)) (And.intro (@sz97) (And.intro (@zero97) (@fo97_0)))) (And.intro (And.intro (@fo97_1) (@build97)) (And.intro (@ty100) (And.intro (@us100) (@sz100))))) (And.intro (And.intro (And.intro (@zero100) (@el100)) (And.intro (@ty101) (And.intro (@us101) (@sz101)))) (And.intro (And.intro (@zero101) (@kind101)) (And.intro (@ty104) (And.intro (@us104) (@sz104))))))) (And.intro (And.intro (And.intro (And.intro (And.intro (@zero104) (@fo104_0)) (And.intro (@fo104_1) (And.intro (@fo104_2) (@build104)))) (And.intro (And.intro (@ty108) (@us108)) (And.intro (@sz108) (And.intro (@zero108) (@fo108_0))))) (And.intro (And.intro (And.intro (@fo108_1) (@build108)) (And.intro (@ty109) (And.intro (@us109) (@sz109)))) (And.intro (And.intro (@zero109) (@arr109)) (And.intro (@ty112) (And.intro (@us112) (@sz112)))))) (And.intro (And.intro (And.intro (And.intro (@zero112) (@kind112)) (And.intro (@ty117) (And.intro (@us117) (@sz117)))) (And.intro (And.intro (@zero117) (@el117)) (And.intro (@ty119) (And.intro (@us119) (@sz119))))) (And.intro (And.intro (And.intro (@zero119) (@fo119_0)) (And.intro (@fo119_1) (And.intro (@build119) (@ty123)))) (And.intro (And.intro (@us123) (@sz123)) (And.intro (@zero123) (And.intro (@fo123_0) (@build123))))))))
end Go.Mini
