/- Parts of the proof, in the order in which they are built: BdW, AeEn, AeBd, BdM, MSh, MtA, MtB, MtC, MtD, MNm, MV0, MV, MVal, MK0, MChk, MSan, MW1, MW2, MC, MP0. -/
import Derived.Test.YtblhndlmgibljaaDoorChsCard3
import Derived.ProofKit
import Derived.OwnWalk
import Derived.Lib.Builder
import Derived.Lib.AppendStr
import Derived.Lib.UnsafeStr
import Derived.Lib.Slices
import Derived.Test.YtblhndlmgibljaaDoorProg
import Derived.Shelf.Strings.Builder1
import Derived.Shelf.Strings.BuilderF
import Derived.Shelf.Strings.BuilderK
import Derived.Shelf.Strconv.Atoi
import Derived.Shelf.Strconv.Itoa0
import Derived.Shelf.Strconv.Itoa1
import Derived.Shelf.LaysM
import Derived.Shelf.Strconv.Itoa2
import Derived.Shelf.Strconv.Itoa3
import Derived.Shelf.Strconv.AtoiErrFast
import Derived.Shelf.Strconv.ParseIntEmpty
import Derived.Shelf.Strconv.AtoiFail
import Derived.Shelf.Strconv.Clone
import Derived.Shelf.Strconv.SyntaxError
import Derived.Shelf.LaysC
import Derived.Shelf.Strconv.ToError
import Derived.Shelf.Strconv.Lower
import Derived.Shelf.Strconv.ParseUint10
import Derived.Shelf.Strconv.ParseUint10Empty
import Derived.Shelf.Strconv.ParseUint10Any
import Derived.Shelf.Strconv.ParseInt10
import Derived.Shelf.Strconv.AtoiLong
import Derived.Shelf.Strconv.AtoiInnerAll
import Derived.Shelf.Strconv.RangeError
import Derived.Shelf.Strconv.ToErrorRange
import Derived.Shelf.Strconv.AtoiAll
import Derived.Shelf.Strings.Search1
import Derived.Shelf.Strings.Search2
import Derived.Shelf.Strings.Search3
import Derived.Shelf.Strings.Count
import Derived.Shelf.Strings.Shaped
import Derived.Shelf.GgClosure.StringsIndexFunc
import Derived.Ground.GgwProg
import Derived.Shelf.GgClosure.StringsIndexFuncTop
import Derived.Shelf.Strings.Split
import Derived.Shelf.Strings.SplitShaped
import Derived.Shelf.Unicode.DecodeSlow
import Derived.Laws.RangeString
import Derived.Laws.RangeAny

/- strings.Builder: what WriteString and WriteByte do to a builder of one's own, block by block. -/
namespace Go.Proofs.YtblhndlmgibljaaDoor
open Go Go.Proofs Go.RowKit
set_option maxRecDepth 100000
namespace AE
section
variable {P : Program} {w : World}
/-- Where what an append of a string hands back lies. -/
theorem append_str_new {w' : World} {base : Nat} {t u ty e : TypeId} {i : TypeInfo} (ht : P.underlying t = some (.slice e)) (hu : P.underlying u = some .string) (hi : P.info? e = some i) (hz : i.zero = some (.int .u8 0)) (hsize : i.size = 1) (hby : i.bytes = 1)
    {v v' : Value} {n : Nat} {xs : List Value} (hown : w.ownsRow base e 1 v n xs) (s : ByteArray) (h63 : n + s.size ≤ maxLen) (hbytes : n + s.size ≤ 140737488355328) (hr : (Builtin.append_ #[t, u] ty #[v, .string s]).run P w = .ok v' w') :
    ∀ j, v'.ownBlock = some j → v.ownBlock = some j ∨ w.heap.size ≤ j := by
  have hsmall : n + s.size ≤ 9223372036854775807 := by simp only [maxLen] at h63; omega
  have hxl : xs.length = n := by simpa using hown.1
  rcases hown.2 with ⟨rfl, rfl⟩ | ⟨g, cap, cur, rfl, hbg, hg, hnc, hcm, hcs, htake⟩
  · by_cases hm : s.size = 0
    · have h2 : (Builtin.append_ #[t, u] ty #[.slice none 0 0, .string s]).run P w = .ok (.slice none 0 0) w := by
        have hf := Go.Lib.run_firstCells_string (P := P) w 1 s
        have hn : Go.Lib.strCells s = [] := List.eq_nil_of_length_eq_zero (by rw [Go.Lib.strCells_length]; exact hm)
        rw [hm] at hf
        simp [Builtin.append_, run_underlying ht, run_underlying hu, sizeOf, typeInfo, hi, hsize, Builtin.lenOf, hm, hf]
      rw [h2] at hr
      cases hr
      intro j hj
      cases hj
    · have h2 := run_append_nil_string (P := P) w t u ty e i (.int .u8 0) ht hu hi hz s (by omega) (by omega) (by rw [hby]; omega)
      rw [h2] at hr
      cases hr
      intro j hj
      have : w.heap.size = j := by simpa [Value.ownBlock] using hj
      exact .inr (by omega)
  · by_cases hroom : n + s.size ≤ cap
    · have hcs' : cur.size = cap := by simpa using hcs
      have h2 := Go.Lib.run_append_room_string (P := P) w t u ty e i ht hu hi hsize g n cap cur hg s hroom (by omega)
      rw [h2] at hr
      cases hr
      intro j hj
      exact .inl hj
    · have holds : ∀ j u, xs[j]? = some u → w.cell? ((⟨g, 0, none⟩ : Addr).add j) = some u := hown.cells (g := g) rfl
      have h2 := Go.Lib.run_append_grow_string (P := P) w t u ty e i (.int .u8 0) ht hu hi hz ⟨g, 0, none⟩ n cap xs (by rw [hsize]; simpa using hxl) holds s (by omega) (by omega) (by rw [hby]; exact growslice_fits (by omega) (by omega))
      rw [h2] at hr
      cases hr
      intro j hj
      have : w.heap.size = j := by simpa [Value.ownBlock] using hj
      exact .inr (by omega)

theorem wpList_append_str {ops : Array Oper} {rest : List Oper} {o : Oper} {a : Act} {Q : Exit → Act → World → Prop} (hgd : o.guard = none) (sl x : Operand) (t u : TypeId)
    (ho : o.op = .call { callee := .builtin .append, args := #[sl, x], argTypes := #[t, u] })
    (base : Nat) (e : TypeId) (i : TypeInfo) (ht : P.underlying t = some (.slice e)) (hu : P.underlying u = some .string) (hi : P.info? e = some i) (hz : i.zero = some (.int .u8 0))
    (hsize : i.size = 1) (hby : i.bytes = 1)
    (v : Value) (n : Nat) (xs : List Value) (hs : a.eval sl = v) (hown : w.ownsRow base e 1 v n xs) (s : ByteArray) (hx : a.eval x = .string s)
    (h63 : n + s.size ≤ maxLen) (hbytes : n + s.size ≤ 140737488355328) (hbase : base ≤ w.heap.size)
    (h : ∀ v' w', w'.ownsRow base e 1 v' (n + s.size) (xs ++ Go.Lib.strCells s) → w.grownBy w' v.ownBlock → (∀ j, v'.ownBlock = some j → v.ownBlock = some j ∨ w.heap.size ≤ j) → wpList P ops Q rest (a.put o.dst v') w') : wpList P ops Q (o :: rest) a w := by
  refine wpList_plain hgd fun K hK => ?_
  obtain ⟨v', w', hr, h2, h3, h4⟩ := Go.Lib.run_append_own_string (P := P) w base t u o.type e i ht hu hi hz hsize hby v n xs hown s h63 hbytes hbase
  have h5 := append_str_new ht hu hi hz hsize hby hown s h63 hbytes hr
  unfold Oper.wp execOp
  simp only [ho, resolve, invoke, builtin, Sem.run_bind, Sem.run_pure, Result.andThen_ok, List.map_toArray, List.map_cons, List.map_nil, hs, hx, hr]
  exact hK _ _ (h v' w' h2 h3 h5)

theorem wpList_append_one {ops : Array Oper} {rest : List Oper} {o : Oper} {a : Act} {Q : Exit → Act → World → Prop} (hgd : o.guard = none) (sl x : Operand) (t : TypeId)
    (ho : o.op = .call { callee := .builtin .append, args := #[sl, x], argTypes := #[t, t] })
    (base : Nat) (e : TypeId) (i : TypeInfo) (z : Value) (size bytes : Nat) (ht : P.underlying t = some (.slice e)) (hi : P.info? e = some i) (hz : i.zero = some z)
    (hsize : i.size = size) (hby : i.bytes = bytes) (hzs : z.cells.size = size) (hsz : 0 < size)
    (v : Value) (n : Nat) (xs : List Value) (hs : a.eval sl = v) (hown : w.ownsRow base e size v n xs)
    (p : Addr) (m c : Nat) (news : List Value) (hx : a.eval x = .slice (some p) m c) (hl : news.length = m * size) (hnews : ∀ j u, news[j]? = some u → w.cell? (p.add j) = some u) (h1 : ∀ u ∈ news, u.oneCell' = true)
    (h63 : n + m ≤ maxLen) (hbytes : (n + m) * bytes ≤ 140737488355328) (hbase : base ≤ w.heap.size)
    (h : ∀ v' w', w'.ownsRow base e size v' (n + m) (xs ++ news) → w.grownBy w' v.ownBlock → (∀ j, v'.ownBlock = some j → v.ownBlock = some j ∨ w.heap.size ≤ j) → wpList P ops Q rest (a.put o.dst v') w') : wpList P ops Q (o :: rest) a w := by
  refine wpList_plain hgd fun K hK => ?_
  obtain ⟨v', w', hr, h2, h3, h4⟩ := run_append_own (P := P) w base t o.type e i z size bytes ht hi hz hsize hby hzs hsz v n xs hown p m c news hl hnews h1 h63 hbytes hbase
  have h5 := append_new ht hi hz hsize hby hzs hsz hown p m c hl hnews h1 h63 hbytes hr
  unfold Oper.wp execOp
  simp only [ho, resolve, invoke, builtin, Sem.run_bind, Sem.run_pure, Result.andThen_ok, List.map_toArray, List.map_cons, List.map_nil, hs, hx, hr]
  exact hK _ _ (h v' w' h2 h3 fun j hj => (h5 j hj.symm).imp Eq.symm id)
end

abbrev tBd : TypeId := 55
abbrev tU8 : TypeId := 5
/-- A builder in its block: its own cells, the row of its bytes. -/
structure BdAt (B b : Nat) (p sl : Value) (bs : Bs) (w : World) : Prop where
  base : B ≤ b
  blk : w.heap[b]? = some (.cells #[p, sl] tBd (0, 0))
  own : p = .pointer none ∨ p = .pointer (some ⟨b, 0, none⟩)
  row : w.ownsRow B tU8 1 sl bs.length (Go.Lib.byteCells bs)
  apart : sl.ownBlock ≠ some b
/-- What has turned. -/
structure BdTo (B b : Nat) (sl : Value) (bs : Bs) (w w' : World) : Prop where
  dest : ∃ sl', BdAt B b (.pointer (some ⟨b, 0, none⟩)) sl' bs w' ∧ ∀ j, sl'.ownBlock = some j → sl.ownBlock = some j ∨ w.heap.size ≤ j
  os : w'.os = w.os
  tape : w'.tape = w.tape
  output : w'.output = w.output
  size : w.heap.size ≤ w'.heap.size
  block : ∀ i, i < w.heap.size → i ≠ b → some i ≠ sl.ownBlock → w'.heap[i]? = w.heap[i]?
theorem sizeBd : (Tryd.prog.info? tBd).map (·.size) = some 2 := by kernel_rfl
theorem infoU8 : (Tryd.prog.info? tU8).map (fun i => (i.zero, i.size, i.bytes)) = some (some (.int .u8 0), 1, 1) := by kernel_rfl

theorem noEsc (x : Value) : pureRun Tryd.prog (callFunc 64 #[x]) = some (.value x) := (inferInstance : Lib Tryd.prog).sameOk _ (by decide) x

theorem copyCheck_any {B b : Nat} {p sl : Value} {bs : Bs} {w : World} (h : BdAt B b p sl bs w) :
    Calls Tryd.prog 49 #[.pointer (some ⟨b, 0, none⟩)] w fun e w' => e = .returned (.tuple #[]) ∧ (w' = w ∧ p = .pointer (some ⟨b, 0, none⟩) ∨ w' = w.setCell ⟨b, 0, none⟩ (.pointer (some ⟨b, 0, none⟩))) := by
  obtain ⟨j, hj, hjs⟩ := Option.map_eq_some_iff.1 sizeBd
  have c0 : w.cell? ⟨b, 0, none⟩ = some p := by rw [Go.Lib.cell_of_heap h.blk]; rfl
  have f0 : w.frozen? ⟨b, 0, none⟩ = false := Go.Lib.frozen_of_heap h.blk 0
  have hsh : w.shape? b = some (tBd, 2) := by simp [World.shape?, h.blk]
  rcases h.own with rfl | rfl
  · go_enter Tryd.func49, Tryd.ntmps49
    go_wp2
    rw [Go.Lib.run_to_unsafe w ⟨b, 0, none⟩ Tryd.underlying52 Tryd.underlying91 hj (by rw [hjs]; decide) hsh (Nat.zero_lt_succ 1)]
    simp only [Result.andThen]
    rw [Oper.upon_value]
    go_wp2
    rw [pureRun_run (noEsc (.pointer (some ⟨b, 0, none⟩)))]
    rw [Oper.upon_value]
    go_wp2
    rw [Go.Lib.run_from_unsafe w ⟨b, 0, none⟩ Tryd.underlying91 Tryd.underlying52 hj hsh (by kernel_rfl)]
    simp only [Result.andThen]
    rw [Oper.upon_value]
    go_wp2
    go_end0
    exact ⟨rfl, .inr rfl⟩
  · go_enter Tryd.func49, Tryd.ntmps49
    go_wp2
    rw [Go.Lib.run_neq_ptr_same w _ Tryd.underlying52 hj]
    go_wp2
    go_end0
    exact ⟨rfl, .inl ⟨rfl, by simp⟩⟩

/-- What copyCheck leaves. -/
theorem copyCheck_to {B b : Nat} {p sl : Value} {bs : Bs} {w : World} (h : BdAt B b p sl bs w) :
    Calls Tryd.prog 49 #[.pointer (some ⟨b, 0, none⟩)] w fun e w' => e = .returned (.tuple #[]) ∧ BdAt B b (.pointer (some ⟨b, 0, none⟩)) sl bs w' ∧ w'.os = w.os ∧ w'.tape = w.tape ∧ w'.output = w.output ∧ w'.heap.size = w.heap.size ∧ ∀ i, i ≠ b → w'.heap[i]? = w.heap[i]? := by
  refine (copyCheck_any h).mono fun e w' hw => ?_
  obtain ⟨rfl, hw⟩ := hw
  refine ⟨rfl, ?_⟩
  have hset : BdAt B b (.pointer (some ⟨b, 0, none⟩)) sl bs (w.setCell ⟨b, 0, none⟩ (.pointer (some ⟨b, 0, none⟩))) := by
    refine ⟨h.base, ?_, .inr rfl, ?_, h.apart⟩
    · simp [World.setCell, Array.getElem?_modify, h.blk]
    · exact h.row.kept (row := some b) ⟨rfl, rfl, rfl, by simp [World.setCell], fun k _ hk => Below.heap_setCell _ _ _ _ (fun e => hk (by simp [e]))⟩ (Or.inr h.apart)
  rcases hw with ⟨rfl, rfl⟩ | rfl
  · exact ⟨h, rfl, rfl, rfl, rfl, fun _ _ => rfl⟩
  · exact ⟨hset, rfl, rfl, rfl, by simp [World.setCell], fun i hi => Below.heap_setCell _ _ _ _ hi⟩

theorem strCells_byte (s : Bs) : Go.Lib.strCells ⟨s.toArray⟩ = Go.Lib.byteCells s := by simp [Go.Lib.strCells, Go.Lib.byteCells]

set_option maxHeartbeats 2000000 in
theorem writeString_to {B b : Nat} {p sl : Value} {bs : Bs} (s : Bs) {w : World} (h : BdAt B b p sl bs w) (hB : B ≤ w.heap.size) (hlen : bs.length + s.length ≤ 140737488355328) :
    Calls Tryd.prog 32 #[.pointer (some ⟨b, 0, none⟩), strV s] w fun e w' => e = .returned (.tuple #[.int .i64 s.length, .nilIface]) ∧ BdTo B b sl (bs ++ s) w w' := by
  obtain ⟨i0, hi, hz0, hz1, hz2⟩ := info_parts infoU8
  have hsz : (⟨s.toArray⟩ : ByteArray).size = s.length := size_strV s
  unfold strV
  go_enter Tryd.func32, Tryd.ntmps32
  go_wp2_with (go_at_call 49; refine (copyCheck_to h).mono ?_)
  rintro e w1 ⟨rfl, h1, ho1, ht1, hp1, hs1, hb1⟩
  have c0 : w1.cell? ⟨b, 0, none⟩ = some (.pointer (some ⟨b, 0, none⟩)) := by rw [Go.Lib.cell_of_heap h1.blk]; rfl
  have c1 : w1.cell? ⟨b, 1, none⟩ = some sl := by rw [Go.Lib.cell_of_heap h1.blk]; rfl
  go_wp2_with (at_builtin; refine wpList_append_str rfl _ _ 53 9 rfl B tU8 i0 Tryd.underlying53 Tryd.underlying9 hi hz0 hz1 hz2 _ _ _ rfl h1.row ⟨s.toArray⟩ rfl ?c3 ?c4 ?c5 ?_)
  case c3 => rw [hsz]; unfold maxLen; omega
  case c4 => rw [hsz]; omega
  case c5 => omega
  intro v' w2 hown' hgrow hnew
  have hlt : b < w1.heap.size := (Array.getElem?_eq_some_iff.1 h1.blk).1
  have hb2 : w2.heap[b]? = some (.cells #[.pointer (some ⟨b, 0, none⟩), sl] tBd (0, 0)) := by
    rw [hgrow.block b hlt (fun e => h1.apart e.symm)]
    exact h1.blk
  have d0 : w2.cell? ⟨b, 0, none⟩ = some (.pointer (some ⟨b, 0, none⟩)) := by rw [Go.Lib.cell_of_heap hb2]; rfl
  have d1 : w2.cell? ⟨b, 1, none⟩ = some sl := by rw [Go.Lib.cell_of_heap hb2]; rfl
  have f1 : w2.frozen? ⟨b, 1, none⟩ = false := Go.Lib.frozen_of_heap hb2 1
  obtain ⟨ao, n', cap, rfl⟩ : ∃ ao n' cap, v' = .slice ao n' cap := by
    rcases hown'.2 with ⟨hv, _⟩ | ⟨g, cap, cur, hv, _⟩
    · exact ⟨_, _, _, hv⟩
    · exact ⟨_, _, _, hv⟩
  go_wp2
  go_ret2
  have hne := Go.Lib.ownBlock_ne hown' hb2 (by decide)
  refine ⟨rfl, ⟨_, ⟨h.base, ?_, .inr rfl, ?_, hne⟩, fun j hj => (hnew j hj).imp id fun h => by first | omega | (simp at h; omega)⟩, ?_, ?_, ?_, ?_, fun i hi hib hisl => ?_⟩
  · simp [World.setCell, Array.getElem?_modify, hb2]
  · have := hown'.kept (row := some b) (w' := w2.setCell ⟨b, 1, none⟩ (.slice ao n' cap)) ⟨rfl, rfl, rfl, by simp [World.setCell], fun k _ hk => Below.heap_setCell _ _ _ _ (fun e => hk (by simp [e]))⟩ (Or.inr hne)
    rw [strCells_byte] at this
    simpa [Go.Lib.byteCells] using this
  · exact hgrow.os.trans ho1
  · exact hgrow.tape.trans ht1
  · exact hgrow.output.trans hp1
  · have := hgrow.size; simp [World.setCell]; omega
  · rw [Below.heap_setCell _ _ _ _ hib, hgrow.block i (by omega) hisl, hb1 i hib]

set_option maxHeartbeats 2000000 in
theorem writeByte_to {B b : Nat} {p sl : Value} {bs : Bs} (c : UInt8) {w : World} (h : BdAt B b p sl bs w) (hB : B ≤ w.heap.size) (hlen : bs.length + 1 ≤ 140737488355328) :
    Calls Tryd.prog 35 #[.pointer (some ⟨b, 0, none⟩), .int .u8 c.toNat] w fun e w' => e = .returned .nilIface ∧ BdTo B b sl (bs ++ [c]) w w' := by
  obtain ⟨i0, hi, hz0, hz1, hz2⟩ := info_parts infoU8
  go_enter Tryd.func35, Tryd.ntmps35
  go_wp2_with (go_at_call 49; refine (copyCheck_to h).mono ?_)
  rintro e w1 ⟨rfl, h1, ho1, ht1, hp1, hs1, hb1⟩
  have hs1a := Nat.le_of_eq hs1
  have hs1b := Nat.le_of_eq hs1.symm
  clear hs1
  have c0 : w1.cell? ⟨b, 0, none⟩ = some (.pointer (some ⟨b, 0, none⟩)) := by rw [Go.Lib.cell_of_heap h1.blk]; rfl
  have c1 : w1.cell? ⟨b, 1, none⟩ = some sl := by rw [Go.Lib.cell_of_heap h1.blk]; rfl
  go_wp2_with (at_builtin; refine wpList_append_one rfl _ _ 53 rfl B tU8 i0 (.int .u8 0) 1 1 Tryd.underlying53 hi hz0 hz1 hz2 rfl (by decide) _ _ _ rfl (h1.row.alloc _) ⟨w1.heap.size, 0, none⟩ 1 1 [.int .u8 c.toNat] rfl rfl ?c1 ?c2 ?c3 ?c4 ?c5 ?_)
  case c1 =>
    intro j u hj
    match j, hj with
    | 0, hj => simp at hj; subst hj; simp [Addr.add]
  case c2 => intro u hu; simp at hu; subst hu; rfl
  case c3 => unfold maxLen; omega
  case c4 => omega
  case c5 => simp; omega
  intro v' w2 hown' hgrow hnew
  have hlt : b < w1.heap.size := (Array.getElem?_eq_some_iff.1 h1.blk).1
  have hb2 : w2.heap[b]? = some (.cells #[.pointer (some ⟨b, 0, none⟩), sl] tBd (0, 0)) := by
    rw [hgrow.block b (by simp; omega) (fun e => h1.apart e.symm), Go.Lib.alloc_old w1 _ b hlt]
    exact h1.blk
  have d0 : w2.cell? ⟨b, 0, none⟩ = some (.pointer (some ⟨b, 0, none⟩)) := by rw [Go.Lib.cell_of_heap hb2]; rfl
  have d1 : w2.cell? ⟨b, 1, none⟩ = some sl := by rw [Go.Lib.cell_of_heap hb2]; rfl
  have f1 : w2.frozen? ⟨b, 1, none⟩ = false := Go.Lib.frozen_of_heap hb2 1
  obtain ⟨g, cap, rfl⟩ : ∃ g cap, v' = .slice (some ⟨g, 0, none⟩) (bs.length + 1) cap := by
    rcases hown'.2 with ⟨_, h0⟩ | ⟨g, cap, cur, hv, _⟩
    · omega
    · exact ⟨g, cap, hv⟩
  go_wp2
  go_ret
  have hne := Go.Lib.ownBlock_ne hown' hb2 (by decide)
  refine ⟨rfl, ⟨_, ⟨h.base, ?_, .inr rfl, ?_, hne⟩, fun j hj => (hnew j hj).imp id fun h => by first | omega | (simp at h; omega)⟩, ?_, ?_, ?_, ?_, fun i hi hib hisl => ?_⟩
  · simp [World.setCell, Array.getElem?_modify, hb2]
  · have := hown'.kept (row := some b) (w' := w2.setCell ⟨b, 1, none⟩ (.slice (some ⟨g, 0, none⟩) (bs.length + 1) cap)) ⟨rfl, rfl, rfl, by simp [World.setCell], fun k _ hk => Below.heap_setCell _ _ _ _ (fun e => hk (by simp [e]))⟩ (Or.inr hne)
    simpa [Go.Lib.byteCells] using this
  · exact hgrow.os.trans ho1
  · exact hgrow.tape.trans ht1
  · exact hgrow.output.trans hp1
  · have := hgrow.size; simp [World.setCell]; simp at this; omega
  · rw [Below.heap_setCell _ _ _ _ hib, hgrow.block i (by simp; omega) hisl, Go.Lib.alloc_old w1 _ i (by omega), hb1 i hib]
end AE
end Go.Proofs.YtblhndlmgibljaaDoor

/- AE: a call that is entered: its frame waits. -/
namespace Go.Proofs.YtblhndlmgibljaaDoor
open Go Go.RowKit
namespace AE

/-- What is called: the function, its arguments, the blocks. -/
def enterD (P : Program) [Lib P] (o : Option Stop) : FuncId × List Value × AS := (enterAt P o).getD (0, [], start)
/-- The state in which it begins. -/
def enterSt (P : Program) [Lib P] (o : Option Stop) : ASt := { sl := (setArgs 0 (enterD P o).2.1 .nil).getD .nil, ms := [], A := (enterD P o).2.2 }

theorem ostop_enterX {s1 : Sig} [Outer] {P : Program} [Lib P] {N B : Nat} {w0 : World} {Q : Exit → Act → World → Prop} {o : Option Stop} {fn : Func} {c : Code} (N' n : Nat) {Y : Type} (sgR : Y → Sig) (R : Y → Prop) (vR : Value) (bksR : List Bk) (sl2 sl3 : Sl) {obs : Obs}
    (h : (enterAt P o).isSome = true) (hf : P.funcs[(enterD P o).1]? = some fn) (hc : fn.body = some c) (hsl : (setArgs 0 (enterD P o).2.1 .nil).isSome = true) (hN : (enterD P o).2.1.length + (fn.ntmps - (enterD P o).2.1.length) = N') (hn : (enterD P o).2.2.n = n)
    (htr : trT n (stopSt o).sl sl2 = some obs) (hput : aput N sl2 (stopDst o) vR = some sl3) (hm : ∀ y, R y → Meet s1 (sgR y) obs)
    (hbody : ∀ φ a w, @Here s1 ⟨φ, n⟩ N' (enterSt P o) B w0 a w → c.wpIn (Fr none) 0 P (@EndX ⟨φ, n⟩ P fn N' B w0 (@RetS ⟨φ, n⟩ Y sgR R vR bksR B w0)) a w)
    (rest : ∀ y, R y → ∀ a w, @Here (sgR y) _ N { sl := sl3, ms := (stopSt o).ms, A := mkAS bksR } B w0 a w → wpListIn (Fr none) 0 P (stopOps o) (KQ P (stopKs o) Q) (stopRest o) a w) : @OStop s1 _ P N B w0 Q o := by
  subst hn
  letI := s1
  exact ostop_enter (sgR := sgR) (R := R) (vR := vR) (bksR := bksR) (some_getD h) (CallsS.of hf hc (some_getD hsl) hN hbody) htr hm hput rest
end AE
end Go.Proofs.YtblhndlmgibljaaDoor

/- AE, Bd: blocks of the call's own that the evaluator does not keep: variables that are made, calls that turn several of them, calls behind which all that is the call's own is forgotten. -/
namespace Go.Proofs.YtblhndlmgibljaaDoor
open Go Go.RowKit
namespace AE

/-- The blocks S are turned; what is known behind it. -/
structure TurnsS (B : Nat) (M M' : Mem) (S : Nat → Prop) (w w' : World) : Prop where
  known : ∀ i, S i → M i ≠ none ∧ B ≤ i
  os : w'.os = w.os
  tape : w'.tape = w.tape
  output : w'.output = w.output
  size : w.heap.size ≤ w'.heap.size
  block : ∀ i, i < w.heap.size → ¬ S i → w'.heap[i]? = w.heap[i]?
  imm : ∀ i o, M' i = some o → w'.heap[i]? = some o ∧ (M i ≠ none ∨ w.heap.size ≤ i ∨ i < B)

/-- What was known of memory beside the blocks S is known still. -/
def KeepsS (M M' : Mem) (S : Nat → Prop) : Prop := ∀ i o, M i = some o → ¬ S i → M' i = some o

theorem KeepsS.up {B : Nat} {W : World} {M M' : Mem} {S : Nat → Prop} (hk : KeepsS M M' S) (hB : ∀ i, S i → B ≤ i) (hWB : W.heap.size ≤ B) (hM : ∀ i o, heapOf W i = some o → M i = some o) : ∀ i o, heapOf W i = some o → M' i = some o := fun i o h =>
  hk i o (hM i o h) fun hi => by
    have h1 := hB i hi
    have h2 := (Array.getElem?_eq_some_iff.1 (show W.heap[i]? = some o from h)).1
    omega

theorem KeepsS.own {α : Type} {B : Nat} {M M' : Mem} {S : Nat → Prop} {e : TypeId} {k : Nat} {enc : α → List Value} {v : Value} {l : List α} (hk : KeepsS M M' S) (h : OArr B M e k enc v l) (hne : ∀ i, some i = obl v → ¬ S i) : OArr B M' e k enc v l :=
  h.mono (Nat.le_refl _) fun i hi o ho => hk i o ho (hne i hi)

theorem Here.turnsS [Outer] {M M' : Mem} {vals vals' : List Value} {S : Nat → Prop} {N B : Nat} {st : ASt} {w0 w w' : World} {a : Act} {sl : Sl} {l : List Bk} {obs : Obs} (htr : trAll st sl l = some obs) (hm : Meet (sgL M vals) (sgL M' vals') obs) (ht : TurnsS B M M' S w w') (hn : Outer.n0 ≤ l.length) (hc : SameC st.A l 0)
    (hh : @Here (sgL M vals) _ N st B w0 a w) : @Here (sgL M' vals') _ N { sl, ms := [], A := mkAS l } B w0 a w' :=
  Here.turn S htr hm (fun i hi => ht.known i hi) ⟨ht.os, ht.tape, ht.output, Nat.le_refl _⟩ ht.size (fun i hi hv => ht.block i hi hv) (fun i o hi => ht.imm i o hi) hn hc hh

/-- Memory behind a turn: whatever was known, or is new, or lies below B, as it is now. -/
def memW (B : Nat) (M : Mem) (w w' : World) : Mem := fun i => if (M i).isSome = true ∨ w.heap.size ≤ i ∨ i < B then w'.heap[i]? else none

theorem memW_at {B : Nat} {M : Mem} {w w' : World} {i : Nat} (h : (M i).isSome = true ∨ w.heap.size ≤ i ∨ i < B) : memW B M w w' i = w'.heap[i]? := by unfold memW; rw [if_pos h]

theorem turns_memW {B : Nat} {M : Mem} {S : Nat → Prop} {w w' : World} (hw : ∀ i o, M i = some o → w.heap[i]? = some o) (hS : ∀ i, S i → M i ≠ none ∧ B ≤ i) (hos : w'.os = w.os ∧ w'.tape = w.tape ∧ w'.output = w.output) (hsz : w.heap.size ≤ w'.heap.size)
    (hb : ∀ i, i < w.heap.size → ¬ S i → w'.heap[i]? = w.heap[i]?) : TurnsS B M (memW B M w w') S w w' ∧ KeepsS M (memW B M w w') S := by
  refine ⟨⟨hS, hos.1, hos.2.1, hos.2.2, hsz, hb, fun i o hi => ?_⟩, fun i o hi hv => ?_⟩
  · unfold memW at hi
    split at hi
    · rename_i h
      refine ⟨hi, ?_⟩
      rcases h with h | h | h
      · exact .inl fun h2 => by rw [h2] at h; cases h
      · exact .inr (.inl h)
      · exact .inr (.inr h)
    · cases hi
  · rw [memW_at (.inl (by rw [hi]; rfl)), hb i (Array.getElem?_eq_some_iff.1 (hw i o hi)).1 hv]
    exact hw i o hi

theorem known_lt {M : Mem} {w : World} (hw : ∀ i o, M i = some o → w.heap[i]? = some o) {i : Nat} (h : w.heap.size ≤ i) : M i = none := by
  cases hi : M i with
  | none => rfl
  | some o =>
    have := (Array.getElem?_eq_some_iff.1 (hw i o hi)).1
    omega

theorem truI [Sig] {P : Program} (n : Int) : FactOk P (.tru (.int .i64 n), .int .i64 n) :=
  fact_all rfl rfl rfl fun _ _ _ => rfl

/-- A call that turns blocks of the caller's own. -/
theorem bldOf {P : Program} {f : FuncId} {args : Array Value} {B : Nat} {M : Mem} {w : World} {vR r : Value} {vals2 : List Value} {S : Nat → Prop} {R : Mem → Prop} (hv : ∀ M', @interp (sgL M' vals2) vR = r)
    (h : Calls P f args w fun e' w' => e' = .returned r ∧ ∃ M', R M' ∧ TurnsS B M M' S w w') :
    Calls P f args w fun e' w' => ∃ (_ : Unit) (M' : Mem), e' = .returned (@interp (sgL M' vals2) vR) ∧ R M' ∧ TurnsS B M M' S w w' :=
  h.mono fun e w' he => by
    obtain ⟨rfl, M', h1, h2⟩ := he
    exact ⟨(), M', by rw [hv], h1, h2⟩

/- A VARIABLE IS MADE -/

/-- The variable that an evaluation stops at: it is made. -/
def allOf : Option Stop → Option TypeId
  | some (.oper o _ ops s _) => match o.op with
    | .alloc t => match aWanted ops o s.sl with
      | some true => some t
      | _ => none
    | _ => none
  | _ => none

theorem ostop_alloc [Outer] {P : Program} {N B : Nat} {w0 : World} {Q : Exit → Act → World → Prop} {M : Mem} {vals : List Value} {o : Option Stop} {t : TypeId} {z vR : Value} {vals2 : Nat → List Value} {sl2 sl3 : Sl} {bks : List Bk} {obs : Obs}
    (h : allOf o = some t) (hz : pureRun P (zeroValue t) = some z) (htr : trAll (stopSt o) sl2 bks = some obs) (hput : aput N sl2 (stopDst o) vR = some sl3) (hpl : plainS vR = true)
    (hm : ∀ M' g, Meet (sgL M vals) (sgL M' (vals2 g)) obs) (hv : ∀ M' g, @interp (sgL M' (vals2 g)) vR = .pointer (some ⟨g, 0, none⟩))
    (rest : ∀ M' g, B ≤ g → M g = none → M' g = some (.cells z.cells t (0, 0)) → Keeps M M' none → ∀ a' w, @Here (sgL M' (vals2 g)) _ N { sl := sl3, ms := [], A := mkAS bks } B w0 a' w → wpListIn (Fr none) 0 P (stopOps o) (KQ P (stopKs o) Q) (stopRest o) a' w)
    (hn : Outer.n0 ≤ bks.length := by first | exact Nat.zero_le _ | exact Nat.le_of_ble_eq_true rfl) (hc : SameC (stopSt o).A bks 0 := by exact sameC_none rfl) : @OStop (sgL M vals) _ P N B w0 Q o := by
  letI := sgL M vals
  unfold allOf at h
  split at h
  · rename_i op r ops s ks
    refine ⟨_, rfl, fun a w hh => ?_⟩
    split at h
    · rename_i t' hop
      split at h
      · rename_i hwt
        cases h
        have hh0 := hh
        obtain ⟨⟨φ, ds, h1, h2, h3, h4, _⟩, h5, h6⟩ := hh
        unfold wpListIn
        rw [wanted_spec h2.get hwt, if_pos rfl]
        have hw : ∀ i o, M i = some o → w.heap[i]? = some o := hh0.immW
        let w' : World := { w with heap := w.heap.push (.cells z.cells t) }
        have hrun : (execOp a.eval op).run P w = .ok (.value (.pointer (some ⟨w.heap.size, 0, none⟩))) w' := by
          unfold execOp
          rw [hop]
          show (do pure (Next.value (← Instr.alloc t true (.tuple #[]))) : Sem Next).run P w = _
          have ha : (Instr.alloc t true (.tuple #[])).run P w = .ok (.pointer (some ⟨w.heap.size, 0, none⟩)) w' := by
            unfold Instr.alloc
            refine run_pre hz ?_
            simp [newVar, newRow, newObj, Sem.run, w']
          simp only [Sem.run_bind, ha, Result.andThen_ok]
          rfl
        have hnd : ∀ c', op.op ≠ .defer c' := fun c' h => by rw [hop] at h; cases h
        refine ⟨fun _ _ => trivial, ?_⟩
        rw [Oper.semAt_eq _ _ _ hnd, hrun, Oper.uponIn_value]
        obtain ⟨q1, q2⟩ := turns_memTo (B := B) (M := M) (w := w) (w' := w') (T := none) (U := some w.heap.size) hw (fun i h => by cases h) (fun i hi => .inr (by cases hi; exact Nat.le_refl _)) ⟨rfl, rfl, rfl⟩ (Nat.le_refl _) (by simp [w']) (fun i hi _ => by
          show (w.heap.push _)[i]? = _
          rw [Array.getElem?_push, if_neg (by omega)])
        have hO : memTo M w' none (some w.heap.size) w.heap.size = some (.cells z.cells t (0, 0)) := by
          unfold memTo
          rw [if_pos rfl]
          show (w.heap.push _)[w.heap.size]? = _
          rw [Array.getElem?_push, if_pos rfl]
        have hh2 := Here.turns (vals' := vals2 w.heap.size) htr (hm _ _) q1 hn hc hh0
        letI := sgL (memTo M w' none (some w.heap.size)) (vals2 w.heap.size)
        have hh3 := Here.put (d := op.dst) hh2 (v := vR) hpl hput
        rw [hv] at hh3
        exact rest _ _ h6 (known_lt hw (Nat.le_refl _)) hO q2 _ w' hh3
      · cases h
    · cases h
  · cases h

/- CALLS -/

/-- The state in which a call is made. -/
def entSt (P : Program) [Lib P] (o : Option Stop) : ASt := { stopSt o with A := (enterD P o).2.2 }

theorem ostop_callV [Sig] [Outer] {P : Program} [Lib P] {N B : Nat} {w0 : World} {Q : Exit → Act → World → Prop} {o : Option Stop} {f : FuncId} {args : List Value} {R : World → Value → World → Prop} (h : (enterAt P o).isSome = true) (hf : (enterD P o).1 = f) (ha : (enterD P o).2.1 = args) (hp : plainSL args = true)
    (hcon : ∀ a w, Here N (entSt P o) B w0 a w → Calls P f ⟨interpL args⟩ w fun e w' => ∃ v, e = .returned v ∧ R w v w')
    (hK : ∀ a w v w', Here N (entSt P o) B w0 a w → R w v w' → wpListIn (Fr none) 0 P (stopOps o) (KQ P (stopKs o) Q) (stopRest o) (a.put (stopDst o) v) w') : OStop P N B w0 Q o := by
  have hd := some_getD (d := (0, [], start)) h
  change enterAt P o = some (enterD P o) at hd
  generalize he : enterD P o = d at hd hf ha
  obtain ⟨f0, args0, A1⟩ := d
  simp only at hf ha
  subst hf ha
  have hes : entSt P o = { stopSt o with A := A1 } := by unfold entSt; rw [he]
  rw [hes] at hcon hK
  unfold enterAt at hd
  split at hd
  · rename_i op r ops s ks
    split at hd
    · rename_i hw
      split at hd
      · rename_i f' args' A1' ha
        cases hd
        refine ⟨_, rfl, fun a w hh => ?_⟩
        obtain ⟨⟨φ, ds, h1, h2, h3, h4, h7⟩, h5, h6⟩ := hh
        unfold wpListIn
        rw [wanted_spec h2.get hw, if_pos rfl]
        obtain ⟨φ1, w1, n, g1, g2, g3⟩ := snd_aop h3 (evs_rel (gr_nil φ) h2.get) ha
        refine ⟨fun _ _ => trivial, ?_⟩
        letI : Facts P := ⟨[]⟩
        have ha' : aopF P (evs .nil s.sl) s.A op = some (.enter f0 args0, A1) := ha
        rw [Oper.semAt_eq _ _ _ (aop_no_defer ha'), g1]
        obtain ⟨args'', rfl, hargs⟩ := g2
        rw [Oper.uponIn_enter]
        refine ⟨fun h => absurd h (by simp [Fr, Fence.wide]), ?_⟩
        obtain ⟨k1, k2⟩ := step_below h4 g3 h6
        have hargs' : args'' = ⟨interpL args0⟩ := by
          obtain ⟨q1, q2⟩ := hargs
          obtain ⟨u⟩ := args''
          rw [VRel.eq_of_plainSL args0 u hp (by simpa using q1.symm) (fun i hi => by simpa using q2 i hi)]
        subst hargs'
        have hh1 : Here N { stopSt (some (.oper op r ops s ks)) with A := A1 } B w0 a w1 := ⟨⟨φ1, ds, h1.mono (g3.ext h3), h2.mono (g3.ext h3), g3.rel, k1, h7.step g3⟩, h5.trans k2, Nat.le_trans h6 g3.hsize⟩
        refine CallsIn.mono (callsIn_fr (hcon a w1 hh1)) fun e w2 he => ?_
        obtain ⟨v, rfl, hR⟩ := he
        exact hK a w1 v w2 hh1 hR
      · cases hd
    · cases hd
  · cases hd


theorem ostop_callS [Outer] {P : Program} [Lib P] {N B : Nat} {w0 : World} {Q : Exit → Act → World → Prop} {M : Mem} {vals : List Value} {o : Option Stop} {f : FuncId} {args : List Value} {vR : Value} {Y : Type} {vals2 : Y → List Value} {sl2 sl3 : Sl} {bks : List Bk} {obs : Obs} {S : Nat → Prop} {R : Y → Mem → Prop}
    (h : (enterAt P o).isSome = true) (hf : (enterD P o).1 = f) (ha : (enterD P o).2.1 = args) (hp : plainSL args = true) (htr : trAll (entSt P o) sl2 bks = some obs) (hput : aput N sl2 (stopDst o) vR = some sl3) (hpl : plainS vR = true)
    (hcon : ∀ w, (∀ i o, M i = some o → w.heap[i]? = some o) → B ≤ w.heap.size → Calls P f ⟨@interpL (sgL M vals) args⟩ w fun e w' => ∃ y M', e = .returned (@interp (sgL M' (vals2 y)) vR) ∧ R y M' ∧ TurnsS B M M' S w w')
    (hm : ∀ M' y, R y M' → Meet (sgL M vals) (sgL M' (vals2 y)) obs)
    (rest : ∀ M' y, R y M' → ∀ a' w, @Here (sgL M' (vals2 y)) _ N { sl := sl3, ms := [], A := mkAS bks } B w0 a' w → wpListIn (Fr none) 0 P (stopOps o) (KQ P (stopKs o) Q) (stopRest o) a' w)
    (hn : Outer.n0 ≤ bks.length := by first | exact Nat.zero_le _ | exact Nat.le_of_ble_eq_true rfl) (hc : SameC (entSt P o).A bks 0 := by exact sameC_none rfl) : @OStop (sgL M vals) _ P N B w0 Q o := by
  letI := sgL M vals
  refine ostop_callV (R := fun w v w' => ∃ y M', v = @interp (sgL M' (vals2 y)) vR ∧ R y M' ∧ TurnsS B M M' S w w') h hf ha hp (fun a w hh => (hcon w hh.immW hh.size).mono fun e w' he => ?_) fun a w v w' hh hR => ?_
  · obtain ⟨y, M', rfl, h1, h2⟩ := he
    exact ⟨_, rfl, y, M', rfl, h1, h2⟩
  · obtain ⟨y, M', rfl, h1, h2⟩ := hR
    have hh2 := Here.turnsS (vals' := vals2 y) htr (hm M' y h1) h2 hn hc hh
    exact rest M' y h1 _ w' (@Here.put (sgL M' (vals2 y)) _ _ _ _ _ _ _ _ _ _ hh2 hpl hput)

/-- All that is the call's own is forgotten. -/
theorem Here.forget [Outer] {s1 s2 : Sig} {N B : Nat} {st : ASt} {w0 w w' : World} {a : Act} {sl : Sl} {obs : Obs} (htr : trAll st sl [] = some obs) (hm : Meet s1 s2 obs) (hlow : Low B w w') (himm : ∀ i o, s2.imm i = some o → w'.heap[i]? = some o) (hn : Outer.n0 = 0) (hh : @Here s1 _ N st B w0 a w) :
    @Here s2 _ N { sl, ms := [], A := mkAS [] } B w0 a w' := by
  unfold trAll at htr
  split at htr
  · rename_i hms
    cases hok : asOk [] with
    | false => rw [hok] at htr; cases htr
    | true =>
      rw [hok, cond_true] at htr
      obtain ⟨x, y, hx, hy, rfl⟩ := both_some htr
      obtain ⟨⟨φ, ds, h1, h2, h3, h4, h7⟩, h5, h6⟩ := hh
      rw [hms] at h1
      cases h1
      have hno : ∀ b, cutE 0 φ b = none := fun b => by unfold cutE; rw [if_neg (Nat.not_lt_zero _)]
      refine ⟨⟨cutE 0 φ, [], .nil, ⟨@SR.size s1 _ _ _ _ _ h2, @SR.defers s1 _ _ _ _ _ h2, fun t v2 hv2 => trT_ok st.sl sl hx hm.left t v2 _ hv2 fun v1 hv1 => @SR.get s1 _ _ _ _ _ h2 t v1 hv1⟩, ⟨mkAS_wf hok, ?_, ?_, ?_, fun i o hi => ⟨himm i o hi, fun b e hb => ?_⟩⟩, fun b e hb => ?_, by rw [hn]; exact Nat.zero_le _, fun b hb => ?_⟩, h5.trans hlow, Nat.le_trans h6 hlow.size⟩
      · intro b e hb; rw [hno] at hb; cases hb
      · intro b e k b' e' k' hb; rw [hno] at hb; cases hb
      · intro b e k b' e' k' hb; rw [hno] at hb; cases hb
      · rw [hno] at hb; cases hb
      · rw [hno] at hb; cases hb
      · rw [hn] at hb; exact absurd hb (Nat.not_lt_zero _)
  · cases htr

theorem ostop_callF [Outer] {P : Program} [Lib P] {N B : Nat} {w0 : World} {Q : Exit → Act → World → Prop} {M : Mem} {vals : List Value} {o : Option Stop} {f : FuncId} {args : List Value} {vR : Value} {vals2 : List Value} {sl2 sl3 : Sl} {obs : Obs}
    (h : (enterAt P o).isSome = true) (hf : (enterD P o).1 = f) (ha : (enterD P o).2.1 = args) (hp : plainSL args = true) (htr : trAll (entSt P o) sl2 [] = some obs) (hput : aput N sl2 (stopDst o) vR = some sl3) (hpl : plainS vR = true)
    (hcon : ∀ w, (∀ i o, M i = some o → w.heap[i]? = some o) → B ≤ w.heap.size → Calls P f ⟨@interpL (sgL M vals) args⟩ w fun e w' => (∀ M', e = .returned (@interp (sgL M' vals2) vR)) ∧ Low B w w')
    (hm : ∀ M', Meet (sgL M vals) (sgL M' vals2) obs)
    (rest : ∀ M', (∀ i o, i < B → M i = some o → M' i = some o) → ∀ a' w, @Here (sgL M' vals2) _ N { sl := sl3, ms := [], A := mkAS [] } B w0 a' w → wpListIn (Fr none) 0 P (stopOps o) (KQ P (stopKs o) Q) (stopRest o) a' w)
    (hn : Outer.n0 = 0 := by rfl) : @OStop (sgL M vals) _ P N B w0 Q o := by
  letI := sgL M vals
  refine ostop_callV (R := fun w v w' => (∀ i o, M i = some o → w.heap[i]? = some o) ∧ (∀ M', v = @interp (sgL M' vals2) vR) ∧ Low B w w') h hf ha hp (fun a w hh => (hcon w hh.immW hh.size).mono fun e w' he => ?_) fun a w v w' hh hR => ?_
  · obtain ⟨h1, h2⟩ := he
    have hi := hh.immW
    refine ⟨@interp (sgL M vals2) vR, h1 M, hi, fun M' => ?_, h2⟩
    have e1 := (h1 M).symm.trans (h1 M')
    simpa using e1
  · obtain ⟨hi, h1, h2⟩ := hR
    let M' : Mem := fun i => if i < B then M i else none
    have hh2 := Here.forget (s2 := sgL M' vals2) htr (hm M') h2 (fun i o ho => by
      have ho' : M' i = some o := ho
      simp only [M'] at ho'
      split at ho'
      · rename_i hlt
        rw [h2.block i hlt]
        exact hi i o ho'
      · cases ho') hn hh
    have hh3 := @Here.put (sgL M' vals2) _ _ _ _ _ _ _ _ _ _ hh2 hpl hput
    rw [h1 M']
    exact rest M' (fun i o hlt ho => by simp only [M']; rw [if_pos hlt]; exact ho) _ w' hh3
end AE
end Go.Proofs.YtblhndlmgibljaaDoor

/- strings.Builder in the walks: a builder of one's own, by its bytes; what its calls do to known memory. -/
namespace Go.Proofs.YtblhndlmgibljaaDoor
open Go Go.Proofs Go.RowKit
set_option maxRecDepth 100000
namespace AE

/-- A row of bytes of one's own. -/
def rowM (B : Nat) (M : Mem) (v : Value) (bs : Bs) : Prop :=
  (v = .slice none 0 0 ∧ bs = []) ∨
  ∃ g cap cur, v = .slice (some ⟨g, 0, none⟩) bs.length cap ∧ B ≤ g ∧ M g = some (.cells cur tU8 (0, 0)) ∧ bs.length ≤ cap ∧ cap ≤ maxLen ∧ cur.size = cap * 1 ∧ cur.toList.take (bs.length * 1) = Go.Lib.byteCells bs

/-- A builder of one's own that holds these bytes. -/
def OBld (B : Nat) (M : Mem) (v : Value) (bs : Bs) : Prop :=
  ∃ b p sl, v = .pointer (some ⟨b, 0, none⟩) ∧ B ≤ b ∧ M b = some (.cells #[p, sl] tBd (0, 0)) ∧ (p = .pointer none ∨ p = .pointer (some ⟨b, 0, none⟩)) ∧ rowM B M sl bs ∧ sl.ownBlock ≠ some b

/-- Its blocks. -/
def bset (M : Mem) (v : Value) (i : Nat) : Prop := ∃ b p sl, v = .pointer (some ⟨b, 0, none⟩) ∧ M b = some (.cells #[p, sl] tBd (0, 0)) ∧ (i = b ∨ sl.ownBlock = some i)

theorem byteCells_len (bs : Bs) : (Go.Lib.byteCells bs).length = bs.length := by simp [Go.Lib.byteCells]

theorem rowM.row {B : Nat} {M : Mem} {v : Value} {bs : Bs} {w : World} (h : rowM B M v bs) (hw : ∀ i o, M i = some o → w.heap[i]? = some o) : w.ownsRow B tU8 1 v bs.length (Go.Lib.byteCells bs) := by
  refine ⟨by rw [byteCells_len, Nat.mul_one], ?_⟩
  rcases h with ⟨rfl, rfl⟩ | ⟨g, cap, cur, h1, h2, h3, h4⟩
  · exact .inl ⟨rfl, rfl⟩
  · exact .inr ⟨g, cap, cur, h1, h2, hw _ _ h3, h4⟩

theorem OBld.known {B : Nat} {M : Mem} {v : Value} {bs : Bs} (h : OBld B M v bs) : ∀ i, bset M v i → M i ≠ none ∧ B ≤ i := by
  intro i hi
  obtain ⟨b, p, sl, rfl, h1, h2, h3, h4, h5⟩ := h
  obtain ⟨b', p', sl', e1, e2, e3⟩ := hi
  cases e1
  rw [h2] at e2
  simp only [Option.some.injEq, Obj.cells.injEq, Array.mk.injEq, List.cons.injEq, and_true] at e2
  obtain ⟨rfl, rfl⟩ := e2
  rcases e3 with rfl | e3
  · exact ⟨by rw [h2]; simp, h1⟩
  · rcases h4 with ⟨rfl, _⟩ | ⟨g, cap, cur, rfl, g2, g3, _⟩
    · cases e3
    · cases e3
      exact ⟨by rw [g3]; simp, g2⟩

theorem OBld.fresh {B g : Nat} {M : Mem} (hB : B ≤ g) (h : M g = some (.cells #[.pointer none, .slice none 0 0] tBd (0, 0))) : OBld B M (.pointer (some ⟨g, 0, none⟩)) [] :=
  ⟨g, _, _, rfl, hB, h, .inl rfl, .inl ⟨rfl, rfl⟩, by simp [Value.ownBlock]⟩

theorem OBld.bdAt {B : Nat} {M : Mem} {v : Value} {bs : Bs} {w : World} (h : OBld B M v bs) (hw : ∀ i o, M i = some o → w.heap[i]? = some o) : ∃ b p sl, v = .pointer (some ⟨b, 0, none⟩) ∧ BdAt B b p sl bs w ∧ ∀ i, bset M v i ↔ (i = b ∨ sl.ownBlock = some i) := by
  obtain ⟨b, p, sl, rfl, h1, h2, h3, h4, h5⟩ := h
  refine ⟨b, p, sl, rfl, ⟨h1, hw _ _ h2, h3, h4.row hw, h5⟩, fun i => ⟨fun hi => ?_, fun hi => ⟨b, p, sl, rfl, h2, hi⟩⟩⟩
  obtain ⟨b', p', sl', e1, e2, e3⟩ := hi
  cases e1
  rw [h2] at e2
  simp only [Option.some.injEq, Obj.cells.injEq, Array.mk.injEq, List.cons.injEq, and_true] at e2
  obtain ⟨rfl, rfl⟩ := e2
  exact e3

theorem bld_to {B b : Nat} {M : Mem} {sl p : Value} {bs bs' : Bs} {w w' : World} (hw : ∀ i o, M i = some o → w.heap[i]? = some o) (h : OBld B M (.pointer (some ⟨b, 0, none⟩)) bs) (hs : ∀ i, bset M (.pointer (some ⟨b, 0, none⟩)) i ↔ (i = b ∨ sl.ownBlock = some i)) (ht : BdTo B b sl bs' w w') :
    OBld B (memW B M w w') (.pointer (some ⟨b, 0, none⟩)) bs' ∧ TurnsS B M (memW B M w w') (bset M (.pointer (some ⟨b, 0, none⟩))) w w' ∧ KeepsS M (memW B M w w') (bset M (.pointer (some ⟨b, 0, none⟩))) := by
  obtain ⟨sl', h1, h2⟩ := ht.dest
  have hk := h.known
  obtain ⟨q1, q2⟩ := turns_memW (B := B) (S := bset M (.pointer (some ⟨b, 0, none⟩))) hw hk ⟨ht.os, ht.tape, ht.output⟩ ht.size fun i hi hn => by
    rw [hs] at hn
    exact ht.block i hi (fun e => hn (.inl e)) fun e => hn (.inr e.symm)
  refine ⟨⟨b, _, sl', rfl, h1.base, ?_, .inr rfl, ?_, h1.apart⟩, q1, q2⟩
  · rw [memW_at (.inl (by have := (hk b ((hs b).2 (.inl rfl))).1; cases hM : M b <;> simp_all))]
    exact h1.blk
  · rcases h1.row.2 with ⟨rfl, h0⟩ | ⟨g, cap, cur, rfl, g1, g2, g3⟩
    · exact .inl ⟨rfl, List.eq_nil_of_length_eq_zero h0⟩
    · refine .inr ⟨g, cap, cur, rfl, g1, ?_, g3⟩
      rcases h2 g rfl with h3 | h3
      · rw [memW_at (.inl (by have := (hk g ((hs g).2 (.inr h3))).1; cases hM : M g <;> simp_all))]
        exact g2
      · rw [memW_at (.inr (.inl h3))]
        exact g2

/-- WriteString, where memory is known by M. -/
theorem con_writeString {B : Nat} {M : Mem} {v : Value} {bs bs' s : Bs} {w : World} (hO : OBld B M v bs) (hw : ∀ i o, M i = some o → w.heap[i]? = some o) (hB : B ≤ w.heap.size) (hb : bs' = bs ++ s) (hlen : bs.length + s.length ≤ 140737488355328) :
    Calls Tryd.prog 32 #[v, strV s] w fun e w' => e = .returned (.tuple #[.int .i64 s.length, .nilIface]) ∧ ∃ M', (OBld B M' v bs' ∧ KeepsS M M' (bset M v)) ∧ TurnsS B M M' (bset M v) w w' := by
  subst hb
  obtain ⟨b, p, sl, rfl, h1, h2⟩ := hO.bdAt hw
  refine (writeString_to s h1 hB hlen).mono fun e w' he => ?_
  obtain ⟨rfl, ht⟩ := he
  obtain ⟨q1, q2, q3⟩ := bld_to (p := p) hw hO h2 ht
  exact ⟨rfl, _, ⟨q1, q3⟩, q2⟩

/-- WriteByte. -/
theorem con_writeByte {B : Nat} {M : Mem} {v : Value} {bs bs' : Bs} (c : UInt8) {w : World} (hO : OBld B M v bs) (hw : ∀ i o, M i = some o → w.heap[i]? = some o) (hB : B ≤ w.heap.size) (hb : bs' = bs ++ [c]) (hlen : bs.length + 1 ≤ 140737488355328) :
    Calls Tryd.prog 35 #[v, .int .u8 c.toNat] w fun e w' => e = .returned .nilIface ∧ ∃ M', (OBld B M' v bs' ∧ KeepsS M M' (bset M v)) ∧ TurnsS B M M' (bset M v) w w' := by
  subst hb
  obtain ⟨b, p, sl, rfl, h1, h2⟩ := hO.bdAt hw
  refine (writeByte_to c h1 hB hlen).mono fun e w' he => ?_
  obtain ⟨rfl, ht⟩ := he
  obtain ⟨q1, q2, q3⟩ := bld_to (p := p) hw hO h2 ht
  exact ⟨rfl, _, ⟨q1, q3⟩, q2⟩

theorem KeepsS.bld {B : Nat} {M M' : Mem} {S : Nat → Prop} {v : Value} {bs : Bs} (hk : KeepsS M M' S) (h : OBld B M v bs) (hne : ∀ i, bset M v i → ¬ S i) : OBld B M' v bs := by
  obtain ⟨b, p, sl, rfl, h1, h2, h3, h4, h5⟩ := h
  have hb := hk _ _ h2 (hne b ⟨b, p, sl, rfl, h2, .inl rfl⟩)
  refine ⟨b, p, sl, rfl, h1, hb, h3, ?_, h5⟩
  rcases h4 with h4 | ⟨g, cap, cur, rfl, g1, g2, g3⟩
  · exact .inl h4
  · exact .inr ⟨g, cap, cur, rfl, g1, hk _ _ g2 (hne g ⟨b, p, _, rfl, h2, .inr rfl⟩), g3⟩
end AE
end Go.Proofs.YtblhndlmgibljaaDoor

/- The library's contracts at this program: strings.Builder's String, strconv's Itoa and Atoi, strings.Split. -/
namespace Go.Proofs.YtblhndlmgibljaaDoor
open Go Go.Proofs Go.Shelf Go.RowKit
set_option maxRecDepth 100000
def lays169_ren : Go.Shelf.Ren := ⟨fun | 169 => 36 | n => n, fun | 70 => 52 | 9 => 9 | 0 => 0 | 72 => 55 | 37 => 53 | 127 => 79 | 3 => 3 | 5 => 5 | n => n, fun | n => n⟩
theorem lays169 : Go.Proofs.Lays.n169 Tryd.prog lays169_ren := {
  mixed := by kernel_rfl
  f169 := Tryd.func36.trans (congrArg some (by kernel_rfl))
  t0 := Tryd.underlying0
  a0 := Tryd.isAgg0
  z0 := Tryd.sizeOf0
  v0 := Tryd.zeroValue0
  t3 := Tryd.underlying3
  a3 := Tryd.isAgg3
  z3 := Tryd.sizeOf3
  v3 := Tryd.zeroValue3
  t9 := Tryd.underlying9
  a9 := Tryd.isAgg9
  z9 := Tryd.sizeOf9
  v9 := Tryd.zeroValue9
  t37 := Tryd.underlying53
  a37 := Tryd.isAgg53
  z37 := Tryd.sizeOf53
  v37 := Tryd.zeroValue53
  t70 := Tryd.underlying52
  a70 := Tryd.isAgg52
  z70 := Tryd.sizeOf52
  v70 := Tryd.zeroValue52
  t72 := Tryd.underlying55
  a72 := Tryd.isAgg55
  z72 := Tryd.sizeOf55
  v72 := Tryd.zeroValue55
  t127 := Tryd.underlying79
  a127 := Tryd.isAgg79
  z127 := Tryd.sizeOf79
  v127 := Tryd.zeroValue79 }
theorem Builder_Extra_169 : Builder.Extra Tryd.prog lays169_ren := {
  sizeBuilder := by kernel_rfl
  liesBuilder := by kernel_rfl
  t5 := Tryd.underlying5
  a5 := Tryd.isAgg5
  z5 := Tryd.sizeOf5
  v5 := Tryd.zeroValue5
  infoByte := by kernel_rfl
  cellsByte := by kernel_rfl
  sizeByte := by kernel_rfl
  neB5 := by decide }
theorem Builder_String_any (B b : Nat) (l : List UInt8) (w : World) (h : Lib.IsBuilder 55 5 B b (Lib.byteCells l) w) (hBw : B ≤ w.heap.size) :
    Calls Tryd.prog 36 #[.pointer (some ⟨b, 0, none⟩)] w fun e w' => e = .returned (.string ⟨l.toArray⟩) ∧ Below B w w' := Any.Builder_String_any lays169 Builder_Extra_169 B b l w h hBw
def laysM171_ren : Go.Shelf.Ren := ⟨fun | 171 => 34 | 243 => 50 | 246 => 65 | 283 => 71 | 284 => 72 | 285 => 73 | 286 => 74 | 129 => 82 | 317 => 81 | 318 => 83 | 319 => 84 | 320 => 85 | 337 => 96 | 338 => 97 | n => n, fun | 3 => 3 | 9 => 9 | 2 => 2 | 4 => 4 | 171 => 97 | 0 => 0 | 53 => 98 | 37 => 53 | 5 => 5 | 173 => 101 | 212 => 109 | 51 => 110 | 20 => 20 | 213 => 111 | 46 => 112 | 232 => 133 | 233 => 134 | n => n, fun | 17 => 1 | 18 => 7 | 19 => 8 | n => n⟩
theorem laysM171 : Go.Proofs.LaysM.n171 Tryd.prog laysM171_ren := {
  mixed := by kernel_rfl
  f129 := Tryd.func82.trans (congrArg some (by kernel_rfl))
  f171 := Tryd.func34.trans (congrArg some (by kernel_rfl))
  f243 := Tryd.func50.trans (congrArg some (by kernel_rfl))
  f246 := Tryd.func65.trans (congrArg some (by kernel_rfl))
  f283 := Tryd.func71.trans (congrArg some (by kernel_rfl))
  f284 := Tryd.func72.trans (congrArg some (by kernel_rfl))
  f285 := Tryd.func73.trans (congrArg some (by kernel_rfl))
  f286 := Tryd.func74.trans (congrArg some (by kernel_rfl))
  f317 := Tryd.func81.trans (congrArg some (by kernel_rfl))
  f318 := Tryd.func83.trans (congrArg some (by kernel_rfl))
  f319 := Tryd.func84.trans (congrArg some (by kernel_rfl))
  f320 := Tryd.func85.trans (congrArg some (by kernel_rfl))
  f337 := Tryd.func96.trans (congrArg some (by kernel_rfl))
  f338 := Tryd.func97.trans (congrArg some (by kernel_rfl))
  t0 := Tryd.underlying0
  a0 := Tryd.isAgg0
  z0 := Tryd.sizeOf0
  v0 := Tryd.zeroValue0
  t2 := Tryd.underlying2
  a2 := Tryd.isAgg2
  z2 := Tryd.sizeOf2
  v2 := Tryd.zeroValue2
  t3 := Tryd.underlying3
  a3 := Tryd.isAgg3
  z3 := Tryd.sizeOf3
  v3 := Tryd.zeroValue3
  t4 := Tryd.underlying4
  a4 := Tryd.isAgg4
  z4 := Tryd.sizeOf4
  v4 := Tryd.zeroValue4
  t5 := Tryd.underlying5
  a5 := Tryd.isAgg5
  z5 := Tryd.sizeOf5
  v5 := Tryd.zeroValue5
  t9 := Tryd.underlying9
  a9 := Tryd.isAgg9
  z9 := Tryd.sizeOf9
  v9 := Tryd.zeroValue9
  t20 := Tryd.underlying20
  a20 := Tryd.isAgg20
  z20 := Tryd.sizeOf20
  v20 := Tryd.zeroValue20
  t37 := Tryd.underlying53
  a37 := Tryd.isAgg53
  z37 := Tryd.sizeOf53
  v37 := Tryd.zeroValue53
  t46 := Tryd.underlying112
  a46 := Tryd.isAgg112
  z46 := Tryd.sizeOf112
  v46 := Tryd.zeroValue112
  t51 := Tryd.underlying110
  a51 := Tryd.isAgg110
  z51 := Tryd.sizeOf110
  v51 := Tryd.zeroValue110
  t53 := Tryd.underlying98
  a53 := Tryd.isAgg98
  z53 := Tryd.sizeOf98
  v53 := Tryd.zeroValue98
  t171 := Tryd.underlying97
  a171 := Tryd.isAgg97
  z171 := Tryd.sizeOf97
  v171 := Tryd.zeroValue97
  t173 := Tryd.underlying101
  a173 := Tryd.isAgg101
  z173 := Tryd.sizeOf101
  v173 := Tryd.zeroValue101
  t212 := Tryd.underlying109
  a212 := Tryd.isAgg109
  z212 := Tryd.sizeOf109
  v212 := Tryd.zeroValue109
  t213 := Tryd.underlying111
  a213 := Tryd.isAgg111
  z213 := Tryd.sizeOf111
  t232 := Tryd.underlying133
  a232 := Tryd.isAgg133
  z232 := Tryd.sizeOf133
  v232 := Tryd.zeroValue133
  t233 := Tryd.underlying134
  a233 := Tryd.isAgg134
  z233 := Tryd.sizeOf134
  v233 := Tryd.zeroValue134
  g17 := by kernel_rfl
  g18 := by kernel_rfl
  g19 := by kernel_rfl
  i0 := by kernel_rfl
  i2 := by kernel_rfl
  i3 := by kernel_rfl
  i4 := by kernel_rfl
  i5 := by kernel_rfl
  i9 := by kernel_rfl
  i20 := by kernel_rfl
  i37 := by kernel_rfl
  i46 := by kernel_rfl
  i51 := by kernel_rfl
  i53 := by kernel_rfl
  i171 := by kernel_rfl
  i173 := by kernel_rfl
  i212 := by kernel_rfl
  i232 := by kernel_rfl
  i233 := by kernel_rfl
  m17 := by kernel_rfl
  m18 := by kernel_rfl
  m19 := by kernel_rfl }
open Go.RowKit Go.Sort Go.Lib in
theorem strconv_Itoa (n : Int) (h0 : -9223372036854775808 ≤ n) (h1 : n ≤ 9223372036854775807) (w : World) (htab : Lib.TabIs Tryd.prog w "internal/strconv.uint64pow10" .u64 Lib.pow10Tab) :
    Calls Tryd.prog 34 #[.int .i64 n] w fun e w' => e = .returned (.string ⟨(Lib.itoa n).toArray⟩) ∧ ∃ k os, w' = grow (w.drewN k) os := Any.strconv_Itoa laysM171 n h0 h1 w htab
def lays171_ren : Go.Shelf.Ren := ⟨fun | 171 => 34 | 243 => 50 | 246 => 65 | 283 => 71 | 284 => 72 | 285 => 73 | 286 => 74 | 129 => 82 | 317 => 81 | 318 => 83 | 319 => 84 | 320 => 85 | 337 => 96 | 338 => 97 | n => n, fun | 3 => 3 | 9 => 9 | 2 => 2 | 4 => 4 | 171 => 97 | 0 => 0 | 53 => 98 | 37 => 53 | 5 => 5 | 173 => 101 | 212 => 109 | 51 => 110 | 20 => 20 | 213 => 111 | 46 => 112 | 232 => 133 | 233 => 134 | n => n, fun | 17 => 1 | 18 => 7 | 19 => 8 | n => n⟩
theorem lays171 : Go.Proofs.Lays.n171 Tryd.prog lays171_ren := {
  mixed := by kernel_rfl
  f129 := Tryd.func82.trans (congrArg some (by kernel_rfl))
  f171 := Tryd.func34.trans (congrArg some (by kernel_rfl))
  f243 := Tryd.func50.trans (congrArg some (by kernel_rfl))
  f246 := Tryd.func65.trans (congrArg some (by kernel_rfl))
  f283 := Tryd.func71.trans (congrArg some (by kernel_rfl))
  f284 := Tryd.func72.trans (congrArg some (by kernel_rfl))
  f285 := Tryd.func73.trans (congrArg some (by kernel_rfl))
  f286 := Tryd.func74.trans (congrArg some (by kernel_rfl))
  f317 := Tryd.func81.trans (congrArg some (by kernel_rfl))
  f318 := Tryd.func83.trans (congrArg some (by kernel_rfl))
  f319 := Tryd.func84.trans (congrArg some (by kernel_rfl))
  f320 := Tryd.func85.trans (congrArg some (by kernel_rfl))
  f337 := Tryd.func96.trans (congrArg some (by kernel_rfl))
  f338 := Tryd.func97.trans (congrArg some (by kernel_rfl))
  t0 := Tryd.underlying0
  a0 := Tryd.isAgg0
  z0 := Tryd.sizeOf0
  v0 := Tryd.zeroValue0
  t2 := Tryd.underlying2
  a2 := Tryd.isAgg2
  z2 := Tryd.sizeOf2
  v2 := Tryd.zeroValue2
  t3 := Tryd.underlying3
  a3 := Tryd.isAgg3
  z3 := Tryd.sizeOf3
  v3 := Tryd.zeroValue3
  t4 := Tryd.underlying4
  a4 := Tryd.isAgg4
  z4 := Tryd.sizeOf4
  v4 := Tryd.zeroValue4
  t5 := Tryd.underlying5
  a5 := Tryd.isAgg5
  z5 := Tryd.sizeOf5
  v5 := Tryd.zeroValue5
  t9 := Tryd.underlying9
  a9 := Tryd.isAgg9
  z9 := Tryd.sizeOf9
  v9 := Tryd.zeroValue9
  t20 := Tryd.underlying20
  a20 := Tryd.isAgg20
  z20 := Tryd.sizeOf20
  v20 := Tryd.zeroValue20
  t37 := Tryd.underlying53
  a37 := Tryd.isAgg53
  z37 := Tryd.sizeOf53
  v37 := Tryd.zeroValue53
  t46 := Tryd.underlying112
  a46 := Tryd.isAgg112
  z46 := Tryd.sizeOf112
  v46 := Tryd.zeroValue112
  t51 := Tryd.underlying110
  a51 := Tryd.isAgg110
  z51 := Tryd.sizeOf110
  v51 := Tryd.zeroValue110
  t53 := Tryd.underlying98
  a53 := Tryd.isAgg98
  z53 := Tryd.sizeOf98
  v53 := Tryd.zeroValue98
  t171 := Tryd.underlying97
  a171 := Tryd.isAgg97
  z171 := Tryd.sizeOf97
  v171 := Tryd.zeroValue97
  t173 := Tryd.underlying101
  a173 := Tryd.isAgg101
  z173 := Tryd.sizeOf101
  v173 := Tryd.zeroValue101
  t212 := Tryd.underlying109
  a212 := Tryd.isAgg109
  z212 := Tryd.sizeOf109
  v212 := Tryd.zeroValue109
  t213 := Tryd.underlying111
  a213 := Tryd.isAgg111
  z213 := Tryd.sizeOf111
  t232 := Tryd.underlying133
  a232 := Tryd.isAgg133
  z232 := Tryd.sizeOf133
  v232 := Tryd.zeroValue133
  t233 := Tryd.underlying134
  a233 := Tryd.isAgg134
  z233 := Tryd.sizeOf134
  v233 := Tryd.zeroValue134
  g17 := by kernel_rfl
  g18 := by kernel_rfl
  g19 := by kernel_rfl }
open Go.RowKit Go.Sort Go.Lib in
theorem strconv_Itoa_small (i : Nat) (hi : i < 100) (w : World) :
    Calls Tryd.prog 34 #[.int .i64 i] w fun e w' => e = .returned (.string ⟨(Lib.decDigits i).toArray⟩) ∧ w' = w := Any.strconv_Itoa_small lays171 i hi w
def laysC172_ren : Go.Shelf.Ren := ⟨fun | 172 => 69 | 244 => 79 | 245 => 80 | 247 => 91 | 279 => 92 | 280 => 93 | 281 => 94 | 282 => 95 | 287 => 100 | 316 => 101 | 171 => 34 | 205 => 102 | 321 => 103 | 322 => 104 | 243 => 50 | 246 => 65 | 283 => 71 | 284 => 72 | 285 => 73 | 286 => 74 | 129 => 82 | 317 => 81 | 318 => 83 | 319 => 84 | 320 => 85 | 337 => 96 | 338 => 97 | n => n, fun | 9 => 9 | 3 => 3 | 75 => 57 | 76 => 58 | 4 => 4 | 5 => 5 | 167 => 114 | 37 => 53 | 0 => 0 | 85 => 115 | 2 => 2 | 168 => 117 | 53 => 98 | 175 => 127 | 46 => 112 | 210 => 131 | 127 => 79 | 145 => 138 | 143 => 136 | 21 => 21 | 171 => 97 | 173 => 101 | 212 => 109 | 51 => 110 | 20 => 20 | 213 => 111 | 232 => 133 | 233 => 134 | 80 => 65 | n => n, fun | 15 => 5 | 16 => 6 | 17 => 1 | 18 => 7 | 19 => 8 | n => n⟩
theorem laysC172 : Go.Proofs.LaysC.n172 Tryd.prog laysC172_ren := {
  mixed := by kernel_rfl
  f129 := Tryd.func82.trans (congrArg some (by kernel_rfl))
  f171 := Tryd.func34.trans (congrArg some (by kernel_rfl))
  f172 := Tryd.func69.trans (congrArg some (by kernel_rfl))
  f205 := Tryd.func102.trans (congrArg some (by kernel_rfl))
  f243 := Tryd.func50.trans (congrArg some (by kernel_rfl))
  f244 := Tryd.func79.trans (congrArg some (by kernel_rfl))
  f245 := Tryd.func80.trans (congrArg some (by kernel_rfl))
  f246 := Tryd.func65.trans (congrArg some (by kernel_rfl))
  f247 := Tryd.func91.trans (congrArg some (by kernel_rfl))
  f279 := Tryd.func92.trans (congrArg some (by kernel_rfl))
  f280 := Tryd.func93.trans (congrArg some (by kernel_rfl))
  f281 := Tryd.func94.trans (congrArg some (by kernel_rfl))
  f282 := Tryd.func95.trans (congrArg some (by kernel_rfl))
  f283 := Tryd.func71.trans (congrArg some (by kernel_rfl))
  f284 := Tryd.func72.trans (congrArg some (by kernel_rfl))
  f285 := Tryd.func73.trans (congrArg some (by kernel_rfl))
  f286 := Tryd.func74.trans (congrArg some (by kernel_rfl))
  f287 := Tryd.func100.trans (congrArg some (by kernel_rfl))
  f316 := Tryd.func101.trans (congrArg some (by kernel_rfl))
  f317 := Tryd.func81.trans (congrArg some (by kernel_rfl))
  f318 := Tryd.func83.trans (congrArg some (by kernel_rfl))
  f319 := Tryd.func84.trans (congrArg some (by kernel_rfl))
  f320 := Tryd.func85.trans (congrArg some (by kernel_rfl))
  f321 := Tryd.func103.trans (congrArg some (by kernel_rfl))
  f322 := Tryd.func104.trans (congrArg some (by kernel_rfl))
  f337 := Tryd.func96.trans (congrArg some (by kernel_rfl))
  f338 := Tryd.func97.trans (congrArg some (by kernel_rfl))
  t0 := Tryd.underlying0
  a0 := Tryd.isAgg0
  z0 := Tryd.sizeOf0
  v0 := Tryd.zeroValue0
  t2 := Tryd.underlying2
  a2 := Tryd.isAgg2
  z2 := Tryd.sizeOf2
  v2 := Tryd.zeroValue2
  t3 := Tryd.underlying3
  a3 := Tryd.isAgg3
  z3 := Tryd.sizeOf3
  v3 := Tryd.zeroValue3
  t4 := Tryd.underlying4
  a4 := Tryd.isAgg4
  z4 := Tryd.sizeOf4
  v4 := Tryd.zeroValue4
  t5 := Tryd.underlying5
  a5 := Tryd.isAgg5
  z5 := Tryd.sizeOf5
  v5 := Tryd.zeroValue5
  t9 := Tryd.underlying9
  a9 := Tryd.isAgg9
  z9 := Tryd.sizeOf9
  v9 := Tryd.zeroValue9
  t20 := Tryd.underlying20
  a20 := Tryd.isAgg20
  z20 := Tryd.sizeOf20
  v20 := Tryd.zeroValue20
  t21 := Tryd.underlying21
  a21 := Tryd.isAgg21
  z21 := Tryd.sizeOf21
  v21 := Tryd.zeroValue21
  t37 := Tryd.underlying53
  a37 := Tryd.isAgg53
  z37 := Tryd.sizeOf53
  v37 := Tryd.zeroValue53
  t46 := Tryd.underlying112
  a46 := Tryd.isAgg112
  z46 := Tryd.sizeOf112
  v46 := Tryd.zeroValue112
  t51 := Tryd.underlying110
  a51 := Tryd.isAgg110
  z51 := Tryd.sizeOf110
  v51 := Tryd.zeroValue110
  t53 := Tryd.underlying98
  a53 := Tryd.isAgg98
  z53 := Tryd.sizeOf98
  v53 := Tryd.zeroValue98
  t75 := Tryd.underlying57
  a75 := Tryd.isAgg57
  z75 := Tryd.sizeOf57
  v75 := Tryd.zeroValue57
  t76 := Tryd.underlying58
  a76 := Tryd.isAgg58
  z76 := Tryd.sizeOf58
  v76 := Tryd.zeroValue58
  t85 := Tryd.underlying115
  a85 := Tryd.isAgg115
  z85 := Tryd.sizeOf115
  v85 := Tryd.zeroValue115
  t127 := Tryd.underlying79
  a127 := Tryd.isAgg79
  z127 := Tryd.sizeOf79
  v127 := Tryd.zeroValue79
  t143 := Tryd.underlying136
  a143 := Tryd.isAgg136
  z143 := Tryd.sizeOf136
  v143 := Tryd.zeroValue136
  t145 := Tryd.underlying138
  a145 := Tryd.isAgg138
  z145 := Tryd.sizeOf138
  v145 := Tryd.zeroValue138
  t167 := Tryd.underlying114
  a167 := Tryd.isAgg114
  z167 := Tryd.sizeOf114
  v167 := Tryd.zeroValue114
  t168 := Tryd.underlying117
  a168 := Tryd.isAgg117
  z168 := Tryd.sizeOf117
  v168 := Tryd.zeroValue117
  t171 := Tryd.underlying97
  a171 := Tryd.isAgg97
  z171 := Tryd.sizeOf97
  v171 := Tryd.zeroValue97
  t173 := Tryd.underlying101
  a173 := Tryd.isAgg101
  z173 := Tryd.sizeOf101
  v173 := Tryd.zeroValue101
  t175 := Tryd.underlying127
  a175 := Tryd.isAgg127
  z175 := Tryd.sizeOf127
  v175 := Tryd.zeroValue127
  t210 := Tryd.underlying131
  a210 := Tryd.isAgg131
  z210 := Tryd.sizeOf131
  v210 := Tryd.zeroValue131
  t212 := Tryd.underlying109
  a212 := Tryd.isAgg109
  z212 := Tryd.sizeOf109
  v212 := Tryd.zeroValue109
  t213 := Tryd.underlying111
  a213 := Tryd.isAgg111
  z213 := Tryd.sizeOf111
  t232 := Tryd.underlying133
  a232 := Tryd.isAgg133
  z232 := Tryd.sizeOf133
  v232 := Tryd.zeroValue133
  t233 := Tryd.underlying134
  a233 := Tryd.isAgg134
  z233 := Tryd.sizeOf134
  v233 := Tryd.zeroValue134
  g15 := by kernel_rfl
  g16 := by kernel_rfl
  g17 := by kernel_rfl
  g18 := by kernel_rfl
  g19 := by kernel_rfl
  t80 := Tryd.underlying65
  a80 := Tryd.isAgg65
  z80 := Tryd.sizeOf65
  v80 := Tryd.zeroValue65
  i0 := by kernel_rfl
  i2 := by kernel_rfl
  i3 := by kernel_rfl
  i4 := by kernel_rfl
  i5 := by kernel_rfl
  i9 := by kernel_rfl
  i20 := by kernel_rfl
  i21 := by kernel_rfl
  i37 := by kernel_rfl
  i46 := by kernel_rfl
  i51 := by kernel_rfl
  i53 := by kernel_rfl
  i75 := by kernel_rfl
  i76 := by kernel_rfl
  i80 := by kernel_rfl
  i85 := by kernel_rfl
  i127 := by kernel_rfl
  i143 := by kernel_rfl
  i145 := by kernel_rfl
  i167 := by kernel_rfl
  i168 := by kernel_rfl
  i171 := by kernel_rfl
  i173 := by kernel_rfl
  i175 := by kernel_rfl
  i210 := by kernel_rfl
  i212 := by kernel_rfl
  i232 := by kernel_rfl
  i233 := by kernel_rfl
  m15 := by kernel_rfl
  m16 := by kernel_rfl
  m17 := by kernel_rfl
  m18 := by kernel_rfl
  m19 := by kernel_rfl
  c0 := by kernel_rfl
  c2 := by kernel_rfl
  c3 := by kernel_rfl
  c4 := by kernel_rfl
  c5 := by kernel_rfl
  c9 := by kernel_rfl
  c20 := by kernel_rfl
  c21 := by kernel_rfl
  c37 := by kernel_rfl
  c46 := by kernel_rfl
  c51 := by kernel_rfl
  c53 := by kernel_rfl
  c75 := by kernel_rfl
  c76 := by kernel_rfl
  c80 := by kernel_rfl
  c85 := by kernel_rfl
  c127 := by kernel_rfl
  c143 := by kernel_rfl
  c145 := by kernel_rfl
  c167 := by kernel_rfl
  c168 := by kernel_rfl
  c171 := by kernel_rfl
  c173 := by kernel_rfl
  c175 := by kernel_rfl
  c210 := by kernel_rfl
  c212 := by kernel_rfl
  c213 := by kernel_rfl
  c232 := by kernel_rfl
  c233 := by kernel_rfl }
theorem strconv_Atoi_ok (s : ByteArray) (hmax : s.size ≤ 9223372036854775806) (v : Int) (h : Lib.atoiAll s.data.toList = .ok v) (w : World) :
    Calls Tryd.prog 69 #[.string s] w fun e w' => e = .returned (.tuple #[.int .i64 v, .nilIface]) ∧ (w' = w ∨ ∃ t, w' = Lib.bytesWorld w 5 t) := Any.strconv_Atoi_ok laysC172 s hmax v h w
theorem strconv_Atoi_syntax (s : ByteArray) (hlim : s.size ≤ 281474976710656) (h : ∀ v, Lib.atoiAll s.data.toList = .ok v → False) (h2 : Lib.atoiAll s.data.toList = .range → False) (ev : Value) (w : World) (hv : w.cell? ⟨5, 0, none⟩ = some ev) (hev : ev = .nilIface ∨ ∃ te pe, ev = .iface te pe) :
    Calls Tryd.prog 69 #[.string s] w fun e w' => ∃ N, e = .returned (.tuple #[.int .i64 (0), .iface 117 (.pointer (some ⟨N, 0, none⟩))]) ∧ w.heap.size ≤ N ∧ w'.heap[N]? = some (.cells #[.string ⟨#[65, 116, 111, 105]⟩, .string s, ev] 131 (0, 0)) ∧ Below w.heap.size w w' :=
  Any.strconv_Atoi_syntax laysC172 s hlim (by
    cases hx : Lib.atoiAll s.data.toList with
    | ok v => exact (h v hx).elim
    | range => exact (h2 hx).elim
    | _ => rfl) ev w hv hev
theorem strconv_Atoi_range (s : ByteArray) (hlim : s.size ≤ 281474976710656) (h : Lib.atoiAll s.data.toList = .range) (ev : Value) (w : World) (hv : w.cell? ⟨6, 0, none⟩ = some ev) (hev : ev = .nilIface ∨ ∃ te pe, ev = .iface te pe) :
    Calls Tryd.prog 69 #[.string s] w fun e w' => ∃ N, e = .returned (.tuple #[.int .i64 (Lib.atoiSat s.data.toList), .iface 117 (.pointer (some ⟨N, 0, none⟩))]) ∧ w.heap.size ≤ N ∧ w'.heap[N]? = some (.cells #[.string ⟨#[65, 116, 111, 105]⟩, .string s, ev] 131 (0, 0)) ∧ Below w.heap.size w w' := Any.strconv_Atoi_range laysC172 s hlim h ev w hv hev
def lays146_ren : Go.Shelf.Ren := ⟨fun | 146 => 42 | 221 => 52 | 268 => 66 | 138 => 67 | 143 => 68 | 195 => 75 | 197 => 76 | 218 => 77 | 219 => 78 | 260 => 86 | 217 => 87 | 225 => 88 | 224 => 89 | 267 => 90 | 266 => 98 | 314 => 99 | n => n, fun | 9 => 9 | 31 => 68 | 3 => 3 | 4 => 4 | 0 => 0 | 105 => 103 | 21 => 21 | 5 => 5 | 46 => 112 | 119 => 121 | 139 => 124 | 138 => 123 | 146 => 125 | 51 => 110 | n => n, fun | 1 => 2 | 3 => 3 | 4 => 4 | n => n⟩
theorem lays146 : Go.Proofs.Lays.n146 Tryd.prog lays146_ren := {
  mixed := by kernel_rfl
  f138 := Tryd.func67.trans (congrArg some (by kernel_rfl))
  f143 := Tryd.func68.trans (congrArg some (by kernel_rfl))
  f146 := Tryd.func42.trans (congrArg some (by kernel_rfl))
  f195 := Tryd.func75.trans (congrArg some (by kernel_rfl))
  f197 := Tryd.func76.trans (congrArg some (by kernel_rfl))
  f217 := Tryd.func87.trans (congrArg some (by kernel_rfl))
  f218 := Tryd.func77.trans (congrArg some (by kernel_rfl))
  f219 := Tryd.func78.trans (congrArg some (by kernel_rfl))
  f221 := Tryd.func52.trans (congrArg some (by kernel_rfl))
  f224 := Tryd.func89.trans (congrArg some (by kernel_rfl))
  f225 := Tryd.func88.trans (congrArg some (by kernel_rfl))
  f260 := Tryd.func86.trans (congrArg some (by kernel_rfl))
  f266 := Tryd.func98.trans (congrArg some (by kernel_rfl))
  f267 := Tryd.func90.trans (congrArg some (by kernel_rfl))
  f268 := Tryd.func66.trans (congrArg some (by kernel_rfl))
  f314 := Tryd.func99.trans (congrArg some (by kernel_rfl))
  t0 := Tryd.underlying0
  a0 := Tryd.isAgg0
  z0 := Tryd.sizeOf0
  v0 := Tryd.zeroValue0
  t3 := Tryd.underlying3
  a3 := Tryd.isAgg3
  z3 := Tryd.sizeOf3
  v3 := Tryd.zeroValue3
  t4 := Tryd.underlying4
  a4 := Tryd.isAgg4
  z4 := Tryd.sizeOf4
  v4 := Tryd.zeroValue4
  t5 := Tryd.underlying5
  a5 := Tryd.isAgg5
  z5 := Tryd.sizeOf5
  v5 := Tryd.zeroValue5
  t9 := Tryd.underlying9
  a9 := Tryd.isAgg9
  z9 := Tryd.sizeOf9
  v9 := Tryd.zeroValue9
  t21 := Tryd.underlying21
  a21 := Tryd.isAgg21
  z21 := Tryd.sizeOf21
  v21 := Tryd.zeroValue21
  t31 := Tryd.underlying68
  a31 := Tryd.isAgg68
  z31 := Tryd.sizeOf68
  v31 := Tryd.zeroValue68
  t46 := Tryd.underlying112
  a46 := Tryd.isAgg112
  z46 := Tryd.sizeOf112
  v46 := Tryd.zeroValue112
  t51 := Tryd.underlying110
  a51 := Tryd.isAgg110
  z51 := Tryd.sizeOf110
  v51 := Tryd.zeroValue110
  t105 := Tryd.underlying103
  a105 := Tryd.isAgg103
  z105 := Tryd.sizeOf103
  v105 := Tryd.zeroValue103
  t119 := Tryd.underlying121
  a119 := Tryd.isAgg121
  z119 := Tryd.sizeOf121
  t138 := Tryd.underlying123
  a138 := Tryd.isAgg123
  z138 := Tryd.sizeOf123
  v138 := Tryd.zeroValue123
  t139 := Tryd.underlying124
  a139 := Tryd.isAgg124
  z139 := Tryd.sizeOf124
  v139 := Tryd.zeroValue124
  t146 := Tryd.underlying125
  a146 := Tryd.isAgg125
  z146 := Tryd.sizeOf125
  v146 := Tryd.zeroValue125
  g1 := by kernel_rfl
  g3 := by kernel_rfl
  g4 := by kernel_rfl }
open Go.RowKit Go.Lib in
theorem strings_Split (s sep : ByteArray) (m : Int) (w : World) (hs : s.size < 4294967281) (hm : w.cell? ⟨2, 0, none⟩ = some (.int .i64 m)) (h1 : 1 ≤ sep.size) :
    Calls Tryd.prog 42 #[.string s, .string sep] w fun e w' =>
      e = .returned (.slice (some ⟨w.heap.size, 0, none⟩) (Lib.countB s sep + 1) (Lib.countB s sep + 1)) ∧ w' = w.alloc (.cells ((Lib.splitB sep 0 (Lib.countB s sep) s).map Value.string).toArray 9) := Any.strings_Split lays146 (by kernel_rfl) s sep m w hs hm h1
def laysM146_ren : Go.Shelf.Ren := ⟨fun | 146 => 42 | 221 => 52 | 268 => 66 | 138 => 67 | 143 => 68 | 195 => 75 | 197 => 76 | 218 => 77 | 219 => 78 | 260 => 86 | 217 => 87 | 225 => 88 | 224 => 89 | 267 => 90 | 266 => 98 | 314 => 99 | n => n, fun | 9 => 9 | 31 => 68 | 3 => 3 | 4 => 4 | 0 => 0 | 105 => 103 | 21 => 21 | 5 => 5 | 46 => 112 | 119 => 121 | 139 => 124 | 138 => 123 | 146 => 125 | 51 => 110 | n => n, fun | 1 => 2 | 3 => 3 | 4 => 4 | n => n⟩
theorem laysM146 : Go.Proofs.LaysM.n146 Tryd.prog laysM146_ren := {
  mixed := by kernel_rfl
  f138 := Tryd.func67.trans (congrArg some (by kernel_rfl))
  f143 := Tryd.func68.trans (congrArg some (by kernel_rfl))
  f146 := Tryd.func42.trans (congrArg some (by kernel_rfl))
  f195 := Tryd.func75.trans (congrArg some (by kernel_rfl))
  f197 := Tryd.func76.trans (congrArg some (by kernel_rfl))
  f217 := Tryd.func87.trans (congrArg some (by kernel_rfl))
  f218 := Tryd.func77.trans (congrArg some (by kernel_rfl))
  f219 := Tryd.func78.trans (congrArg some (by kernel_rfl))
  f221 := Tryd.func52.trans (congrArg some (by kernel_rfl))
  f224 := Tryd.func89.trans (congrArg some (by kernel_rfl))
  f225 := Tryd.func88.trans (congrArg some (by kernel_rfl))
  f260 := Tryd.func86.trans (congrArg some (by kernel_rfl))
  f266 := Tryd.func98.trans (congrArg some (by kernel_rfl))
  f267 := Tryd.func90.trans (congrArg some (by kernel_rfl))
  f268 := Tryd.func66.trans (congrArg some (by kernel_rfl))
  f314 := Tryd.func99.trans (congrArg some (by kernel_rfl))
  t0 := Tryd.underlying0
  a0 := Tryd.isAgg0
  z0 := Tryd.sizeOf0
  v0 := Tryd.zeroValue0
  t3 := Tryd.underlying3
  a3 := Tryd.isAgg3
  z3 := Tryd.sizeOf3
  v3 := Tryd.zeroValue3
  t4 := Tryd.underlying4
  a4 := Tryd.isAgg4
  z4 := Tryd.sizeOf4
  v4 := Tryd.zeroValue4
  t5 := Tryd.underlying5
  a5 := Tryd.isAgg5
  z5 := Tryd.sizeOf5
  v5 := Tryd.zeroValue5
  t9 := Tryd.underlying9
  a9 := Tryd.isAgg9
  z9 := Tryd.sizeOf9
  v9 := Tryd.zeroValue9
  t21 := Tryd.underlying21
  a21 := Tryd.isAgg21
  z21 := Tryd.sizeOf21
  v21 := Tryd.zeroValue21
  t31 := Tryd.underlying68
  a31 := Tryd.isAgg68
  z31 := Tryd.sizeOf68
  v31 := Tryd.zeroValue68
  t46 := Tryd.underlying112
  a46 := Tryd.isAgg112
  z46 := Tryd.sizeOf112
  v46 := Tryd.zeroValue112
  t51 := Tryd.underlying110
  a51 := Tryd.isAgg110
  z51 := Tryd.sizeOf110
  v51 := Tryd.zeroValue110
  t105 := Tryd.underlying103
  a105 := Tryd.isAgg103
  z105 := Tryd.sizeOf103
  v105 := Tryd.zeroValue103
  t119 := Tryd.underlying121
  a119 := Tryd.isAgg121
  z119 := Tryd.sizeOf121
  t138 := Tryd.underlying123
  a138 := Tryd.isAgg123
  z138 := Tryd.sizeOf123
  v138 := Tryd.zeroValue123
  t139 := Tryd.underlying124
  a139 := Tryd.isAgg124
  z139 := Tryd.sizeOf124
  v139 := Tryd.zeroValue124
  t146 := Tryd.underlying125
  a146 := Tryd.isAgg125
  z146 := Tryd.sizeOf125
  v146 := Tryd.zeroValue125
  g1 := by kernel_rfl
  g3 := by kernel_rfl
  g4 := by kernel_rfl
  i0 := by kernel_rfl
  i3 := by kernel_rfl
  i4 := by kernel_rfl
  i5 := by kernel_rfl
  i9 := by kernel_rfl
  i21 := by kernel_rfl
  i31 := by kernel_rfl
  i46 := by kernel_rfl
  i51 := by kernel_rfl
  i105 := by kernel_rfl
  i138 := by kernel_rfl
  i139 := by kernel_rfl
  i146 := by kernel_rfl
  m1 := by kernel_rfl
  s1_3 := fun w h => Go.Proofs.cell_of_shapedOpen_int (zero := #[.int .i64 0]) (t := 3) h (of_decide_eq_true (by kernel_rfl)) (by kernel_rfl) rfl (by kernel_rfl) (by kernel_rfl) Tryd.underlying3
  m3 := by kernel_rfl
  m4 := by kernel_rfl }
open Go.RowKit Go.Lib in
theorem strings_Split_shaped (s sep : ByteArray) (w : World) (h : w.ShapedOpen Tryd.prog) (hs : s.size < 4294967281) (h1 : 1 ≤ sep.size) :
    Calls Tryd.prog 42 #[.string s, .string sep] w fun e w' =>
      e = .returned (.slice (some ⟨w.heap.size, 0, none⟩) (Lib.countB s sep + 1) (Lib.countB s sep + 1)) ∧ w' = w.alloc (.cells ((Lib.splitB sep 0 (Lib.countB s sep) s).map Value.string).toArray 9) := Any.strings_Split_shaped laysM146 s sep w h hs h1
end Go.Proofs.YtblhndlmgibljaaDoor

/- What is found in a table of materials: plain laws. -/
namespace Go.Proofs.YtblhndlmgibljaaDoor
open Go Go.Proofs Go.RowKit
namespace AE

/-- The material of a cell. -/
def atM (l : List Mt) (cell : Int) : Mt := if 0 ≤ cell ∧ cell < l.length then l.getD cell.toNat default else ([], false, false, false, 16, 0, 0, 0)
theorem atM_in {l : List Mt} {cell : Int} (h0 : 0 ≤ cell) (h1 : cell < l.length) : atM l cell = l.getD cell.toNat default := by unfold atM; rw [if_pos ⟨h0, h1⟩]
theorem atM_out {l : List Mt} {cell : Int} (h : ¬ (0 ≤ cell ∧ cell < l.length)) : atM l cell = ([], false, false, false, 16, 0, 0, 0) := by unfold atM; rw [if_neg h]

/-- A table is small. -/
def fewM (l : List Mt) : Prop := l.length ≤ 300 ∧ ∀ x ∈ l, x.1.length ≤ 60
instance (l : List Mt) : Decidable (fewM l) := by unfold fewM; infer_instance
theorem memGetM {l : List Mt} {i : Nat} (h : i < l.length) : l.getD i default ∈ l := by
  rw [List.getD_eq_getElem?_getD, List.getElem?_eq_getElem h]
  exact List.getElem_mem h
theorem getMemM {l : List Mt} {x : Mt} (h : x ∈ l) : ∃ i, i < l.length ∧ l.getD i default = x := by
  obtain ⟨i, hi, rfl⟩ := List.mem_iff_getElem.1 h
  exact ⟨i, hi, by rw [List.getD_eq_getElem?_getD, List.getElem?_eq_getElem hi]; rfl⟩
theorem fewM_long {l : List Mt} (h : 300 < l.length) : ¬ fewM l := fun hf => by have := hf.1; omega
theorem fewM_bad {l : List Mt} {i : Nat} (hi : i < l.length) (h : 60 < (l.getD i default).1.length) : ¬ fewM l := fun hf => by have := hf.2 _ (memGetM hi); omega
theorem fewM_ok {l : List Mt} (h : l.length ≤ 300) (h2 : ∀ j, j < l.length → (l.getD j default).1.length ≤ 60) : fewM l := ⟨h, fun x hx => by
  obtain ⟨i, hi, rfl⟩ := getMemM hx
  exact h2 i hi⟩

/-- The place of a name; -1 if there is none. -/
def idxN (l : List Mt) (name : Bs) : Int := match l.findIdx? (fun x => decide (x.1 = name)) with | some i => i | none => -1
theorem idxN_at {l : List Mt} {name : Bs} {i : Nat} (h : ∀ j, j < i → ¬ (l.getD j default).1 = name) (hi : i < l.length) (he : (l.getD i default).1 = name) : idxN l name = i := by
  unfold idxN
  rw [show l.findIdx? (fun x => decide (x.1 = name)) = some i from ?_]
  rw [List.findIdx?_eq_some_iff_getElem]
  rw [List.getD_eq_getElem?_getD, List.getElem?_eq_getElem hi] at he
  refine ⟨hi, by simpa using he, fun j hj => ?_⟩
  have := h j hj
  rw [List.getD_eq_getElem?_getD, List.getElem?_eq_getElem (by omega)] at this
  simpa using this
theorem idxN_none {l : List Mt} {name : Bs} (h : ∀ j, j < l.length → ¬ (l.getD j default).1 = name) : idxN l name = -1 := by
  unfold idxN
  rw [List.findIdx?_eq_none_iff.2 fun x hx => ?_]
  obtain ⟨i, hi, rfl⟩ := getMemM hx
  simpa using h i hi
theorem idxN_bound (l : List Mt) (name : Bs) : -1 ≤ idxN l name ∧ idxN l name < l.length := by
  unfold idxN
  cases h : l.findIdx? (fun x => decide (x.1 = name)) with
  | none => simp only; omega
  | some i =>
    rw [List.findIdx?_eq_some_iff_getElem] at h
    obtain ⟨hi, _⟩ := h
    simp only; omega
end AE
end Go.Proofs.YtblhndlmgibljaaDoor

/- What is checked of a table of materials: plain laws. -/
namespace Go.Proofs.YtblhndlmgibljaaDoor
open Go Go.Proofs Go.RowKit
namespace AE

/-- A letter. -/
def letP (r : Nat) : Bool := decide (97 ≤ r) && decide (r ≤ 122)
/-- What no name holds. -/
def badP (r : Nat) : Bool := !letP r && !decide (r = 45)
/-- A name, as the program reads it. -/
def nameP (s : Bs) : Prop := (0 < s.length ∧ s.length ≤ 32) ∧ ¬ (((s.getD 0 0).toNat : Nat) : Int) = 45 ∧ ¬ (((s.getD ((((s.length : Nat) : Int) - 1)).toNat 0).toNat : Nat) : Int) = 45 ∧ Lib.idxFunc badP true ⟨s.toArray⟩ < 0
instance (s : Bs) : Decidable (nameP s) := by unfold nameP; infer_instance

/- kinds: word, solid, liquid, falling -/
abbrev Kd := Bs × Bool × Bool × Bool
def encK (x : Kd) : List Value := [strV x.1, .bool x.2.1, .bool x.2.2.1, .bool x.2.2.2]
abbrev K.val (x : Kd) : Value := .agg ⟨encK x⟩
def kindM (x : Mt) : Kd :=
  if x.2.1 = true then (if x.2.2.1 = true then ([], false, false, false) else if x.2.2.2.1 = true then ([102, 97, 108, 108, 105, 110, 103], true, false, true) else ([115, 111, 108, 105, 100], true, false, false))
  else if x.2.2.1 = true then (if x.2.2.2.1 = true then ([], false, false, false) else ([108, 105, 113, 117, 105, 100], false, true, false))
  else if x.2.2.2.1 = true then ([], false, false, false) else ([103, 97, 115], false, false, false)
section
variable {x : Mt}
theorem kindM_gas (h0 : ¬ x.2.1 = true) (h1 : ¬ x.2.2.1 = true) (h2 : ¬ x.2.2.2.1 = true) : kindM x = ([103, 97, 115], false, false, false) := by unfold kindM; rw [if_neg h0, if_neg h1, if_neg h2]
theorem kindM_sol (h0 : x.2.1 = true) (h1 : ¬ x.2.2.1 = true) (h2 : ¬ x.2.2.2.1 = true) : kindM x = ([115, 111, 108, 105, 100], true, false, false) := by unfold kindM; rw [if_pos h0, if_neg h1, if_neg h2]
theorem kindM_fal (h0 : x.2.1 = true) (h1 : ¬ x.2.2.1 = true) (h2 : x.2.2.2.1 = true) : kindM x = ([102, 97, 108, 108, 105, 110, 103], true, false, true) := by unfold kindM; rw [if_pos h0, if_neg h1, if_pos h2]
theorem kindM_liq (h0 : ¬ x.2.1 = true) (h1 : x.2.2.1 = true) (h2 : ¬ x.2.2.2.1 = true) : kindM x = ([108, 105, 113, 117, 105, 100], false, true, false) := by unfold kindM; rw [if_neg h0, if_pos h1, if_neg h2]
theorem kindM_no1 (h0 : x.2.1 = true) (h1 : x.2.2.1 = true) : kindM x = ([], false, false, false) := by unfold kindM; rw [if_pos h0, if_pos h1]
theorem kindM_no2 (h0 : ¬ x.2.1 = true) (h2 : x.2.2.2.1 = true) : kindM x = ([], false, false, false) := by unfold kindM; rw [if_neg h0]; split <;> first | rfl | rw [if_pos h2]
end

/-- A material is valid. -/
def validM (x : Mt) : Prop := nameP x.1 ∧ ¬ (kindM x).1 = [] ∧ 1 ≤ x.2.2.2.2.1 ∧ x.2.2.2.2.1 ≤ 16 ∧ 0 ≤ x.2.2.2.2.2.1 ∧ x.2.2.2.2.2.1 ≤ 15 ∧ 0 ≤ x.2.2.2.2.2.2.1 ∧ x.2.2.2.2.2.2.1 ≤ 15 ∧ 0 ≤ x.2.2.2.2.2.2.2 ∧ x.2.2.2.2.2.2.2 ≤ 15
instance (x : Mt) : Decidable (validM x) := by unfold validM; infer_instance

def airM : Mt := ([97, 105, 114], false, false, false, 1, 0, 0, 0)
/-- The names ahead of a place. -/
def namesTo (l : List Mt) (i : Nat) : List Bs := (l.take i).map (·.1)
/-- What is wrong at a place. -/
def badAt (l : List Mt) (i : Nat) : Prop := ¬ validM (l.getD i default) ∨ (l.getD i default).1 ∈ namesTo l i
instance (l : List Mt) (i : Nat) : Decidable (badAt l i) := by unfold badAt; infer_instance
/-- What Check answers. -/
def chkM (l : List Mt) : Int × Int :=
  if 256 < l.length then (-1, 2) else if l.length = 0 then (-1, 1) else if ¬ l.getD 0 default = airM then (0, 1) else
  match (List.range l.length).find? (fun i => decide (badAt l i)) with
  | some i => (i, if validM (l.getD i default) then 10 else 1)
  | none => (0, 0)

section
variable {l : List Mt}
theorem chkM_long (h : 256 < l.length) : chkM l = (-1, 2) := by unfold chkM; rw [if_pos h]
theorem chkM_nil (h0 : ¬ 256 < l.length) (h : l.length = 0) : chkM l = (-1, 1) := by unfold chkM; rw [if_neg h0, if_pos h]
theorem chkM_air (h0 : ¬ 256 < l.length) (h1 : ¬ l.length = 0) (h : ¬ l.getD 0 default = airM) : chkM l = (0, 1) := by unfold chkM; rw [if_neg h0, if_neg h1, if_pos h]
theorem find_first {p : Nat → Bool} {n i : Nat} (hi : i < n) (h : ∀ j, j < i → p j = false) (hp : p i = true) : (List.range n).find? p = some i := by
  rw [List.find?_eq_some_iff_getElem]
  refine ⟨hp, i, by simpa using hi, by simp, fun j hj => ?_⟩
  simp [h j hj]
theorem chkM_bad {i : Nat} (h0 : ¬ 256 < l.length) (h1 : ¬ l.length = 0) (ha : l.getD 0 default = airM) (hi : i < l.length) (h : ∀ j, j < i → ¬ badAt l j) (hb : ¬ validM (l.getD i default)) : chkM l = ((i : Int), 1) := by
  unfold chkM
  rw [if_neg h0, if_neg h1, if_neg (fun h => h ha), find_first hi (fun j hj => decide_eq_false (h j hj)) (decide_eq_true (.inl hb))]
  simp only
  rw [if_neg hb]
theorem chkM_two {i : Nat} (h0 : ¬ 256 < l.length) (h1 : ¬ l.length = 0) (ha : l.getD 0 default = airM) (hi : i < l.length) (h : ∀ j, j < i → ¬ badAt l j) (hv : validM (l.getD i default)) (hb : (l.getD i default).1 ∈ namesTo l i) : chkM l = ((i : Int), 10) := by
  unfold chkM
  rw [if_neg h0, if_neg h1, if_neg (fun h => h ha), find_first hi (fun j hj => decide_eq_false (h j hj)) (decide_eq_true (.inr hb))]
  simp only
  rw [if_pos hv]
theorem chkM_ok (h0 : ¬ 256 < l.length) (h1 : ¬ l.length = 0) (ha : l.getD 0 default = airM) (h : ∀ j, j < l.length → ¬ badAt l j) : chkM l = (0, 0) := by
  unfold chkM
  rw [if_neg h0, if_neg h1, if_neg (fun h => h ha), List.find?_eq_none.2 fun j hj => by simpa using h j (by simpa using hj)]
theorem badAt_no {i : Nat} (hv : validM (l.getD i default)) (hb : ¬ (l.getD i default).1 ∈ namesTo l i) : ¬ badAt l i := fun h => h.elim (fun h => h hv) hb
theorem namesTo_zero : namesTo l 0 = [] := rfl
theorem namesTo_succ {i : Nat} (hi : i < l.length) : namesTo l (i + 1) = namesTo l i ++ [(l.getD i default).1] := by
  unfold namesTo
  rw [List.take_add_one, List.map_append, List.getElem?_eq_getElem hi, List.getD_eq_getElem?_getD, List.getElem?_eq_getElem hi]
  rfl
/-- A table that Check accepts. -/
theorem chkM_zero (h : (chkM l).2 = 0) : l.length ≤ 256 ∧ 0 < l.length ∧ l.getD 0 default = airM ∧ ∀ j, j < l.length → ¬ badAt l j := by
  unfold chkM at h
  split at h
  · cases h
  split at h
  · cases h
  split at h
  · cases h
  rename_i h0 h1 ha
  refine ⟨by omega, by omega, Classical.not_not.1 ha, fun j hj hb => ?_⟩
  split at h
  · simp only at h
    split at h <;> cases h
  · rename_i hn
    have := List.find?_eq_none.1 hn j (by simpa using hj)
    simp [hb] at this
theorem chkM_fst (l : List Mt) : -1 ≤ (chkM l).1 ∧ (chkM l).1 < l.length + 1 := by
  unfold chkM
  split
  · simp only; omega
  split
  · simp only; omega
  split
  · simp only; omega
  split
  · rename_i i hi
    have := List.mem_of_find?_eq_some hi
    simp at this
    simp only; omega
  · simp only; omega
end

/- the map of names in Check -/
theorem mapT1 : pureRun Tryd.prog (underlying 49) = some (.map 9 4) := by kernel_rfl
theorem mapT2 : pureRun Tryd.prog (underlying 9) = some .string := by kernel_rfl
theorem mapZ : pureRun Tryd.prog (zeroValue 4) = some (.bool false) := by kernel_rfl
theorem mapCk (b : Bool) (n : Bs) : pureRun Tryd.prog (Instr.checkKey b 10000 9 (strV n)) = some () := by kernel_rfl
end AE
end Go.Proofs.YtblhndlmgibljaaDoor

/- Tables that Check accepts: plain laws. -/
namespace Go.Proofs.YtblhndlmgibljaaDoor
open Go Go.Proofs Go.RowKit
namespace AE
section
variable {l : List Mt} {i : Nat} {name : Bs}
theorem uq_valid (hz : (chkM l).2 = 0) (hi : i < l.length) : validM (l.getD i default) ∧ ¬ (l.getD i default).1 ∈ namesTo l i := by
  have h := (chkM_zero hz).2.2.2 i hi
  unfold badAt at h
  exact ⟨Classical.byContradiction fun h1 => h (.inl h1), fun h1 => h (.inr h1)⟩
theorem uq_idx (hz : (chkM l).2 = 0) (hi : i < l.length) : idxN l (l.getD i default).1 = i := by
  refine idxN_at (fun j hj he => (uq_valid hz hi).2 ?_) hi rfl
  unfold namesTo
  rw [← he, List.mem_map]
  refine ⟨l.getD j default, ?_, rfl⟩
  rw [List.mem_iff_getElem?]
  exact ⟨j, by rw [List.getElem?_take, if_pos hj]; exact getSome (by omega)⟩
theorem uq_at (hi : i < l.length) : atM l ((i : Nat) : Int) = l.getD i default := by
  rw [atM_in (by omega) (by omega), Int.toNat_natCast]
theorem uqIdx (hz : (chkM l).2 = 0) (hi : i < l.length) (h : ¬ (max 0 (idxN l (l.getD i default).1)) = ((i : Nat) : Int)) : False := by
  rw [uq_idx hz hi] at h
  omega
theorem uqIs (hz : (chkM l).2 = 0) (hi : i < l.length) (h : ¬ (decide (0 ≤ idxN l (l.getD i default).1)) = true) : False := by
  rw [uq_idx hz hi] at h
  exact h (decide_eq_true (by omega))
theorem uqSL (hz : (chkM l).2 = 0) (hi : i < l.length) (h1 : (atM l ((i : Nat) : Int)).2.1 = true) (h2 : (atM l ((i : Nat) : Int)).2.2.1 = true) : False := by
  rw [uq_at hi] at h1 h2
  exact (uq_valid hz hi).1.2.1 (by rw [kindM_no1 h1 h2])
theorem uqFS (hz : (chkM l).2 = 0) (hi : i < l.length) (h1 : ¬ (atM l ((i : Nat) : Int)).2.1 = true) (h2 : (atM l ((i : Nat) : Int)).2.2.2.1 = true) : False := by
  rw [uq_at hi] at h1 h2
  exact (uq_valid hz hi).1.2.1 (by rw [kindM_no2 h1 h2])
theorem uqF1 (hz : (chkM l).2 = 0) (hi : i < l.length) (h : (atM l ((i : Nat) : Int)).2.2.2.2.1 < 1) : False := by
  rw [uq_at hi] at h
  have := (uq_valid hz hi).1.2.2.1
  omega
theorem uqF2 (hz : (chkM l).2 = 0) (hi : i < l.length) (h : 16 < (atM l ((i : Nat) : Int)).2.2.2.2.1) : False := by
  rw [uq_at hi] at h
  have := (uq_valid hz hi).1.2.2.2.1
  omega
theorem uqLen (hz : (chkM l).2 = 0) (h : ¬ 0 < ((l.length : Nat) : Int)) : False := by
  have := (chkM_zero hz).2.1
  omega
theorem uq0 (hz : (chkM l).2 = 0) : atM l 0 = airM := by
  have h := chkM_zero hz
  have := uq_at h.2.1
  rw [show ((0 : Nat) : Int) = 0 from rfl] at this
  rw [this, h.2.2.1]
theorem uq0S (hz : (chkM l).2 = 0) (h : (atM l 0).2.1 = true) : False := by rw [uq0 hz] at h; cases h
theorem uq0L (hz : (chkM l).2 = 0) (h : (atM l 0).2.2.1 = true) : False := by rw [uq0 hz] at h; cases h
theorem idxN_name (h : 0 ≤ idxN l name) : (l.getD (idxN l name).toNat default).1 = name := by
  unfold idxN at h ⊢
  cases hf : l.findIdx? (fun x => decide (x.1 = name)) with
  | none => rw [hf] at h; simp only at h; omega
  | some i =>
    rw [List.findIdx?_eq_some_iff_getElem] at hf
    obtain ⟨hi, h1, _⟩ := hf
    simp only [Int.toNat_natCast]
    rw [List.getD_eq_getElem?_getD, List.getElem?_eq_getElem hi]
    simpa using h1
theorem uqName (h3 : (decide (0 ≤ idxN l name)) = true) (h5 : ¬ (l.getD (((max 0 (idxN l name))).toNat) default).1 = name) : False := by
  have h := of_decide_eq_true h3
  rw [Int.max_eq_right h] at h5
  exact h5 (idxN_name h)
theorem uqLt (h3 : (decide (0 ≤ idxN l name)) = true) (h5 : ¬ (max 0 (idxN l name)) < ((l.length : Nat) : Int)) : False := by
  have h := of_decide_eq_true h3
  have := idxN_bound l name
  rw [Int.max_eq_right h] at h5
  omega
end
end AE
end Go.Proofs.YtblhndlmgibljaaDoor

/- What the reference reads of names and tables: plain laws. -/
namespace Go.Proofs.YtblhndlmgibljaaDoor
open Go Go.Proofs Go.RowKit
namespace AE

/-- A byte of a name. -/
def okByte (b : UInt8) : Prop := (97 ≤ b.toNat ∧ b.toNat ≤ 122) ∨ b.toNat = 45
theorem badP_byte {r : Nat} : badP r = true ↔ ¬ ((97 ≤ r ∧ r ≤ 122) ∨ r = 45) := by
  unfold badP letP
  simp only [Bool.and_eq_true, Bool.not_eq_true', Bool.and_eq_false_iff, decide_eq_false_iff_not]
  omega
theorem idxFrom_neg (s : ByteArray) : ∀ (f pos : Nat), s.size ≤ pos + f → (Lib.idxFuncFrom badP true s f pos < 0 ↔ ∀ i (h : i < s.size), pos ≤ i → okByte (s[i]'h))
  | 0, pos, hf => by
    unfold Lib.idxFuncFrom
    exact ⟨fun _ i h hp => by omega, fun _ => by omega⟩
  | f + 1, pos, hf => by
    unfold Lib.idxFuncFrom
    by_cases hp : pos < s.size
    · rw [if_pos hp]
      rcases Nat.lt_or_ge (s[pos]'hp).toNat 128 with ha | ha
      · rw [decode_ascii s pos hp ha]
        simp only
        by_cases hb : badP (s[pos]'hp).toNat = true
        · rw [if_pos hb]
          exact ⟨fun h => by omega, fun h => absurd (h pos hp (Nat.le_refl _)) (badP_byte.1 hb)⟩
        · rw [if_neg hb, idxFrom_neg s f (pos + 1) (by omega)]
          refine ⟨fun h i hi hpi => ?_, fun h i hi hpi => h i hi (by omega)⟩
          rcases Nat.lt_or_ge pos i with h1 | h1
          · exact h i hi h1
          · obtain rfl : i = pos := by omega
            exact Classical.byContradiction fun h2 => hb (badP_byte.2 h2)
      · have hd := (decode_high s pos hp ha).1
        rw [if_pos (badP_byte.2 (by omega))]
        refine ⟨fun h => by omega, fun h => ?_⟩
        have := h pos hp (Nat.le_refl _)
        unfold okByte at this
        omega
    · rw [if_neg hp]
      exact ⟨fun _ i h hpi => by omega, fun _ => by omega⟩
theorem idx_neg (l : Bs) : Lib.idxFunc badP true ⟨l.toArray⟩ < 0 ↔ ∀ i, i < l.length → okByte (l.getD i 0) := by
  unfold Lib.idxFunc
  rw [idxFrom_neg _ _ _ (by omega)]
  have hs : (⟨l.toArray⟩ : ByteArray).size = l.length := rfl
  have hg : ∀ i (h : i < (⟨l.toArray⟩ : ByteArray).size), ((⟨l.toArray⟩ : ByteArray)[i]'h) = l.getD i 0 := fun i h => by
    rw [List.getD_eq_getElem?_getD, List.getElem?_eq_getElem (by rw [← hs]; exact h)]
    rfl
  refine ⟨fun h i hi => ?_, fun h i hi _ => ?_⟩
  · rw [← hg i hi]; exact h i hi (Nat.zero_le _)
  · rw [hg]; exact h i hi

/-- A byte of a name at its place. -/
def goodAt (s : Bs) (j : Nat) : Prop := (97 ≤ (s.getD j 0).toNat ∧ (s.getD j 0).toNat ≤ 122) ∨ ((s.getD j 0).toNat = 45 ∧ 0 < j ∧ (j : Int) < (s.length : Int) - 1)
theorem goodAt_bad {s : Bs} {i : Nat} (hi : i < s.length) (h : ¬ goodAt s i) : ¬ nameP s := fun hn => by
  have h1 := (idx_neg s).1 hn.2.2.2 i hi
  unfold okByte at h1
  refine h ?_
  unfold goodAt
  rcases h1 with h1 | h1
  · exact .inl h1
  · refine .inr ⟨h1, ?_, ?_⟩
    · rcases Nat.eq_zero_or_pos i with h0 | h0
      · subst h0
        exact absurd (by omega) hn.2.1
      · exact h0
    · rcases Int.lt_or_le (i : Int) ((s.length : Int) - 1) with h0 | h0
      · exact h0
      · have h2 := hn.2.2.1
        rw [show (((s.length : Nat) : Int) - 1).toNat = i by omega] at h2
        exact absurd (by omega) h2
theorem goodAt_ok {s : Bs} (h1 : 0 < s.length) (h2 : s.length ≤ 32) (h : ∀ j, j < s.length → goodAt s j) : nameP s := by
  refine ⟨⟨h1, h2⟩, ?_, ?_, (idx_neg s).2 fun i hi => ?_⟩
  · have := h 0 h1
    unfold goodAt at this
    omega
  · have := h (((s.length : Nat) : Int) - 1).toNat (by omega)
    unfold goodAt at this
    omega
  · have := h i hi
    unfold goodAt at this
    unfold okByte
    omega
theorem kindM_yes1 {x : Mt} (h0 : ¬ x.2.1 = true) (h2 : ¬ x.2.2.2.1 = true) : ¬ (kindM x).1 = [] := by
  unfold kindM
  rw [if_neg h0, if_neg h2, if_neg h2]
  split <;> simp
theorem kindM_yes2 {x : Mt} (h0 : x.2.1 = true) (h1 : ¬ x.2.2.1 = true) : ¬ (kindM x).1 = [] := by
  unfold kindM
  rw [if_pos h0, if_neg h1]
  split <;> simp

section
variable {l k : List Mt} {i : Nat}
theorem idxN_in (hi : i < l.length) : 0 ≤ idxN l (l.getD i default).1 ∧ idxN l (l.getD i default).1 ≤ i := by
  unfold idxN
  cases hf : l.findIdx? (fun x => decide (x.1 = (l.getD i default).1)) with
  | none =>
    rw [List.findIdx?_eq_none_iff] at hf
    have := hf _ (memGetM hi)
    simp at this
  | some q =>
    rw [List.findIdx?_eq_some_iff_getElem] at hf
    obtain ⟨hq, _, hm⟩ := hf
    simp only
    refine ⟨by omega, ?_⟩
    rcases Nat.lt_or_ge i q with h | h
    · have := hm i h
      rw [List.getD_eq_getElem?_getD, List.getElem?_eq_getElem hi] at this
      simp at this
    · omega
theorem idx_before (hi : i < l.length) : (max 0 (idxN l (l.getD i default).1)) < ((i : Nat) : Int) ↔ (l.getD i default).1 ∈ namesTo l i := by
  have hb := idxN_in hi
  have hn := idxN_name hb.1
  rw [Int.max_eq_right hb.1]
  constructor
  · intro h
    unfold namesTo
    rw [List.mem_map]
    refine ⟨l.getD (idxN l (l.getD i default).1).toNat default, ?_, hn⟩
    rw [List.mem_iff_getElem?]
    refine ⟨(idxN l (l.getD i default).1).toNat, ?_⟩
    rw [List.getElem?_take, if_pos (by omega)]
    exact getSome (by omega)
  · intro h
    unfold namesTo at h
    rw [List.mem_map] at h
    obtain ⟨x, hx, he⟩ := h
    rw [List.mem_iff_getElem?] at hx
    obtain ⟨j, hj⟩ := hx
    rw [List.getElem?_take] at hj
    split at hj
    · rename_i hji
      have hjl : j < l.length := (List.getElem?_eq_some_iff.1 hj).1
      have hx : l.getD j default = x := by rw [List.getD_eq_getElem?_getD, hj]; rfl
      have := idxN_in hjl
      rw [hx, he] at this
      omega
    · cases hj
theorem eqM_all (hl : l.length = k.length) (h : ∀ j, j < l.length → l.getD j default = k.getD j default) : l = k := by
  refine List.ext_getElem hl fun j h1 h2 => ?_
  have := h j h1
  rw [List.getD_eq_getElem?_getD, List.getD_eq_getElem?_getD, List.getElem?_eq_getElem h1, List.getElem?_eq_getElem h2] at this
  exact this
end
end AE
end Go.Proofs.YtblhndlmgibljaaDoor

/- The names of materials: what isName answers. -/
namespace Go.Proofs.YtblhndlmgibljaaDoor
open Go Go.Proofs Go.Shelf Go.RowKit Go.Lib
set_option maxRecDepth 100000

def laysGw15_ren : Go.Shelf.Ren := ⟨fun | 15 => 62 | 20 => 70 | n => n, fun | 9 => 9 | 23 => 89 | 3 => 3 | 4 => 4 | 0 => 0 | 21 => 21 | n => n, fun | n => n⟩
theorem laysGw15 : Go.Proofs.LaysGw.n15 Tryd.prog laysGw15_ren := {
  mixed := by kernel_rfl
  f15 := Tryd.func62.trans (congrArg some (by kernel_rfl))
  f20 := Tryd.func70.trans (congrArg some (by kernel_rfl))
  t0 := Tryd.underlying0
  a0 := Tryd.isAgg0
  z0 := Tryd.sizeOf0
  v0 := Tryd.zeroValue0
  i0 := by kernel_rfl
  t3 := Tryd.underlying3
  a3 := Tryd.isAgg3
  z3 := Tryd.sizeOf3
  v3 := Tryd.zeroValue3
  i3 := by kernel_rfl
  t4 := Tryd.underlying4
  a4 := Tryd.isAgg4
  z4 := Tryd.sizeOf4
  v4 := Tryd.zeroValue4
  i4 := by kernel_rfl
  t9 := Tryd.underlying9
  a9 := Tryd.isAgg9
  z9 := Tryd.sizeOf9
  v9 := Tryd.zeroValue9
  i9 := by kernel_rfl
  t21 := Tryd.underlying21
  a21 := Tryd.isAgg21
  z21 := Tryd.sizeOf21
  v21 := Tryd.zeroValue21
  i21 := by kernel_rfl
  t23 := Tryd.underlying89
  a23 := Tryd.isAgg89
  z23 := Tryd.sizeOf89
  v23 := Tryd.zeroValue89
  i23 := by kernel_rfl }
theorem strings_IndexFunc (g : Nat) (lb : Array Value) (eg : ∀ args w, (callFunc g args).run Tryd.prog w = .ok (.enter g args) w) (p : Nat → Bool) (s : ByteArray) (w : World) (hp : PredAt Tryd.prog g lb encR p w) :
    Calls Tryd.prog 62 #[.string s, .func (.func g) #[] lb] w fun e w' => e = .returned (.int .i64 (Lib.idxFunc p true s)) ∧ Below w.heap.size w w' := Any.strings_IndexFunc laysGw15 g lb eg p s w hp

namespace AE
theorem letters_any (r : Nat) (W : World) : Calls Tryd.prog 61 #[encR r] W fun e w' => e = .returned (.bool (letP r)) ∧ ∃ q, w' = W.drewN q := by
  by_cases h1 : 97 ≤ r <;> by_cases h2 : r ≤ 122
  all_goals
    have z1 : (97 : Int) ≤ (r : Int) ↔ 97 ≤ r := by omega
    have z2 : (r : Int) ≤ 122 ↔ r ≤ 122 := by omega
    go_enter Tryd.func61, Tryd.ntmps61
    go_wp2
    all_goals first | (exfalso; omega) | (go_ret; exact ⟨by simp [letP, h1, h2], 0, rfl⟩)

set_option maxHeartbeats 4000000 in
theorem bad_at (w : World) (B off : Nat) (hB : B < w.heap.size) (hc : w.cell? ⟨B, off, none⟩ = some (.func (.func 61) #[] #[])) :
    PredAt Tryd.prog 63 #[.pointer (some ⟨B, off, none⟩)] encR badP w := fun W r hb => by
  have hc' : W.cell? ⟨B, off, none⟩ = some (.func (.func 61) #[] #[]) := (hb.cell (p := ⟨B, off, none⟩) hB).trans hc
  have hL := letters_any r W
  unfold FnGives
  cases h1 : letP r <;> by_cases z2 : (r : Int) = 45
  all_goals
    have h2 : r = 45 ↔ (r : Int) = 45 := by omega
    rw [h1] at hL
    go_enter Tryd.func63, Tryd.ntmps63
    go_wp2_with (go_at_call 61; refine hL.mono ?_; rintro e w' ⟨rfl, q, rfl⟩)
    all_goals first | (go_ret; exact ⟨by simp [badP, h1, h2, z2], q, rfl⟩) | omega


theorem boxF_not (g : FuncId) (u : Value) : plainS (boxF g u) = false := by unfold boxF; simp [plainS, plainSL]
theorem callIdxF [Sig] {x r : Value} {s : Bs} (hp : plainS x = true) (hr : plainS r = true) (ex : interp x = strV s) (er : interp r = .int .i64 (Lib.idxFunc badP true ⟨s.toArray⟩)) :
    CallFactR Tryd.prog (62, [x, boxF 63 (.func (.func 61) ⟨[]⟩ ⟨[]⟩)], r) := by
  intro w _ us ha
  match us, ha with
  | [a1, a2], ⟨h1, h2, _⟩ =>
    have e1 : a1 = strV s := by
      rcases h1 with ⟨_, h⟩ | ⟨g, u, B, off, h, _⟩
      · rw [h, ex]
      · rw [h, boxF_not] at hp; cases hp
    rcases h2 with ⟨h, _⟩ | ⟨g, u, B, off, h, _, e2, hB, hc⟩
    · rw [boxF_not] at h; cases h
    · unfold boxF at h
      simp only [Value.func.injEq, Fn.func.injEq, Array.mk.injEq, List.cons.injEq, Value.agg.injEq, and_true, true_and] at h
      obtain ⟨rfl, rfl⟩ := h
      subst e1 e2
      refine (strings_IndexFunc 63 #[.pointer (some ⟨B, off, none⟩)] (enters_of Tryd.func63 (by kernel_rfl) rfl) badP ⟨s.toArray⟩ w (bad_at w B off hB hc)).mono fun e w' ⟨he, hb⟩ => ?_
      exact ⟨_, he, fun φ => by rw [← er]; exact VRel.of_plainS φ r hr, ⟨hb, Nat.le_refl _⟩⟩
  | [], h => exact h.elim
  | [_], h => exact h.2.elim
  | _ :: _ :: _ :: _, h => exact h.2.2.elim
end AE
end Go.Proofs.YtblhndlmgibljaaDoor

/- the walks of isName and of -/
namespace Go.Proofs.YtblhndlmgibljaaDoor
open Go Go.Proofs Go.RowKit
set_option maxRecDepth 100000
namespace AE
namespace NameG
noncomputable def body : Code := (Tryd.f47.body).getD .skip
def N : Nat := 31
noncomputable abbrev at' (N : Nat) (F : List (FOp × Value)) (C : List (FuncId × List Value × Value)) (c : Code) (s : ASt) : Option Stop := evalTo Tryd.prog F C N 1000 10 c s
noncomputable abbrev leave' (N : Nat) (F : List (FOp × Value)) (C : List (FuncId × List Value × Value)) (ks : List KI) (o : Option Stop) : Option Stop := evalLeave Tryd.prog F C N 1000 10 ks o
noncomputable abbrev unr' (N : Nat) (F : List (FOp × Value)) (C : List (FuncId × List Value × Value)) (m : Nat) (o : Option Stop) : Option Stop := evalUnroll Tryd.prog F C N 1000 10 m o
noncomputable abbrev res' (N : Nat) (F : List (FOp × Value)) (C : List (FuncId × List Value × Value)) (ks : List KI) (x : AX) (s : ASt) : Option Stop := evalRes Tryd.prog F C N 1000 10 ks x s
noncomputable abbrev ops' (N : Nat) (F : List (FOp × Value)) (C : List (FuncId × List Value × Value)) (r : List Oper) (ops : Array Oper) (ks : List KI) (s : ASt) : Option Stop := evalOps Tryd.prog F C N 1000 10 r ops ks s
def s0 : ASt := { sl := slots [(0, symv 0)], ms := [], A := start }
def F0 : List (FOp × Value) := [(.len #[9] 3 (symv 0), symv 1),
    (.bin .gtr 3 (symv 1) (.int .i64 0), .bool true),
    (.bin .leq 3 (symv 1) (.int .i64 32), .bool true),
    (.ix 9 (symv 0) (.int .i64 0), symv 2),
    (.bin .neq 5 (symv 2) (.int .u8 45), .bool false)]
def C0 : List (FuncId × List Value × Value) := []
theorem e0 : endVal Tryd.prog Tryd.f47 (at' 31 F0 C0 body s0) = some (.bool false) := by kernel_rfl
def F1 : List (FOp × Value) := [(.len #[9] 3 (symv 0), symv 1),
    (.bin .gtr 3 (symv 1) (.int .i64 0), .bool true),
    (.bin .leq 3 (symv 1) (.int .i64 32), .bool true),
    (.ix 9 (symv 0) (.int .i64 0), symv 2),
    (.bin .neq 5 (symv 2) (.int .u8 45), .bool true),
    (.bin .sub 3 (symv 1) (.int .i64 1), symv 3),
    (.ix 9 (symv 0) (symv 3), symv 4),
    (.bin .neq 5 (symv 4) (.int .u8 45), .bool false)]
def C1 : List (FuncId × List Value × Value) := []
theorem e1 : endVal Tryd.prog Tryd.f47 (at' 31 F1 C1 body s0) = some (.bool false) := by kernel_rfl
def F2 : List (FOp × Value) := [(.len #[9] 3 (symv 0), symv 1),
    (.bin .gtr 3 (symv 1) (.int .i64 0), .bool true),
    (.bin .leq 3 (symv 1) (.int .i64 32), .bool true),
    (.ix 9 (symv 0) (.int .i64 0), symv 2),
    (.bin .neq 5 (symv 2) (.int .u8 45), .bool true),
    (.bin .sub 3 (symv 1) (.int .i64 1), symv 3),
    (.ix 9 (symv 0) (symv 3), symv 4),
    (.bin .neq 5 (symv 4) (.int .u8 45), .bool true),
    (.bin .lss 3 (symv 5) (.int .i64 0), .bool true)]
def C2 : List (FuncId × List Value × Value) := [(62, [symv 0, .func (.func 63) ⟨[]⟩ ⟨[.agg ⟨[.slice none 7 7, .func (.func 61) ⟨[]⟩ ⟨[]⟩]⟩]⟩], symv 5)]
theorem e2 : endVal Tryd.prog Tryd.f47 (at' 31 F2 C2 body s0) = some (.bool true) := by kernel_rfl
def F3 : List (FOp × Value) := [(.len #[9] 3 (symv 0), symv 1),
    (.bin .gtr 3 (symv 1) (.int .i64 0), .bool true),
    (.bin .leq 3 (symv 1) (.int .i64 32), .bool true),
    (.ix 9 (symv 0) (.int .i64 0), symv 2),
    (.bin .neq 5 (symv 2) (.int .u8 45), .bool true),
    (.bin .sub 3 (symv 1) (.int .i64 1), symv 3),
    (.ix 9 (symv 0) (symv 3), symv 4),
    (.bin .neq 5 (symv 4) (.int .u8 45), .bool true),
    (.bin .lss 3 (symv 5) (.int .i64 0), .bool false)]
def C3 : List (FuncId × List Value × Value) := [(62, [symv 0, .func (.func 63) ⟨[]⟩ ⟨[.agg ⟨[.slice none 7 7, .func (.func 61) ⟨[]⟩ ⟨[]⟩]⟩]⟩], symv 5)]
theorem e3 : endVal Tryd.prog Tryd.f47 (at' 31 F3 C3 body s0) = some (.bool false) := by kernel_rfl
def F4 : List (FOp × Value) := [(.len #[9] 3 (symv 0), symv 1),
    (.bin .gtr 3 (symv 1) (.int .i64 0), .bool true),
    (.bin .leq 3 (symv 1) (.int .i64 32), .bool false)]
def C4 : List (FuncId × List Value × Value) := []
theorem e4 : endVal Tryd.prog Tryd.f47 (at' 31 F4 C4 body s0) = some (.bool false) := by kernel_rfl
def F5 : List (FOp × Value) := [(.len #[9] 3 (symv 0), symv 1),
    (.bin .gtr 3 (symv 1) (.int .i64 0), .bool false)]
def C5 : List (FuncId × List Value × Value) := []
theorem e5 : endVal Tryd.prog Tryd.f47 (at' 31 F5 C5 body s0) = some (.bool false) := by kernel_rfl
@[reducible] noncomputable def vL (s : Bs) : List Value := [strV s, .int .i64 ((s.length : Nat) : Int), .int .u8 (((s.getD 0 0).toNat : Nat) : Int), .int .i64 (((s.length : Nat) : Int) - 1), .int .u8 (((s.getD ((((s.length : Nat) : Int) - 1)).toNat 0).toNat : Nat) : Int), .int .i64 (Lib.idxFunc badP true ⟨s.toArray⟩)]
@[reducible] noncomputable def sg (M : Mem) (s : Bs) : Sig := sgL M (vL s)
set_option maxHeartbeats 4000000 in
theorem any (W : World) (s : Bs)  : Calls Tryd.prog 47 #[strV s] W fun e w' => e = .returned (.bool (decide (nameP s))) ∧ Low W.heap.size W w' := by
  refine @walk_enter (sg (heapOf W) s ) Tryd.prog 47 Tryd.f47 body [symv 0] (slots [(0, symv 0)]) N W _ Tryd.func47 (by kernel_rfl) (by kernel_rfl) (by kernel_rfl) (by kernel_rfl) (immW_sgL W _) fun a hh => ?_
  letI := (sg (heapOf W) s )
  by_cases h0 : 0 < ((s.length : Nat) : Int)
  · by_cases h1 : ((s.length : Nat) : Int) ≤ 32
    · by_cases h2 : (((s.getD 0 0).toNat : Nat) : Int) = 45
      · refine walk_to (F := F0) (T := C0) (fuel := 1000) (d := 10) mixed (allF_cons (FactOk.strLen rfl rfl underStr rfl rfl) (allF_cons (FactOk.bi rfl rfl rfl rfl rfl rfl (boolT (by omega))) (allF_cons (FactOk.bi rfl rfl rfl rfl rfl rfl (boolT (by omega))) (allF_cons (FactOk.strIx (l := s) (j := 0) (show 0 < s.length by omega) rfl rfl rfl underStr rfl rfl rfl) (allF_cons (FactOk.bi rfl rfl rfl rfl rfl rfl (nboolF (by omega))) allF_nil))))) allC_nil ?_ hh
        exact ostop_end e0 fun w2 hLow hIn => ⟨(by first | (rw [decide_eq_true (show nameP s from ⟨⟨by omega, by omega⟩, by assumption, by assumption, by assumption⟩)]; rfl) | (rw [decide_eq_false (fun h : nameP s => by have h1 := h.1; have h2 := h.2.1; have h3 := h.2.2.1; have h4 := h.2.2.2; first | omega | contradiction)]; rfl)), hLow⟩   -- returns .bool false
      · by_cases h3 : (((s.getD ((((s.length : Nat) : Int) - 1)).toNat 0).toNat : Nat) : Int) = 45
        · refine walk_to (F := F1) (T := C1) (fuel := 1000) (d := 10) mixed (allF_cons (FactOk.strLen rfl rfl underStr rfl rfl) (allF_cons (FactOk.bi rfl rfl rfl rfl rfl rfl (boolT (by omega))) (allF_cons (FactOk.bi rfl rfl rfl rfl rfl rfl (boolT (by omega))) (allF_cons (FactOk.strIx (l := s) (j := 0) (show 0 < s.length by omega) rfl rfl rfl underStr rfl rfl rfl) (allF_cons (FactOk.bi rfl rfl rfl rfl rfl rfl (nboolT (by omega))) (allF_cons (FactOk.bi rfl rfl rfl rfl rfl rfl (intI (by omega) (by omega) (by omega))) (allF_cons (FactOk.strIx (l := s) (j := ((((s.length : Nat) : Int) - 1)).toNat) (show ((((s.length : Nat) : Int) - 1)).toNat < s.length by omega) rfl rfl rfl underStr rfl (natI (by omega)) rfl) (allF_cons (FactOk.bi rfl rfl rfl rfl rfl rfl (nboolF (by omega))) allF_nil)))))))) allC_nil ?_ hh
          exact ostop_end e1 fun w2 hLow hIn => ⟨(by first | (rw [decide_eq_true (show nameP s from ⟨⟨by omega, by omega⟩, by assumption, by assumption, by assumption⟩)]; rfl) | (rw [decide_eq_false (fun h : nameP s => by have h1 := h.1; have h2 := h.2.1; have h3 := h.2.2.1; have h4 := h.2.2.2; first | omega | contradiction)]; rfl)), hLow⟩   -- returns .bool false
        · by_cases h4 : (Lib.idxFunc badP true ⟨s.toArray⟩) < 0
          · refine walk_to (F := F2) (T := C2) (fuel := 1000) (d := 10) mixed (allF_cons (FactOk.strLen rfl rfl underStr rfl rfl) (allF_cons (FactOk.bi rfl rfl rfl rfl rfl rfl (boolT (by omega))) (allF_cons (FactOk.bi rfl rfl rfl rfl rfl rfl (boolT (by omega))) (allF_cons (FactOk.strIx (l := s) (j := 0) (show 0 < s.length by omega) rfl rfl rfl underStr rfl rfl rfl) (allF_cons (FactOk.bi rfl rfl rfl rfl rfl rfl (nboolT (by omega))) (allF_cons (FactOk.bi rfl rfl rfl rfl rfl rfl (intI (by omega) (by omega) (by omega))) (allF_cons (FactOk.strIx (l := s) (j := ((((s.length : Nat) : Int) - 1)).toNat) (show ((((s.length : Nat) : Int) - 1)).toNat < s.length by omega) rfl rfl rfl underStr rfl (natI (by omega)) rfl) (allF_cons (FactOk.bi rfl rfl rfl rfl rfl rfl (nboolT (by omega))) (allF_cons (FactOk.bi rfl rfl rfl rfl rfl rfl (boolT (by omega))) allF_nil))))))))) (allC_consR (callIdxF rfl rfl rfl rfl) allC_nil) ?_ hh
            exact ostop_end e2 fun w2 hLow hIn => ⟨(by first | (rw [decide_eq_true (show nameP s from ⟨⟨by omega, by omega⟩, by assumption, by assumption, by assumption⟩)]; rfl) | (rw [decide_eq_false (fun h : nameP s => by have h1 := h.1; have h2 := h.2.1; have h3 := h.2.2.1; have h4 := h.2.2.2; first | omega | contradiction)]; rfl)), hLow⟩   -- returns .bool true
          · refine walk_to (F := F3) (T := C3) (fuel := 1000) (d := 10) mixed (allF_cons (FactOk.strLen rfl rfl underStr rfl rfl) (allF_cons (FactOk.bi rfl rfl rfl rfl rfl rfl (boolT (by omega))) (allF_cons (FactOk.bi rfl rfl rfl rfl rfl rfl (boolT (by omega))) (allF_cons (FactOk.strIx (l := s) (j := 0) (show 0 < s.length by omega) rfl rfl rfl underStr rfl rfl rfl) (allF_cons (FactOk.bi rfl rfl rfl rfl rfl rfl (nboolT (by omega))) (allF_cons (FactOk.bi rfl rfl rfl rfl rfl rfl (intI (by omega) (by omega) (by omega))) (allF_cons (FactOk.strIx (l := s) (j := ((((s.length : Nat) : Int) - 1)).toNat) (show ((((s.length : Nat) : Int) - 1)).toNat < s.length by omega) rfl rfl rfl underStr rfl (natI (by omega)) rfl) (allF_cons (FactOk.bi rfl rfl rfl rfl rfl rfl (nboolT (by omega))) (allF_cons (FactOk.bi rfl rfl rfl rfl rfl rfl (boolF (by omega))) allF_nil))))))))) (allC_consR (callIdxF rfl rfl rfl rfl) allC_nil) ?_ hh
            exact ostop_end e3 fun w2 hLow hIn => ⟨(by first | (rw [decide_eq_true (show nameP s from ⟨⟨by omega, by omega⟩, by assumption, by assumption, by assumption⟩)]; rfl) | (rw [decide_eq_false (fun h : nameP s => by have h1 := h.1; have h2 := h.2.1; have h3 := h.2.2.1; have h4 := h.2.2.2; first | omega | contradiction)]; rfl)), hLow⟩   -- returns .bool false
    · refine walk_to (F := F4) (T := C4) (fuel := 1000) (d := 10) mixed (allF_cons (FactOk.strLen rfl rfl underStr rfl rfl) (allF_cons (FactOk.bi rfl rfl rfl rfl rfl rfl (boolT (by omega))) (allF_cons (FactOk.bi rfl rfl rfl rfl rfl rfl (boolF (by omega))) allF_nil))) allC_nil ?_ hh
      exact ostop_end e4 fun w2 hLow hIn => ⟨(by first | (rw [decide_eq_true (show nameP s from ⟨⟨by omega, by omega⟩, by assumption, by assumption, by assumption⟩)]; rfl) | (rw [decide_eq_false (fun h : nameP s => by have h1 := h.1; have h2 := h.2.1; have h3 := h.2.2.1; have h4 := h.2.2.2; first | omega | contradiction)]; rfl)), hLow⟩   -- returns .bool false
  · refine walk_to (F := F5) (T := C5) (fuel := 1000) (d := 10) mixed (allF_cons (FactOk.strLen rfl rfl underStr rfl rfl) (allF_cons (FactOk.bi rfl rfl rfl rfl rfl rfl (boolF (by omega))) allF_nil)) allC_nil ?_ hh
    exact ostop_end e5 fun w2 hLow hIn => ⟨(by first | (rw [decide_eq_true (show nameP s from ⟨⟨by omega, by omega⟩, by assumption, by assumption, by assumption⟩)]; rfl) | (rw [decide_eq_false (fun h : nameP s => by have h1 := h.1; have h2 := h.2.1; have h3 := h.2.2.1; have h4 := h.2.2.2; first | omega | contradiction)]; rfl)), hLow⟩   -- returns .bool false
end NameG
namespace OfG
noncomputable def body : Code := (Tryd.f33.body).getD .skip
def N : Nat := 31
noncomputable abbrev at' (N : Nat) (F : List (FOp × Value)) (C : List (FuncId × List Value × Value)) (c : Code) (s : ASt) : Option Stop := evalTo Tryd.prog F C N 1000 10 c s
noncomputable abbrev leave' (N : Nat) (F : List (FOp × Value)) (C : List (FuncId × List Value × Value)) (ks : List KI) (o : Option Stop) : Option Stop := evalLeave Tryd.prog F C N 1000 10 ks o
noncomputable abbrev unr' (N : Nat) (F : List (FOp × Value)) (C : List (FuncId × List Value × Value)) (m : Nat) (o : Option Stop) : Option Stop := evalUnroll Tryd.prog F C N 1000 10 m o
noncomputable abbrev res' (N : Nat) (F : List (FOp × Value)) (C : List (FuncId × List Value × Value)) (ks : List KI) (x : AX) (s : ASt) : Option Stop := evalRes Tryd.prog F C N 1000 10 ks x s
noncomputable abbrev ops' (N : Nat) (F : List (FOp × Value)) (C : List (FuncId × List Value × Value)) (r : List Oper) (ops : Array Oper) (ks : List KI) (s : ASt) : Option Stop := evalOps Tryd.prog F C N 1000 10 r ops ks s
def s0 : ASt := { sl := slots [(0, .agg ⟨[symv 0, symv 1, symv 2, symv 3, symv 4, symv 5, symv 6, symv 7]⟩)], ms := [], A := start }
def F0 : List (FOp × Value) := [(.ld 78 (symv 1000000), .agg ⟨[strV [103, 97, 115], .bool false, .bool false, .bool false, strV [115, 111, 108, 105, 100], .bool true, .bool false, .bool false, strV [102, 97, 108, 108, 105, 110, 103], .bool true, .bool false, .bool true, strV [108, 105, 113, 117, 105, 100], .bool false, .bool true, .bool false]⟩),
    (.bin .eql 4 (.bool false) (symv 1), .bool false),
    (.bin .eql 4 (.bool true) (symv 1), .bool true),
    (.bin .eql 4 (.bool false) (symv 2), .bool false)]
def C0 : List (FuncId × List Value × Value) := []
theorem e0 : endVal Tryd.prog Tryd.f33 (at' 31 F0 C0 body s0) = some (.agg ⟨[strV [], .bool false, .bool false, .bool false]⟩) := by kernel_rfl
def F1 : List (FOp × Value) := [(.ld 78 (symv 1000000), .agg ⟨[strV [103, 97, 115], .bool false, .bool false, .bool false, strV [115, 111, 108, 105, 100], .bool true, .bool false, .bool false, strV [102, 97, 108, 108, 105, 110, 103], .bool true, .bool false, .bool true, strV [108, 105, 113, 117, 105, 100], .bool false, .bool true, .bool false]⟩),
    (.bin .eql 4 (.bool false) (symv 1), .bool false),
    (.bin .eql 4 (.bool true) (symv 1), .bool true),
    (.bin .eql 4 (.bool false) (symv 2), .bool true),
    (.bin .eql 4 (.bool false) (symv 3), .bool false),
    (.bin .eql 4 (.bool true) (symv 3), .bool true)]
def C1 : List (FuncId × List Value × Value) := []
theorem e1 : endVal Tryd.prog Tryd.f33 (at' 31 F1 C1 body s0) = some (.agg ⟨[strV [102, 97, 108, 108, 105, 110, 103], .bool true, .bool false, .bool true]⟩) := by kernel_rfl
def F2 : List (FOp × Value) := [(.ld 78 (symv 1000000), .agg ⟨[strV [103, 97, 115], .bool false, .bool false, .bool false, strV [115, 111, 108, 105, 100], .bool true, .bool false, .bool false, strV [102, 97, 108, 108, 105, 110, 103], .bool true, .bool false, .bool true, strV [108, 105, 113, 117, 105, 100], .bool false, .bool true, .bool false]⟩),
    (.bin .eql 4 (.bool false) (symv 1), .bool false),
    (.bin .eql 4 (.bool true) (symv 1), .bool true),
    (.bin .eql 4 (.bool false) (symv 2), .bool true),
    (.bin .eql 4 (.bool false) (symv 3), .bool true)]
def C2 : List (FuncId × List Value × Value) := []
theorem e2 : endVal Tryd.prog Tryd.f33 (at' 31 F2 C2 body s0) = some (.agg ⟨[strV [115, 111, 108, 105, 100], .bool true, .bool false, .bool false]⟩) := by kernel_rfl
def F3 : List (FOp × Value) := [(.ld 78 (symv 1000000), .agg ⟨[strV [103, 97, 115], .bool false, .bool false, .bool false, strV [115, 111, 108, 105, 100], .bool true, .bool false, .bool false, strV [102, 97, 108, 108, 105, 110, 103], .bool true, .bool false, .bool true, strV [108, 105, 113, 117, 105, 100], .bool false, .bool true, .bool false]⟩),
    (.bin .eql 4 (.bool false) (symv 1), .bool true),
    (.bin .eql 4 (.bool false) (symv 2), .bool false),
    (.bin .eql 4 (.bool true) (symv 1), .bool false),
    (.bin .eql 4 (.bool true) (symv 2), .bool true),
    (.bin .eql 4 (.bool false) (symv 3), .bool false)]
def C3 : List (FuncId × List Value × Value) := []
theorem e3 : endVal Tryd.prog Tryd.f33 (at' 31 F3 C3 body s0) = some (.agg ⟨[strV [], .bool false, .bool false, .bool false]⟩) := by kernel_rfl
def F4 : List (FOp × Value) := [(.ld 78 (symv 1000000), .agg ⟨[strV [103, 97, 115], .bool false, .bool false, .bool false, strV [115, 111, 108, 105, 100], .bool true, .bool false, .bool false, strV [102, 97, 108, 108, 105, 110, 103], .bool true, .bool false, .bool true, strV [108, 105, 113, 117, 105, 100], .bool false, .bool true, .bool false]⟩),
    (.bin .eql 4 (.bool false) (symv 1), .bool true),
    (.bin .eql 4 (.bool false) (symv 2), .bool false),
    (.bin .eql 4 (.bool true) (symv 1), .bool false),
    (.bin .eql 4 (.bool true) (symv 2), .bool true),
    (.bin .eql 4 (.bool false) (symv 3), .bool true)]
def C4 : List (FuncId × List Value × Value) := []
theorem e4 : endVal Tryd.prog Tryd.f33 (at' 31 F4 C4 body s0) = some (.agg ⟨[strV [108, 105, 113, 117, 105, 100], .bool false, .bool true, .bool false]⟩) := by kernel_rfl
def F5 : List (FOp × Value) := [(.ld 78 (symv 1000000), .agg ⟨[strV [103, 97, 115], .bool false, .bool false, .bool false, strV [115, 111, 108, 105, 100], .bool true, .bool false, .bool false, strV [102, 97, 108, 108, 105, 110, 103], .bool true, .bool false, .bool true, strV [108, 105, 113, 117, 105, 100], .bool false, .bool true, .bool false]⟩),
    (.bin .eql 4 (.bool false) (symv 1), .bool true),
    (.bin .eql 4 (.bool false) (symv 2), .bool true),
    (.bin .eql 4 (.bool false) (symv 3), .bool false),
    (.bin .eql 4 (.bool true) (symv 1), .bool false),
    (.bin .eql 4 (.bool true) (symv 2), .bool false)]
def C5 : List (FuncId × List Value × Value) := []
theorem e5 : endVal Tryd.prog Tryd.f33 (at' 31 F5 C5 body s0) = some (.agg ⟨[strV [], .bool false, .bool false, .bool false]⟩) := by kernel_rfl
def F6 : List (FOp × Value) := [(.ld 78 (symv 1000000), .agg ⟨[strV [103, 97, 115], .bool false, .bool false, .bool false, strV [115, 111, 108, 105, 100], .bool true, .bool false, .bool false, strV [102, 97, 108, 108, 105, 110, 103], .bool true, .bool false, .bool true, strV [108, 105, 113, 117, 105, 100], .bool false, .bool true, .bool false]⟩),
    (.bin .eql 4 (.bool false) (symv 1), .bool true),
    (.bin .eql 4 (.bool false) (symv 2), .bool true),
    (.bin .eql 4 (.bool false) (symv 3), .bool true)]
def C6 : List (FuncId × List Value × Value) := []
theorem e6 : endVal Tryd.prog Tryd.f33 (at' 31 F6 C6 body s0) = some (.agg ⟨[strV [103, 97, 115], .bool false, .bool false, .bool false]⟩) := by kernel_rfl
@[reducible] noncomputable def vL (x : Mt) : List Value := [strV x.1, .bool x.2.1, .bool x.2.2.1, .bool x.2.2.2.1, .int .i64 x.2.2.2.2.1, .int .i64 x.2.2.2.2.2.1, .int .i64 x.2.2.2.2.2.2.1, .int .i64 x.2.2.2.2.2.2.2]
@[reducible] noncomputable def sg (M : Mem) (x : Mt) : Sig := sgL M (vL x)
set_option maxHeartbeats 4000000 in
theorem any (W : World) (x : Mt) (hK : KindsM (heapOf W)) : Calls Tryd.prog 33 #[M.val x] W fun e w' => e = .returned (K.val (kindM x)) ∧ Low W.heap.size W w' := by
  refine @walk_enter (sg (heapOf W) x ) Tryd.prog 33 Tryd.f33 body [.agg ⟨[symv 0, symv 1, symv 2, symv 3, symv 4, symv 5, symv 6, symv 7]⟩] (slots [(0, .agg ⟨[symv 0, symv 1, symv 2, symv 3, symv 4, symv 5, symv 6, symv 7]⟩)]) N W _ Tryd.func33 (by kernel_rfl) (by kernel_rfl) (by kernel_rfl) (by kernel_rfl) (immW_sgL W _) fun a hh => ?_
  letI := (sg (heapOf W) x )
  by_cases h0 : x.2.1 = true
  · by_cases h1 : x.2.2.1 = true
    · refine walk_to (F := F0) (T := C0) (fuel := 1000) (d := 10) mixed (allF_cons (ldG hK (o := 0) (n := 16) rfl rfl (by kernel_rfl) (by kernel_rfl) rfl rfl rfl rfl) (allF_cons (boolEqFT rfl rfl rfl rfl (by decide) h0) (allF_cons (boolEqTT rfl rfl rfl rfl rfl h0) (allF_cons (boolEqFT rfl rfl rfl rfl (by decide) h1) allF_nil)))) allC_nil ?_ hh
      exact ostop_end e0 fun w2 hLow hIn => ⟨(by first | (rw [kindM_gas (by assumption) (by assumption) (by assumption)]; rfl) | (rw [kindM_sol (by assumption) (by assumption) (by assumption)]; rfl) | (rw [kindM_fal (by assumption) (by assumption) (by assumption)]; rfl) | (rw [kindM_liq (by assumption) (by assumption) (by assumption)]; rfl) | (rw [kindM_no1 (by assumption) (by assumption)]; rfl) | (rw [kindM_no2 (by assumption) (by assumption)]; rfl)), hLow⟩   -- returns .agg ⟨[strV [], .bool false, .bool false, .bool false]⟩
    · by_cases h2 : x.2.2.2.1 = true
      · refine walk_to (F := F1) (T := C1) (fuel := 1000) (d := 10) mixed (allF_cons (ldG hK (o := 0) (n := 16) rfl rfl (by kernel_rfl) (by kernel_rfl) rfl rfl rfl rfl) (allF_cons (boolEqFT rfl rfl rfl rfl (by decide) h0) (allF_cons (boolEqTT rfl rfl rfl rfl rfl h0) (allF_cons (boolEqFF rfl rfl rfl rfl (by decide) h1) (allF_cons (boolEqFT rfl rfl rfl rfl (by decide) h2) (allF_cons (boolEqTT rfl rfl rfl rfl rfl h2) allF_nil)))))) allC_nil ?_ hh
        exact ostop_end e1 fun w2 hLow hIn => ⟨(by first | (rw [kindM_gas (by assumption) (by assumption) (by assumption)]; rfl) | (rw [kindM_sol (by assumption) (by assumption) (by assumption)]; rfl) | (rw [kindM_fal (by assumption) (by assumption) (by assumption)]; rfl) | (rw [kindM_liq (by assumption) (by assumption) (by assumption)]; rfl) | (rw [kindM_no1 (by assumption) (by assumption)]; rfl) | (rw [kindM_no2 (by assumption) (by assumption)]; rfl)), hLow⟩   -- returns .agg ⟨[strV [102, 97, 108, 108, 105, 110, 103], .bool true, .bool false, .bool true]⟩
      · refine walk_to (F := F2) (T := C2) (fuel := 1000) (d := 10) mixed (allF_cons (ldG hK (o := 0) (n := 16) rfl rfl (by kernel_rfl) (by kernel_rfl) rfl rfl rfl rfl) (allF_cons (boolEqFT rfl rfl rfl rfl (by decide) h0) (allF_cons (boolEqTT rfl rfl rfl rfl rfl h0) (allF_cons (boolEqFF rfl rfl rfl rfl (by decide) h1) (allF_cons (boolEqFF rfl rfl rfl rfl (by decide) h2) allF_nil))))) allC_nil ?_ hh
        exact ostop_end e2 fun w2 hLow hIn => ⟨(by first | (rw [kindM_gas (by assumption) (by assumption) (by assumption)]; rfl) | (rw [kindM_sol (by assumption) (by assumption) (by assumption)]; rfl) | (rw [kindM_fal (by assumption) (by assumption) (by assumption)]; rfl) | (rw [kindM_liq (by assumption) (by assumption) (by assumption)]; rfl) | (rw [kindM_no1 (by assumption) (by assumption)]; rfl) | (rw [kindM_no2 (by assumption) (by assumption)]; rfl)), hLow⟩   -- returns .agg ⟨[strV [115, 111, 108, 105, 100], .bool true, .bool false, .bool false]⟩
  · by_cases h1 : x.2.2.1 = true
    · by_cases h2 : x.2.2.2.1 = true
      · refine walk_to (F := F3) (T := C3) (fuel := 1000) (d := 10) mixed (allF_cons (ldG hK (o := 0) (n := 16) rfl rfl (by kernel_rfl) (by kernel_rfl) rfl rfl rfl rfl) (allF_cons (boolEqFF rfl rfl rfl rfl (by decide) h0) (allF_cons (boolEqFT rfl rfl rfl rfl (by decide) h1) (allF_cons (boolEqTF rfl rfl rfl rfl rfl h0) (allF_cons (boolEqTT rfl rfl rfl rfl rfl h1) (allF_cons (boolEqFT rfl rfl rfl rfl (by decide) h2) allF_nil)))))) allC_nil ?_ hh
        exact ostop_end e3 fun w2 hLow hIn => ⟨(by first | (rw [kindM_gas (by assumption) (by assumption) (by assumption)]; rfl) | (rw [kindM_sol (by assumption) (by assumption) (by assumption)]; rfl) | (rw [kindM_fal (by assumption) (by assumption) (by assumption)]; rfl) | (rw [kindM_liq (by assumption) (by assumption) (by assumption)]; rfl) | (rw [kindM_no1 (by assumption) (by assumption)]; rfl) | (rw [kindM_no2 (by assumption) (by assumption)]; rfl)), hLow⟩   -- returns .agg ⟨[strV [], .bool false, .bool false, .bool false]⟩
      · refine walk_to (F := F4) (T := C4) (fuel := 1000) (d := 10) mixed (allF_cons (ldG hK (o := 0) (n := 16) rfl rfl (by kernel_rfl) (by kernel_rfl) rfl rfl rfl rfl) (allF_cons (boolEqFF rfl rfl rfl rfl (by decide) h0) (allF_cons (boolEqFT rfl rfl rfl rfl (by decide) h1) (allF_cons (boolEqTF rfl rfl rfl rfl rfl h0) (allF_cons (boolEqTT rfl rfl rfl rfl rfl h1) (allF_cons (boolEqFF rfl rfl rfl rfl (by decide) h2) allF_nil)))))) allC_nil ?_ hh
        exact ostop_end e4 fun w2 hLow hIn => ⟨(by first | (rw [kindM_gas (by assumption) (by assumption) (by assumption)]; rfl) | (rw [kindM_sol (by assumption) (by assumption) (by assumption)]; rfl) | (rw [kindM_fal (by assumption) (by assumption) (by assumption)]; rfl) | (rw [kindM_liq (by assumption) (by assumption) (by assumption)]; rfl) | (rw [kindM_no1 (by assumption) (by assumption)]; rfl) | (rw [kindM_no2 (by assumption) (by assumption)]; rfl)), hLow⟩   -- returns .agg ⟨[strV [108, 105, 113, 117, 105, 100], .bool false, .bool true, .bool false]⟩
    · by_cases h2 : x.2.2.2.1 = true
      · refine walk_to (F := F5) (T := C5) (fuel := 1000) (d := 10) mixed (allF_cons (ldG hK (o := 0) (n := 16) rfl rfl (by kernel_rfl) (by kernel_rfl) rfl rfl rfl rfl) (allF_cons (boolEqFF rfl rfl rfl rfl (by decide) h0) (allF_cons (boolEqFF rfl rfl rfl rfl (by decide) h1) (allF_cons (boolEqFT rfl rfl rfl rfl (by decide) h2) (allF_cons (boolEqTF rfl rfl rfl rfl rfl h0) (allF_cons (boolEqTF rfl rfl rfl rfl rfl h1) allF_nil)))))) allC_nil ?_ hh
        exact ostop_end e5 fun w2 hLow hIn => ⟨(by first | (rw [kindM_gas (by assumption) (by assumption) (by assumption)]; rfl) | (rw [kindM_sol (by assumption) (by assumption) (by assumption)]; rfl) | (rw [kindM_fal (by assumption) (by assumption) (by assumption)]; rfl) | (rw [kindM_liq (by assumption) (by assumption) (by assumption)]; rfl) | (rw [kindM_no1 (by assumption) (by assumption)]; rfl) | (rw [kindM_no2 (by assumption) (by assumption)]; rfl)), hLow⟩   -- returns .agg ⟨[strV [], .bool false, .bool false, .bool false]⟩
      · refine walk_to (F := F6) (T := C6) (fuel := 1000) (d := 10) mixed (allF_cons (ldG hK (o := 0) (n := 16) rfl rfl (by kernel_rfl) (by kernel_rfl) rfl rfl rfl rfl) (allF_cons (boolEqFF rfl rfl rfl rfl (by decide) h0) (allF_cons (boolEqFF rfl rfl rfl rfl (by decide) h1) (allF_cons (boolEqFF rfl rfl rfl rfl (by decide) h2) allF_nil)))) allC_nil ?_ hh
        exact ostop_end e6 fun w2 hLow hIn => ⟨(by first | (rw [kindM_gas (by assumption) (by assumption) (by assumption)]; rfl) | (rw [kindM_sol (by assumption) (by assumption) (by assumption)]; rfl) | (rw [kindM_fal (by assumption) (by assumption) (by assumption)]; rfl) | (rw [kindM_liq (by assumption) (by assumption) (by assumption)]; rfl) | (rw [kindM_no1 (by assumption) (by assumption)]; rfl) | (rw [kindM_no2 (by assumption) (by assumption)]; rfl)), hLow⟩   -- returns .agg ⟨[strV [103, 97, 115], .bool false, .bool false, .bool false]⟩
end OfG
end AE
end Go.Proofs.YtblhndlmgibljaaDoor

/- What isName and of answer, as facts. -/
namespace Go.Proofs.YtblhndlmgibljaaDoor
open Go Go.Proofs Go.RowKit
namespace AE
variable [Sig]
theorem callNameT {x : Value} {s : Bs} (hp : plainSL [x] = true) (ev : interpL [x] = [strV s]) (h : nameP s) : CallFactOk Tryd.prog (47, [x], .bool true) :=
  callAny (a := #[strV s]) hp rfl ev rfl fun w _ => (NameG.any w s).mono fun e w' h' => by rw [decide_eq_true h] at h'; exact h'
theorem callNameF {x : Value} {s : Bs} (hp : plainSL [x] = true) (ev : interpL [x] = [strV s]) (h : ¬ nameP s) : CallFactOk Tryd.prog (47, [x], .bool false) :=
  callAny (a := #[strV s]) hp rfl ev rfl fun w _ => (NameG.any w s).mono fun e w' h' => by rw [decide_eq_false h] at h'; exact h'
theorem callOf {x r : Value} {m : Mt} (hp : plainSL [x] = true) (hr : plainS r = true) (ev : interpL [x] = [M.val m]) (er : interp r = K.val (kindM m)) (hK : KindsM Sig.imm) : CallFactOk Tryd.prog (33, [x], r) :=
  callAny (a := #[M.val m]) hp hr ev er fun w hw => OfG.any w m (hK.mono hw)
end AE
end Go.Proofs.YtblhndlmgibljaaDoor

/- the walk of isMaterial -/
namespace Go.Proofs.YtblhndlmgibljaaDoor
open Go Go.Proofs Go.RowKit
set_option maxRecDepth 100000
namespace AE
namespace ValMG
noncomputable def body : Code := (Tryd.f29.body).getD .skip
def N : Nat := 30
noncomputable abbrev at' (N : Nat) (F : List (FOp × Value)) (C : List (FuncId × List Value × Value)) (c : Code) (s : ASt) : Option Stop := evalTo Tryd.prog F C N 1000 10 c s
noncomputable abbrev leave' (N : Nat) (F : List (FOp × Value)) (C : List (FuncId × List Value × Value)) (ks : List KI) (o : Option Stop) : Option Stop := evalLeave Tryd.prog F C N 1000 10 ks o
noncomputable abbrev unr' (N : Nat) (F : List (FOp × Value)) (C : List (FuncId × List Value × Value)) (m : Nat) (o : Option Stop) : Option Stop := evalUnroll Tryd.prog F C N 1000 10 m o
noncomputable abbrev res' (N : Nat) (F : List (FOp × Value)) (C : List (FuncId × List Value × Value)) (ks : List KI) (x : AX) (s : ASt) : Option Stop := evalRes Tryd.prog F C N 1000 10 ks x s
noncomputable abbrev ops' (N : Nat) (F : List (FOp × Value)) (C : List (FuncId × List Value × Value)) (r : List Oper) (ops : Array Oper) (ks : List KI) (s : ASt) : Option Stop := evalOps Tryd.prog F C N 1000 10 r ops ks s
def s0 : ASt := { sl := slots [(0, .agg ⟨[symv 0, symv 1, symv 2, symv 3, symv 4, symv 5, symv 6, symv 7]⟩)], ms := [], A := start }
def F0 : List (FOp × Value) := [(.bin .lss 3 (symv 5) (.int .i64 0), .bool true),
    (.bin .neq 9 (symv 8) (strV []), .bool false)]
def C0 : List (FuncId × List Value × Value) := [(47, [symv 0], .bool true),
    (33, [.agg ⟨[symv 0, symv 1, symv 2, symv 3, symv 4, symv 5, symv 6, symv 7]⟩], .agg ⟨[symv 8, symv 9, symv 10, symv 11]⟩)]
theorem e0 : endVal Tryd.prog Tryd.f29 (at' 30 F0 C0 body s0) = some (.bool false) := by kernel_rfl
def F1 : List (FOp × Value) := [(.bin .lss 3 (symv 5) (.int .i64 0), .bool true),
    (.bin .neq 9 (symv 8) (strV []), .bool true),
    (.bin .geq 3 (symv 4) (.int .i64 1), .bool true),
    (.bin .leq 3 (symv 4) (.int .i64 16), .bool true)]
def C1 : List (FuncId × List Value × Value) := [(47, [symv 0], .bool true),
    (33, [.agg ⟨[symv 0, symv 1, symv 2, symv 3, symv 4, symv 5, symv 6, symv 7]⟩], .agg ⟨[symv 8, symv 9, symv 10, symv 11]⟩)]
theorem e1 : endVal Tryd.prog Tryd.f29 (at' 30 F1 C1 body s0) = some (.bool false) := by kernel_rfl
def F2 : List (FOp × Value) := [(.bin .lss 3 (symv 5) (.int .i64 0), .bool true),
    (.bin .neq 9 (symv 8) (strV []), .bool true),
    (.bin .geq 3 (symv 4) (.int .i64 1), .bool true),
    (.bin .leq 3 (symv 4) (.int .i64 16), .bool false)]
def C2 : List (FuncId × List Value × Value) := [(47, [symv 0], .bool true),
    (33, [.agg ⟨[symv 0, symv 1, symv 2, symv 3, symv 4, symv 5, symv 6, symv 7]⟩], .agg ⟨[symv 8, symv 9, symv 10, symv 11]⟩)]
theorem e2 : endVal Tryd.prog Tryd.f29 (at' 30 F2 C2 body s0) = some (.bool false) := by kernel_rfl
def F3 : List (FOp × Value) := [(.bin .lss 3 (symv 5) (.int .i64 0), .bool true),
    (.bin .neq 9 (symv 8) (strV []), .bool true),
    (.bin .geq 3 (symv 4) (.int .i64 1), .bool false)]
def C3 : List (FuncId × List Value × Value) := [(47, [symv 0], .bool true),
    (33, [.agg ⟨[symv 0, symv 1, symv 2, symv 3, symv 4, symv 5, symv 6, symv 7]⟩], .agg ⟨[symv 8, symv 9, symv 10, symv 11]⟩)]
theorem e3 : endVal Tryd.prog Tryd.f29 (at' 30 F3 C3 body s0) = some (.bool false) := by kernel_rfl
def F4 : List (FOp × Value) := [(.bin .lss 3 (symv 5) (.int .i64 0), .bool true)]
def C4 : List (FuncId × List Value × Value) := [(47, [symv 0], .bool false)]
theorem e4 : endVal Tryd.prog Tryd.f29 (at' 30 F4 C4 body s0) = some (.bool false) := by kernel_rfl
def F5 : List (FOp × Value) := [(.bin .lss 3 (symv 5) (.int .i64 0), .bool false),
    (.bin .gtr 3 (symv 5) (.int .i64 15), .bool true),
    (.bin .neq 9 (symv 8) (strV []), .bool false)]
def C5 : List (FuncId × List Value × Value) := [(47, [symv 0], .bool true),
    (33, [.agg ⟨[symv 0, symv 1, symv 2, symv 3, symv 4, symv 5, symv 6, symv 7]⟩], .agg ⟨[symv 8, symv 9, symv 10, symv 11]⟩)]
theorem e5 : endVal Tryd.prog Tryd.f29 (at' 30 F5 C5 body s0) = some (.bool false) := by kernel_rfl
def F6 : List (FOp × Value) := [(.bin .lss 3 (symv 5) (.int .i64 0), .bool false),
    (.bin .gtr 3 (symv 5) (.int .i64 15), .bool true),
    (.bin .neq 9 (symv 8) (strV []), .bool true),
    (.bin .geq 3 (symv 4) (.int .i64 1), .bool true),
    (.bin .leq 3 (symv 4) (.int .i64 16), .bool true)]
def C6 : List (FuncId × List Value × Value) := [(47, [symv 0], .bool true),
    (33, [.agg ⟨[symv 0, symv 1, symv 2, symv 3, symv 4, symv 5, symv 6, symv 7]⟩], .agg ⟨[symv 8, symv 9, symv 10, symv 11]⟩)]
theorem e6 : endVal Tryd.prog Tryd.f29 (at' 30 F6 C6 body s0) = some (.bool false) := by kernel_rfl
def F7 : List (FOp × Value) := [(.bin .lss 3 (symv 5) (.int .i64 0), .bool false),
    (.bin .gtr 3 (symv 5) (.int .i64 15), .bool true),
    (.bin .neq 9 (symv 8) (strV []), .bool true),
    (.bin .geq 3 (symv 4) (.int .i64 1), .bool true),
    (.bin .leq 3 (symv 4) (.int .i64 16), .bool false)]
def C7 : List (FuncId × List Value × Value) := [(47, [symv 0], .bool true),
    (33, [.agg ⟨[symv 0, symv 1, symv 2, symv 3, symv 4, symv 5, symv 6, symv 7]⟩], .agg ⟨[symv 8, symv 9, symv 10, symv 11]⟩)]
theorem e7 : endVal Tryd.prog Tryd.f29 (at' 30 F7 C7 body s0) = some (.bool false) := by kernel_rfl
def F8 : List (FOp × Value) := [(.bin .lss 3 (symv 5) (.int .i64 0), .bool false),
    (.bin .gtr 3 (symv 5) (.int .i64 15), .bool true),
    (.bin .neq 9 (symv 8) (strV []), .bool true),
    (.bin .geq 3 (symv 4) (.int .i64 1), .bool false)]
def C8 : List (FuncId × List Value × Value) := [(47, [symv 0], .bool true),
    (33, [.agg ⟨[symv 0, symv 1, symv 2, symv 3, symv 4, symv 5, symv 6, symv 7]⟩], .agg ⟨[symv 8, symv 9, symv 10, symv 11]⟩)]
theorem e8 : endVal Tryd.prog Tryd.f29 (at' 30 F8 C8 body s0) = some (.bool false) := by kernel_rfl
def F9 : List (FOp × Value) := [(.bin .lss 3 (symv 5) (.int .i64 0), .bool false),
    (.bin .gtr 3 (symv 5) (.int .i64 15), .bool true)]
def C9 : List (FuncId × List Value × Value) := [(47, [symv 0], .bool false)]
theorem e9 : endVal Tryd.prog Tryd.f29 (at' 30 F9 C9 body s0) = some (.bool false) := by kernel_rfl
def F10 : List (FOp × Value) := [(.bin .lss 3 (symv 5) (.int .i64 0), .bool false),
    (.bin .gtr 3 (symv 5) (.int .i64 15), .bool false),
    (.bin .lss 3 (symv 6) (.int .i64 0), .bool true),
    (.bin .neq 9 (symv 8) (strV []), .bool false)]
def C10 : List (FuncId × List Value × Value) := [(47, [symv 0], .bool true),
    (33, [.agg ⟨[symv 0, symv 1, symv 2, symv 3, symv 4, symv 5, symv 6, symv 7]⟩], .agg ⟨[symv 8, symv 9, symv 10, symv 11]⟩)]
theorem e10 : endVal Tryd.prog Tryd.f29 (at' 30 F10 C10 body s0) = some (.bool false) := by kernel_rfl
def F11 : List (FOp × Value) := [(.bin .lss 3 (symv 5) (.int .i64 0), .bool false),
    (.bin .gtr 3 (symv 5) (.int .i64 15), .bool false),
    (.bin .lss 3 (symv 6) (.int .i64 0), .bool true),
    (.bin .neq 9 (symv 8) (strV []), .bool true),
    (.bin .geq 3 (symv 4) (.int .i64 1), .bool true),
    (.bin .leq 3 (symv 4) (.int .i64 16), .bool true)]
def C11 : List (FuncId × List Value × Value) := [(47, [symv 0], .bool true),
    (33, [.agg ⟨[symv 0, symv 1, symv 2, symv 3, symv 4, symv 5, symv 6, symv 7]⟩], .agg ⟨[symv 8, symv 9, symv 10, symv 11]⟩)]
theorem e11 : endVal Tryd.prog Tryd.f29 (at' 30 F11 C11 body s0) = some (.bool false) := by kernel_rfl
def F12 : List (FOp × Value) := [(.bin .lss 3 (symv 5) (.int .i64 0), .bool false),
    (.bin .gtr 3 (symv 5) (.int .i64 15), .bool false),
    (.bin .lss 3 (symv 6) (.int .i64 0), .bool true),
    (.bin .neq 9 (symv 8) (strV []), .bool true),
    (.bin .geq 3 (symv 4) (.int .i64 1), .bool true),
    (.bin .leq 3 (symv 4) (.int .i64 16), .bool false)]
def C12 : List (FuncId × List Value × Value) := [(47, [symv 0], .bool true),
    (33, [.agg ⟨[symv 0, symv 1, symv 2, symv 3, symv 4, symv 5, symv 6, symv 7]⟩], .agg ⟨[symv 8, symv 9, symv 10, symv 11]⟩)]
theorem e12 : endVal Tryd.prog Tryd.f29 (at' 30 F12 C12 body s0) = some (.bool false) := by kernel_rfl
def F13 : List (FOp × Value) := [(.bin .lss 3 (symv 5) (.int .i64 0), .bool false),
    (.bin .gtr 3 (symv 5) (.int .i64 15), .bool false),
    (.bin .lss 3 (symv 6) (.int .i64 0), .bool true),
    (.bin .neq 9 (symv 8) (strV []), .bool true),
    (.bin .geq 3 (symv 4) (.int .i64 1), .bool false)]
def C13 : List (FuncId × List Value × Value) := [(47, [symv 0], .bool true),
    (33, [.agg ⟨[symv 0, symv 1, symv 2, symv 3, symv 4, symv 5, symv 6, symv 7]⟩], .agg ⟨[symv 8, symv 9, symv 10, symv 11]⟩)]
theorem e13 : endVal Tryd.prog Tryd.f29 (at' 30 F13 C13 body s0) = some (.bool false) := by kernel_rfl
def F14 : List (FOp × Value) := [(.bin .lss 3 (symv 5) (.int .i64 0), .bool false),
    (.bin .gtr 3 (symv 5) (.int .i64 15), .bool false),
    (.bin .lss 3 (symv 6) (.int .i64 0), .bool true)]
def C14 : List (FuncId × List Value × Value) := [(47, [symv 0], .bool false)]
theorem e14 : endVal Tryd.prog Tryd.f29 (at' 30 F14 C14 body s0) = some (.bool false) := by kernel_rfl
def F15 : List (FOp × Value) := [(.bin .lss 3 (symv 5) (.int .i64 0), .bool false),
    (.bin .gtr 3 (symv 5) (.int .i64 15), .bool false),
    (.bin .lss 3 (symv 6) (.int .i64 0), .bool false),
    (.bin .gtr 3 (symv 6) (.int .i64 15), .bool true),
    (.bin .neq 9 (symv 8) (strV []), .bool false)]
def C15 : List (FuncId × List Value × Value) := [(47, [symv 0], .bool true),
    (33, [.agg ⟨[symv 0, symv 1, symv 2, symv 3, symv 4, symv 5, symv 6, symv 7]⟩], .agg ⟨[symv 8, symv 9, symv 10, symv 11]⟩)]
theorem e15 : endVal Tryd.prog Tryd.f29 (at' 30 F15 C15 body s0) = some (.bool false) := by kernel_rfl
def F16 : List (FOp × Value) := [(.bin .lss 3 (symv 5) (.int .i64 0), .bool false),
    (.bin .gtr 3 (symv 5) (.int .i64 15), .bool false),
    (.bin .lss 3 (symv 6) (.int .i64 0), .bool false),
    (.bin .gtr 3 (symv 6) (.int .i64 15), .bool true),
    (.bin .neq 9 (symv 8) (strV []), .bool true),
    (.bin .geq 3 (symv 4) (.int .i64 1), .bool true),
    (.bin .leq 3 (symv 4) (.int .i64 16), .bool true)]
def C16 : List (FuncId × List Value × Value) := [(47, [symv 0], .bool true),
    (33, [.agg ⟨[symv 0, symv 1, symv 2, symv 3, symv 4, symv 5, symv 6, symv 7]⟩], .agg ⟨[symv 8, symv 9, symv 10, symv 11]⟩)]
theorem e16 : endVal Tryd.prog Tryd.f29 (at' 30 F16 C16 body s0) = some (.bool false) := by kernel_rfl
def F17 : List (FOp × Value) := [(.bin .lss 3 (symv 5) (.int .i64 0), .bool false),
    (.bin .gtr 3 (symv 5) (.int .i64 15), .bool false),
    (.bin .lss 3 (symv 6) (.int .i64 0), .bool false),
    (.bin .gtr 3 (symv 6) (.int .i64 15), .bool true),
    (.bin .neq 9 (symv 8) (strV []), .bool true),
    (.bin .geq 3 (symv 4) (.int .i64 1), .bool true),
    (.bin .leq 3 (symv 4) (.int .i64 16), .bool false)]
def C17 : List (FuncId × List Value × Value) := [(47, [symv 0], .bool true),
    (33, [.agg ⟨[symv 0, symv 1, symv 2, symv 3, symv 4, symv 5, symv 6, symv 7]⟩], .agg ⟨[symv 8, symv 9, symv 10, symv 11]⟩)]
theorem e17 : endVal Tryd.prog Tryd.f29 (at' 30 F17 C17 body s0) = some (.bool false) := by kernel_rfl
def F18 : List (FOp × Value) := [(.bin .lss 3 (symv 5) (.int .i64 0), .bool false),
    (.bin .gtr 3 (symv 5) (.int .i64 15), .bool false),
    (.bin .lss 3 (symv 6) (.int .i64 0), .bool false),
    (.bin .gtr 3 (symv 6) (.int .i64 15), .bool true),
    (.bin .neq 9 (symv 8) (strV []), .bool true),
    (.bin .geq 3 (symv 4) (.int .i64 1), .bool false)]
def C18 : List (FuncId × List Value × Value) := [(47, [symv 0], .bool true),
    (33, [.agg ⟨[symv 0, symv 1, symv 2, symv 3, symv 4, symv 5, symv 6, symv 7]⟩], .agg ⟨[symv 8, symv 9, symv 10, symv 11]⟩)]
theorem e18 : endVal Tryd.prog Tryd.f29 (at' 30 F18 C18 body s0) = some (.bool false) := by kernel_rfl
def F19 : List (FOp × Value) := [(.bin .lss 3 (symv 5) (.int .i64 0), .bool false),
    (.bin .gtr 3 (symv 5) (.int .i64 15), .bool false),
    (.bin .lss 3 (symv 6) (.int .i64 0), .bool false),
    (.bin .gtr 3 (symv 6) (.int .i64 15), .bool true)]
def C19 : List (FuncId × List Value × Value) := [(47, [symv 0], .bool false)]
theorem e19 : endVal Tryd.prog Tryd.f29 (at' 30 F19 C19 body s0) = some (.bool false) := by kernel_rfl
def F20 : List (FOp × Value) := [(.bin .lss 3 (symv 5) (.int .i64 0), .bool false),
    (.bin .gtr 3 (symv 5) (.int .i64 15), .bool false),
    (.bin .lss 3 (symv 6) (.int .i64 0), .bool false),
    (.bin .gtr 3 (symv 6) (.int .i64 15), .bool false),
    (.bin .lss 3 (symv 7) (.int .i64 0), .bool true),
    (.bin .neq 9 (symv 8) (strV []), .bool false)]
def C20 : List (FuncId × List Value × Value) := [(47, [symv 0], .bool true),
    (33, [.agg ⟨[symv 0, symv 1, symv 2, symv 3, symv 4, symv 5, symv 6, symv 7]⟩], .agg ⟨[symv 8, symv 9, symv 10, symv 11]⟩)]
theorem e20 : endVal Tryd.prog Tryd.f29 (at' 30 F20 C20 body s0) = some (.bool false) := by kernel_rfl
def F21 : List (FOp × Value) := [(.bin .lss 3 (symv 5) (.int .i64 0), .bool false),
    (.bin .gtr 3 (symv 5) (.int .i64 15), .bool false),
    (.bin .lss 3 (symv 6) (.int .i64 0), .bool false),
    (.bin .gtr 3 (symv 6) (.int .i64 15), .bool false),
    (.bin .lss 3 (symv 7) (.int .i64 0), .bool true),
    (.bin .neq 9 (symv 8) (strV []), .bool true),
    (.bin .geq 3 (symv 4) (.int .i64 1), .bool true),
    (.bin .leq 3 (symv 4) (.int .i64 16), .bool true)]
def C21 : List (FuncId × List Value × Value) := [(47, [symv 0], .bool true),
    (33, [.agg ⟨[symv 0, symv 1, symv 2, symv 3, symv 4, symv 5, symv 6, symv 7]⟩], .agg ⟨[symv 8, symv 9, symv 10, symv 11]⟩)]
theorem e21 : endVal Tryd.prog Tryd.f29 (at' 30 F21 C21 body s0) = some (.bool false) := by kernel_rfl
def F22 : List (FOp × Value) := [(.bin .lss 3 (symv 5) (.int .i64 0), .bool false),
    (.bin .gtr 3 (symv 5) (.int .i64 15), .bool false),
    (.bin .lss 3 (symv 6) (.int .i64 0), .bool false),
    (.bin .gtr 3 (symv 6) (.int .i64 15), .bool false),
    (.bin .lss 3 (symv 7) (.int .i64 0), .bool true),
    (.bin .neq 9 (symv 8) (strV []), .bool true),
    (.bin .geq 3 (symv 4) (.int .i64 1), .bool true),
    (.bin .leq 3 (symv 4) (.int .i64 16), .bool false)]
def C22 : List (FuncId × List Value × Value) := [(47, [symv 0], .bool true),
    (33, [.agg ⟨[symv 0, symv 1, symv 2, symv 3, symv 4, symv 5, symv 6, symv 7]⟩], .agg ⟨[symv 8, symv 9, symv 10, symv 11]⟩)]
theorem e22 : endVal Tryd.prog Tryd.f29 (at' 30 F22 C22 body s0) = some (.bool false) := by kernel_rfl
def F23 : List (FOp × Value) := [(.bin .lss 3 (symv 5) (.int .i64 0), .bool false),
    (.bin .gtr 3 (symv 5) (.int .i64 15), .bool false),
    (.bin .lss 3 (symv 6) (.int .i64 0), .bool false),
    (.bin .gtr 3 (symv 6) (.int .i64 15), .bool false),
    (.bin .lss 3 (symv 7) (.int .i64 0), .bool true),
    (.bin .neq 9 (symv 8) (strV []), .bool true),
    (.bin .geq 3 (symv 4) (.int .i64 1), .bool false)]
def C23 : List (FuncId × List Value × Value) := [(47, [symv 0], .bool true),
    (33, [.agg ⟨[symv 0, symv 1, symv 2, symv 3, symv 4, symv 5, symv 6, symv 7]⟩], .agg ⟨[symv 8, symv 9, symv 10, symv 11]⟩)]
theorem e23 : endVal Tryd.prog Tryd.f29 (at' 30 F23 C23 body s0) = some (.bool false) := by kernel_rfl
def F24 : List (FOp × Value) := [(.bin .lss 3 (symv 5) (.int .i64 0), .bool false),
    (.bin .gtr 3 (symv 5) (.int .i64 15), .bool false),
    (.bin .lss 3 (symv 6) (.int .i64 0), .bool false),
    (.bin .gtr 3 (symv 6) (.int .i64 15), .bool false),
    (.bin .lss 3 (symv 7) (.int .i64 0), .bool true)]
def C24 : List (FuncId × List Value × Value) := [(47, [symv 0], .bool false)]
theorem e24 : endVal Tryd.prog Tryd.f29 (at' 30 F24 C24 body s0) = some (.bool false) := by kernel_rfl
def F25 : List (FOp × Value) := [(.bin .lss 3 (symv 5) (.int .i64 0), .bool false),
    (.bin .gtr 3 (symv 5) (.int .i64 15), .bool false),
    (.bin .lss 3 (symv 6) (.int .i64 0), .bool false),
    (.bin .gtr 3 (symv 6) (.int .i64 15), .bool false),
    (.bin .lss 3 (symv 7) (.int .i64 0), .bool false),
    (.bin .gtr 3 (symv 7) (.int .i64 15), .bool true),
    (.bin .neq 9 (symv 8) (strV []), .bool false)]
def C25 : List (FuncId × List Value × Value) := [(47, [symv 0], .bool true),
    (33, [.agg ⟨[symv 0, symv 1, symv 2, symv 3, symv 4, symv 5, symv 6, symv 7]⟩], .agg ⟨[symv 8, symv 9, symv 10, symv 11]⟩)]
theorem e25 : endVal Tryd.prog Tryd.f29 (at' 30 F25 C25 body s0) = some (.bool false) := by kernel_rfl
def F26 : List (FOp × Value) := [(.bin .lss 3 (symv 5) (.int .i64 0), .bool false),
    (.bin .gtr 3 (symv 5) (.int .i64 15), .bool false),
    (.bin .lss 3 (symv 6) (.int .i64 0), .bool false),
    (.bin .gtr 3 (symv 6) (.int .i64 15), .bool false),
    (.bin .lss 3 (symv 7) (.int .i64 0), .bool false),
    (.bin .gtr 3 (symv 7) (.int .i64 15), .bool true),
    (.bin .neq 9 (symv 8) (strV []), .bool true),
    (.bin .geq 3 (symv 4) (.int .i64 1), .bool true),
    (.bin .leq 3 (symv 4) (.int .i64 16), .bool true)]
def C26 : List (FuncId × List Value × Value) := [(47, [symv 0], .bool true),
    (33, [.agg ⟨[symv 0, symv 1, symv 2, symv 3, symv 4, symv 5, symv 6, symv 7]⟩], .agg ⟨[symv 8, symv 9, symv 10, symv 11]⟩)]
theorem e26 : endVal Tryd.prog Tryd.f29 (at' 30 F26 C26 body s0) = some (.bool false) := by kernel_rfl
def F27 : List (FOp × Value) := [(.bin .lss 3 (symv 5) (.int .i64 0), .bool false),
    (.bin .gtr 3 (symv 5) (.int .i64 15), .bool false),
    (.bin .lss 3 (symv 6) (.int .i64 0), .bool false),
    (.bin .gtr 3 (symv 6) (.int .i64 15), .bool false),
    (.bin .lss 3 (symv 7) (.int .i64 0), .bool false),
    (.bin .gtr 3 (symv 7) (.int .i64 15), .bool true),
    (.bin .neq 9 (symv 8) (strV []), .bool true),
    (.bin .geq 3 (symv 4) (.int .i64 1), .bool true),
    (.bin .leq 3 (symv 4) (.int .i64 16), .bool false)]
def C27 : List (FuncId × List Value × Value) := [(47, [symv 0], .bool true),
    (33, [.agg ⟨[symv 0, symv 1, symv 2, symv 3, symv 4, symv 5, symv 6, symv 7]⟩], .agg ⟨[symv 8, symv 9, symv 10, symv 11]⟩)]
theorem e27 : endVal Tryd.prog Tryd.f29 (at' 30 F27 C27 body s0) = some (.bool false) := by kernel_rfl
def F28 : List (FOp × Value) := [(.bin .lss 3 (symv 5) (.int .i64 0), .bool false),
    (.bin .gtr 3 (symv 5) (.int .i64 15), .bool false),
    (.bin .lss 3 (symv 6) (.int .i64 0), .bool false),
    (.bin .gtr 3 (symv 6) (.int .i64 15), .bool false),
    (.bin .lss 3 (symv 7) (.int .i64 0), .bool false),
    (.bin .gtr 3 (symv 7) (.int .i64 15), .bool true),
    (.bin .neq 9 (symv 8) (strV []), .bool true),
    (.bin .geq 3 (symv 4) (.int .i64 1), .bool false)]
def C28 : List (FuncId × List Value × Value) := [(47, [symv 0], .bool true),
    (33, [.agg ⟨[symv 0, symv 1, symv 2, symv 3, symv 4, symv 5, symv 6, symv 7]⟩], .agg ⟨[symv 8, symv 9, symv 10, symv 11]⟩)]
theorem e28 : endVal Tryd.prog Tryd.f29 (at' 30 F28 C28 body s0) = some (.bool false) := by kernel_rfl
def F29 : List (FOp × Value) := [(.bin .lss 3 (symv 5) (.int .i64 0), .bool false),
    (.bin .gtr 3 (symv 5) (.int .i64 15), .bool false),
    (.bin .lss 3 (symv 6) (.int .i64 0), .bool false),
    (.bin .gtr 3 (symv 6) (.int .i64 15), .bool false),
    (.bin .lss 3 (symv 7) (.int .i64 0), .bool false),
    (.bin .gtr 3 (symv 7) (.int .i64 15), .bool true)]
def C29 : List (FuncId × List Value × Value) := [(47, [symv 0], .bool false)]
theorem e29 : endVal Tryd.prog Tryd.f29 (at' 30 F29 C29 body s0) = some (.bool false) := by kernel_rfl
def F30 : List (FOp × Value) := [(.bin .lss 3 (symv 5) (.int .i64 0), .bool false),
    (.bin .gtr 3 (symv 5) (.int .i64 15), .bool false),
    (.bin .lss 3 (symv 6) (.int .i64 0), .bool false),
    (.bin .gtr 3 (symv 6) (.int .i64 15), .bool false),
    (.bin .lss 3 (symv 7) (.int .i64 0), .bool false),
    (.bin .gtr 3 (symv 7) (.int .i64 15), .bool false),
    (.bin .neq 9 (symv 8) (strV []), .bool false)]
def C30 : List (FuncId × List Value × Value) := [(47, [symv 0], .bool true),
    (33, [.agg ⟨[symv 0, symv 1, symv 2, symv 3, symv 4, symv 5, symv 6, symv 7]⟩], .agg ⟨[symv 8, symv 9, symv 10, symv 11]⟩)]
theorem e30 : endVal Tryd.prog Tryd.f29 (at' 30 F30 C30 body s0) = some (.bool false) := by kernel_rfl
def F31 : List (FOp × Value) := [(.bin .lss 3 (symv 5) (.int .i64 0), .bool false),
    (.bin .gtr 3 (symv 5) (.int .i64 15), .bool false),
    (.bin .lss 3 (symv 6) (.int .i64 0), .bool false),
    (.bin .gtr 3 (symv 6) (.int .i64 15), .bool false),
    (.bin .lss 3 (symv 7) (.int .i64 0), .bool false),
    (.bin .gtr 3 (symv 7) (.int .i64 15), .bool false),
    (.bin .neq 9 (symv 8) (strV []), .bool true),
    (.bin .geq 3 (symv 4) (.int .i64 1), .bool true),
    (.bin .leq 3 (symv 4) (.int .i64 16), .bool true)]
def C31 : List (FuncId × List Value × Value) := [(47, [symv 0], .bool true),
    (33, [.agg ⟨[symv 0, symv 1, symv 2, symv 3, symv 4, symv 5, symv 6, symv 7]⟩], .agg ⟨[symv 8, symv 9, symv 10, symv 11]⟩)]
theorem e31 : endVal Tryd.prog Tryd.f29 (at' 30 F31 C31 body s0) = some (.bool true) := by kernel_rfl
def F32 : List (FOp × Value) := [(.bin .lss 3 (symv 5) (.int .i64 0), .bool false),
    (.bin .gtr 3 (symv 5) (.int .i64 15), .bool false),
    (.bin .lss 3 (symv 6) (.int .i64 0), .bool false),
    (.bin .gtr 3 (symv 6) (.int .i64 15), .bool false),
    (.bin .lss 3 (symv 7) (.int .i64 0), .bool false),
    (.bin .gtr 3 (symv 7) (.int .i64 15), .bool false),
    (.bin .neq 9 (symv 8) (strV []), .bool true),
    (.bin .geq 3 (symv 4) (.int .i64 1), .bool true),
    (.bin .leq 3 (symv 4) (.int .i64 16), .bool false)]
def C32 : List (FuncId × List Value × Value) := [(47, [symv 0], .bool true),
    (33, [.agg ⟨[symv 0, symv 1, symv 2, symv 3, symv 4, symv 5, symv 6, symv 7]⟩], .agg ⟨[symv 8, symv 9, symv 10, symv 11]⟩)]
theorem e32 : endVal Tryd.prog Tryd.f29 (at' 30 F32 C32 body s0) = some (.bool false) := by kernel_rfl
def F33 : List (FOp × Value) := [(.bin .lss 3 (symv 5) (.int .i64 0), .bool false),
    (.bin .gtr 3 (symv 5) (.int .i64 15), .bool false),
    (.bin .lss 3 (symv 6) (.int .i64 0), .bool false),
    (.bin .gtr 3 (symv 6) (.int .i64 15), .bool false),
    (.bin .lss 3 (symv 7) (.int .i64 0), .bool false),
    (.bin .gtr 3 (symv 7) (.int .i64 15), .bool false),
    (.bin .neq 9 (symv 8) (strV []), .bool true),
    (.bin .geq 3 (symv 4) (.int .i64 1), .bool false)]
def C33 : List (FuncId × List Value × Value) := [(47, [symv 0], .bool true),
    (33, [.agg ⟨[symv 0, symv 1, symv 2, symv 3, symv 4, symv 5, symv 6, symv 7]⟩], .agg ⟨[symv 8, symv 9, symv 10, symv 11]⟩)]
theorem e33 : endVal Tryd.prog Tryd.f29 (at' 30 F33 C33 body s0) = some (.bool false) := by kernel_rfl
def F34 : List (FOp × Value) := [(.bin .lss 3 (symv 5) (.int .i64 0), .bool false),
    (.bin .gtr 3 (symv 5) (.int .i64 15), .bool false),
    (.bin .lss 3 (symv 6) (.int .i64 0), .bool false),
    (.bin .gtr 3 (symv 6) (.int .i64 15), .bool false),
    (.bin .lss 3 (symv 7) (.int .i64 0), .bool false),
    (.bin .gtr 3 (symv 7) (.int .i64 15), .bool false)]
def C34 : List (FuncId × List Value × Value) := [(47, [symv 0], .bool false)]
theorem e34 : endVal Tryd.prog Tryd.f29 (at' 30 F34 C34 body s0) = some (.bool false) := by kernel_rfl
@[reducible] noncomputable def vL (x : Mt) : List Value := [strV x.1, .bool x.2.1, .bool x.2.2.1, .bool x.2.2.2.1, .int .i64 x.2.2.2.2.1, .int .i64 x.2.2.2.2.2.1, .int .i64 x.2.2.2.2.2.2.1, .int .i64 x.2.2.2.2.2.2.2, strV (kindM x).1, .bool (kindM x).2.1, .bool (kindM x).2.2.1, .bool (kindM x).2.2.2]
@[reducible] noncomputable def sg (M : Mem) (x : Mt) : Sig := sgL M (vL x)
set_option maxHeartbeats 4000000 in
theorem any (W : World) (x : Mt) (hK : KindsM (heapOf W)) : Calls Tryd.prog 29 #[M.val x] W fun e w' => e = .returned (.bool (decide (validM x))) ∧ Low W.heap.size W w' := by
  refine @walk_enter (sg (heapOf W) x ) Tryd.prog 29 Tryd.f29 body [.agg ⟨[symv 0, symv 1, symv 2, symv 3, symv 4, symv 5, symv 6, symv 7]⟩] (slots [(0, .agg ⟨[symv 0, symv 1, symv 2, symv 3, symv 4, symv 5, symv 6, symv 7]⟩)]) N W _ Tryd.func29 (by kernel_rfl) (by kernel_rfl) (by kernel_rfl) (by kernel_rfl) (immW_sgL W _) fun a hh => ?_
  letI := (sg (heapOf W) x )
  by_cases h0 : x.2.2.2.2.2.1 < 0
  · by_cases h1 : nameP x.1
    · by_cases h2 : (kindM x).1 = ([] : Bs)
      · refine walk_to (F := F0) (T := C0) (fuel := 1000) (d := 10) mixed (allF_cons (FactOk.bi rfl rfl rfl rfl rfl rfl (boolT (by omega))) (allF_cons (FactOk.strNeT rfl rfl rfl rfl h2) allF_nil)) (allC_cons (callNameT rfl rfl h1) (allC_cons (callOf rfl rfl rfl rfl hK) allC_nil)) ?_ hh
        exact ostop_end e0 fun w2 hLow hIn => ⟨(by first | (rw [decide_eq_true (show validM x from ⟨by assumption, by assumption, by omega, by omega, by omega, by omega, by omega, by omega, by omega, by omega⟩)]; rfl) | (rw [decide_eq_false (fun h : validM x => absurd h.1 (by assumption))]; rfl) | (rw [decide_eq_false (fun h : validM x => absurd h.2.1 (by first | assumption | exact not_not_intro (by assumption)))]; rfl) | (rw [decide_eq_false (fun h : validM x => by have := h.2.2; omega)]; rfl)), hLow⟩   -- returns .bool false
      · by_cases h3 : 1 ≤ x.2.2.2.2.1
        · by_cases h4 : x.2.2.2.2.1 ≤ 16
          · refine walk_to (F := F1) (T := C1) (fuel := 1000) (d := 10) mixed (allF_cons (FactOk.bi rfl rfl rfl rfl rfl rfl (boolT (by omega))) (allF_cons (FactOk.strNeF rfl rfl rfl rfl h2) (allF_cons (FactOk.bi rfl rfl rfl rfl rfl rfl (boolT (by omega))) (allF_cons (FactOk.bi rfl rfl rfl rfl rfl rfl (boolT (by omega))) allF_nil)))) (allC_cons (callNameT rfl rfl h1) (allC_cons (callOf rfl rfl rfl rfl hK) allC_nil)) ?_ hh
            exact ostop_end e1 fun w2 hLow hIn => ⟨(by first | (rw [decide_eq_true (show validM x from ⟨by assumption, by assumption, by omega, by omega, by omega, by omega, by omega, by omega, by omega, by omega⟩)]; rfl) | (rw [decide_eq_false (fun h : validM x => absurd h.1 (by assumption))]; rfl) | (rw [decide_eq_false (fun h : validM x => absurd h.2.1 (by first | assumption | exact not_not_intro (by assumption)))]; rfl) | (rw [decide_eq_false (fun h : validM x => by have := h.2.2; omega)]; rfl)), hLow⟩   -- returns .bool false
          · refine walk_to (F := F2) (T := C2) (fuel := 1000) (d := 10) mixed (allF_cons (FactOk.bi rfl rfl rfl rfl rfl rfl (boolT (by omega))) (allF_cons (FactOk.strNeF rfl rfl rfl rfl h2) (allF_cons (FactOk.bi rfl rfl rfl rfl rfl rfl (boolT (by omega))) (allF_cons (FactOk.bi rfl rfl rfl rfl rfl rfl (boolF (by omega))) allF_nil)))) (allC_cons (callNameT rfl rfl h1) (allC_cons (callOf rfl rfl rfl rfl hK) allC_nil)) ?_ hh
            exact ostop_end e2 fun w2 hLow hIn => ⟨(by first | (rw [decide_eq_true (show validM x from ⟨by assumption, by assumption, by omega, by omega, by omega, by omega, by omega, by omega, by omega, by omega⟩)]; rfl) | (rw [decide_eq_false (fun h : validM x => absurd h.1 (by assumption))]; rfl) | (rw [decide_eq_false (fun h : validM x => absurd h.2.1 (by first | assumption | exact not_not_intro (by assumption)))]; rfl) | (rw [decide_eq_false (fun h : validM x => by have := h.2.2; omega)]; rfl)), hLow⟩   -- returns .bool false
        · refine walk_to (F := F3) (T := C3) (fuel := 1000) (d := 10) mixed (allF_cons (FactOk.bi rfl rfl rfl rfl rfl rfl (boolT (by omega))) (allF_cons (FactOk.strNeF rfl rfl rfl rfl h2) (allF_cons (FactOk.bi rfl rfl rfl rfl rfl rfl (boolF (by omega))) allF_nil))) (allC_cons (callNameT rfl rfl h1) (allC_cons (callOf rfl rfl rfl rfl hK) allC_nil)) ?_ hh
          exact ostop_end e3 fun w2 hLow hIn => ⟨(by first | (rw [decide_eq_true (show validM x from ⟨by assumption, by assumption, by omega, by omega, by omega, by omega, by omega, by omega, by omega, by omega⟩)]; rfl) | (rw [decide_eq_false (fun h : validM x => absurd h.1 (by assumption))]; rfl) | (rw [decide_eq_false (fun h : validM x => absurd h.2.1 (by first | assumption | exact not_not_intro (by assumption)))]; rfl) | (rw [decide_eq_false (fun h : validM x => by have := h.2.2; omega)]; rfl)), hLow⟩   -- returns .bool false
    · refine walk_to (F := F4) (T := C4) (fuel := 1000) (d := 10) mixed (allF_cons (FactOk.bi rfl rfl rfl rfl rfl rfl (boolT (by omega))) allF_nil) (allC_cons (callNameF rfl rfl h1) allC_nil) ?_ hh
      exact ostop_end e4 fun w2 hLow hIn => ⟨(by first | (rw [decide_eq_true (show validM x from ⟨by assumption, by assumption, by omega, by omega, by omega, by omega, by omega, by omega, by omega, by omega⟩)]; rfl) | (rw [decide_eq_false (fun h : validM x => absurd h.1 (by assumption))]; rfl) | (rw [decide_eq_false (fun h : validM x => absurd h.2.1 (by first | assumption | exact not_not_intro (by assumption)))]; rfl) | (rw [decide_eq_false (fun h : validM x => by have := h.2.2; omega)]; rfl)), hLow⟩   -- returns .bool false
  · by_cases h1 : 15 < x.2.2.2.2.2.1
    · by_cases h2 : nameP x.1
      · by_cases h3 : (kindM x).1 = ([] : Bs)
        · refine walk_to (F := F5) (T := C5) (fuel := 1000) (d := 10) mixed (allF_cons (FactOk.bi rfl rfl rfl rfl rfl rfl (boolF (by omega))) (allF_cons (FactOk.bi rfl rfl rfl rfl rfl rfl (boolT (by omega))) (allF_cons (FactOk.strNeT rfl rfl rfl rfl h3) allF_nil))) (allC_cons (callNameT rfl rfl h2) (allC_cons (callOf rfl rfl rfl rfl hK) allC_nil)) ?_ hh
          exact ostop_end e5 fun w2 hLow hIn => ⟨(by first | (rw [decide_eq_true (show validM x from ⟨by assumption, by assumption, by omega, by omega, by omega, by omega, by omega, by omega, by omega, by omega⟩)]; rfl) | (rw [decide_eq_false (fun h : validM x => absurd h.1 (by assumption))]; rfl) | (rw [decide_eq_false (fun h : validM x => absurd h.2.1 (by first | assumption | exact not_not_intro (by assumption)))]; rfl) | (rw [decide_eq_false (fun h : validM x => by have := h.2.2; omega)]; rfl)), hLow⟩   -- returns .bool false
        · by_cases h4 : 1 ≤ x.2.2.2.2.1
          · by_cases h5 : x.2.2.2.2.1 ≤ 16
            · refine walk_to (F := F6) (T := C6) (fuel := 1000) (d := 10) mixed (allF_cons (FactOk.bi rfl rfl rfl rfl rfl rfl (boolF (by omega))) (allF_cons (FactOk.bi rfl rfl rfl rfl rfl rfl (boolT (by omega))) (allF_cons (FactOk.strNeF rfl rfl rfl rfl h3) (allF_cons (FactOk.bi rfl rfl rfl rfl rfl rfl (boolT (by omega))) (allF_cons (FactOk.bi rfl rfl rfl rfl rfl rfl (boolT (by omega))) allF_nil))))) (allC_cons (callNameT rfl rfl h2) (allC_cons (callOf rfl rfl rfl rfl hK) allC_nil)) ?_ hh
              exact ostop_end e6 fun w2 hLow hIn => ⟨(by first | (rw [decide_eq_true (show validM x from ⟨by assumption, by assumption, by omega, by omega, by omega, by omega, by omega, by omega, by omega, by omega⟩)]; rfl) | (rw [decide_eq_false (fun h : validM x => absurd h.1 (by assumption))]; rfl) | (rw [decide_eq_false (fun h : validM x => absurd h.2.1 (by first | assumption | exact not_not_intro (by assumption)))]; rfl) | (rw [decide_eq_false (fun h : validM x => by have := h.2.2; omega)]; rfl)), hLow⟩   -- returns .bool false
            · refine walk_to (F := F7) (T := C7) (fuel := 1000) (d := 10) mixed (allF_cons (FactOk.bi rfl rfl rfl rfl rfl rfl (boolF (by omega))) (allF_cons (FactOk.bi rfl rfl rfl rfl rfl rfl (boolT (by omega))) (allF_cons (FactOk.strNeF rfl rfl rfl rfl h3) (allF_cons (FactOk.bi rfl rfl rfl rfl rfl rfl (boolT (by omega))) (allF_cons (FactOk.bi rfl rfl rfl rfl rfl rfl (boolF (by omega))) allF_nil))))) (allC_cons (callNameT rfl rfl h2) (allC_cons (callOf rfl rfl rfl rfl hK) allC_nil)) ?_ hh
              exact ostop_end e7 fun w2 hLow hIn => ⟨(by first | (rw [decide_eq_true (show validM x from ⟨by assumption, by assumption, by omega, by omega, by omega, by omega, by omega, by omega, by omega, by omega⟩)]; rfl) | (rw [decide_eq_false (fun h : validM x => absurd h.1 (by assumption))]; rfl) | (rw [decide_eq_false (fun h : validM x => absurd h.2.1 (by first | assumption | exact not_not_intro (by assumption)))]; rfl) | (rw [decide_eq_false (fun h : validM x => by have := h.2.2; omega)]; rfl)), hLow⟩   -- returns .bool false
          · refine walk_to (F := F8) (T := C8) (fuel := 1000) (d := 10) mixed (allF_cons (FactOk.bi rfl rfl rfl rfl rfl rfl (boolF (by omega))) (allF_cons (FactOk.bi rfl rfl rfl rfl rfl rfl (boolT (by omega))) (allF_cons (FactOk.strNeF rfl rfl rfl rfl h3) (allF_cons (FactOk.bi rfl rfl rfl rfl rfl rfl (boolF (by omega))) allF_nil)))) (allC_cons (callNameT rfl rfl h2) (allC_cons (callOf rfl rfl rfl rfl hK) allC_nil)) ?_ hh
            exact ostop_end e8 fun w2 hLow hIn => ⟨(by first | (rw [decide_eq_true (show validM x from ⟨by assumption, by assumption, by omega, by omega, by omega, by omega, by omega, by omega, by omega, by omega⟩)]; rfl) | (rw [decide_eq_false (fun h : validM x => absurd h.1 (by assumption))]; rfl) | (rw [decide_eq_false (fun h : validM x => absurd h.2.1 (by first | assumption | exact not_not_intro (by assumption)))]; rfl) | (rw [decide_eq_false (fun h : validM x => by have := h.2.2; omega)]; rfl)), hLow⟩   -- returns .bool false
      · refine walk_to (F := F9) (T := C9) (fuel := 1000) (d := 10) mixed (allF_cons (FactOk.bi rfl rfl rfl rfl rfl rfl (boolF (by omega))) (allF_cons (FactOk.bi rfl rfl rfl rfl rfl rfl (boolT (by omega))) allF_nil)) (allC_cons (callNameF rfl rfl h2) allC_nil) ?_ hh
        exact ostop_end e9 fun w2 hLow hIn => ⟨(by first | (rw [decide_eq_true (show validM x from ⟨by assumption, by assumption, by omega, by omega, by omega, by omega, by omega, by omega, by omega, by omega⟩)]; rfl) | (rw [decide_eq_false (fun h : validM x => absurd h.1 (by assumption))]; rfl) | (rw [decide_eq_false (fun h : validM x => absurd h.2.1 (by first | assumption | exact not_not_intro (by assumption)))]; rfl) | (rw [decide_eq_false (fun h : validM x => by have := h.2.2; omega)]; rfl)), hLow⟩   -- returns .bool false
    · by_cases h2 : x.2.2.2.2.2.2.1 < 0
      · by_cases h3 : nameP x.1
        · by_cases h4 : (kindM x).1 = ([] : Bs)
          · refine walk_to (F := F10) (T := C10) (fuel := 1000) (d := 10) mixed (allF_cons (FactOk.bi rfl rfl rfl rfl rfl rfl (boolF (by omega))) (allF_cons (FactOk.bi rfl rfl rfl rfl rfl rfl (boolF (by omega))) (allF_cons (FactOk.bi rfl rfl rfl rfl rfl rfl (boolT (by omega))) (allF_cons (FactOk.strNeT rfl rfl rfl rfl h4) allF_nil)))) (allC_cons (callNameT rfl rfl h3) (allC_cons (callOf rfl rfl rfl rfl hK) allC_nil)) ?_ hh
            exact ostop_end e10 fun w2 hLow hIn => ⟨(by first | (rw [decide_eq_true (show validM x from ⟨by assumption, by assumption, by omega, by omega, by omega, by omega, by omega, by omega, by omega, by omega⟩)]; rfl) | (rw [decide_eq_false (fun h : validM x => absurd h.1 (by assumption))]; rfl) | (rw [decide_eq_false (fun h : validM x => absurd h.2.1 (by first | assumption | exact not_not_intro (by assumption)))]; rfl) | (rw [decide_eq_false (fun h : validM x => by have := h.2.2; omega)]; rfl)), hLow⟩   -- returns .bool false
          · by_cases h5 : 1 ≤ x.2.2.2.2.1
            · by_cases h6 : x.2.2.2.2.1 ≤ 16
              · refine walk_to (F := F11) (T := C11) (fuel := 1000) (d := 10) mixed (allF_cons (FactOk.bi rfl rfl rfl rfl rfl rfl (boolF (by omega))) (allF_cons (FactOk.bi rfl rfl rfl rfl rfl rfl (boolF (by omega))) (allF_cons (FactOk.bi rfl rfl rfl rfl rfl rfl (boolT (by omega))) (allF_cons (FactOk.strNeF rfl rfl rfl rfl h4) (allF_cons (FactOk.bi rfl rfl rfl rfl rfl rfl (boolT (by omega))) (allF_cons (FactOk.bi rfl rfl rfl rfl rfl rfl (boolT (by omega))) allF_nil)))))) (allC_cons (callNameT rfl rfl h3) (allC_cons (callOf rfl rfl rfl rfl hK) allC_nil)) ?_ hh
                exact ostop_end e11 fun w2 hLow hIn => ⟨(by first | (rw [decide_eq_true (show validM x from ⟨by assumption, by assumption, by omega, by omega, by omega, by omega, by omega, by omega, by omega, by omega⟩)]; rfl) | (rw [decide_eq_false (fun h : validM x => absurd h.1 (by assumption))]; rfl) | (rw [decide_eq_false (fun h : validM x => absurd h.2.1 (by first | assumption | exact not_not_intro (by assumption)))]; rfl) | (rw [decide_eq_false (fun h : validM x => by have := h.2.2; omega)]; rfl)), hLow⟩   -- returns .bool false
              · refine walk_to (F := F12) (T := C12) (fuel := 1000) (d := 10) mixed (allF_cons (FactOk.bi rfl rfl rfl rfl rfl rfl (boolF (by omega))) (allF_cons (FactOk.bi rfl rfl rfl rfl rfl rfl (boolF (by omega))) (allF_cons (FactOk.bi rfl rfl rfl rfl rfl rfl (boolT (by omega))) (allF_cons (FactOk.strNeF rfl rfl rfl rfl h4) (allF_cons (FactOk.bi rfl rfl rfl rfl rfl rfl (boolT (by omega))) (allF_cons (FactOk.bi rfl rfl rfl rfl rfl rfl (boolF (by omega))) allF_nil)))))) (allC_cons (callNameT rfl rfl h3) (allC_cons (callOf rfl rfl rfl rfl hK) allC_nil)) ?_ hh
                exact ostop_end e12 fun w2 hLow hIn => ⟨(by first | (rw [decide_eq_true (show validM x from ⟨by assumption, by assumption, by omega, by omega, by omega, by omega, by omega, by omega, by omega, by omega⟩)]; rfl) | (rw [decide_eq_false (fun h : validM x => absurd h.1 (by assumption))]; rfl) | (rw [decide_eq_false (fun h : validM x => absurd h.2.1 (by first | assumption | exact not_not_intro (by assumption)))]; rfl) | (rw [decide_eq_false (fun h : validM x => by have := h.2.2; omega)]; rfl)), hLow⟩   -- returns .bool false
            · refine walk_to (F := F13) (T := C13) (fuel := 1000) (d := 10) mixed (allF_cons (FactOk.bi rfl rfl rfl rfl rfl rfl (boolF (by omega))) (allF_cons (FactOk.bi rfl rfl rfl rfl rfl rfl (boolF (by omega))) (allF_cons (FactOk.bi rfl rfl rfl rfl rfl rfl (boolT (by omega))) (allF_cons (FactOk.strNeF rfl rfl rfl rfl h4) (allF_cons (FactOk.bi rfl rfl rfl rfl rfl rfl (boolF (by omega))) allF_nil))))) (allC_cons (callNameT rfl rfl h3) (allC_cons (callOf rfl rfl rfl rfl hK) allC_nil)) ?_ hh
              exact ostop_end e13 fun w2 hLow hIn => ⟨(by first | (rw [decide_eq_true (show validM x from ⟨by assumption, by assumption, by omega, by omega, by omega, by omega, by omega, by omega, by omega, by omega⟩)]; rfl) | (rw [decide_eq_false (fun h : validM x => absurd h.1 (by assumption))]; rfl) | (rw [decide_eq_false (fun h : validM x => absurd h.2.1 (by first | assumption | exact not_not_intro (by assumption)))]; rfl) | (rw [decide_eq_false (fun h : validM x => by have := h.2.2; omega)]; rfl)), hLow⟩   -- returns .bool false
        · refine walk_to (F := F14) (T := C14) (fuel := 1000) (d := 10) mixed (allF_cons (FactOk.bi rfl rfl rfl rfl rfl rfl (boolF (by omega))) (allF_cons (FactOk.bi rfl rfl rfl rfl rfl rfl (boolF (by omega))) (allF_cons (FactOk.bi rfl rfl rfl rfl rfl rfl (boolT (by omega))) allF_nil))) (allC_cons (callNameF rfl rfl h3) allC_nil) ?_ hh
          exact ostop_end e14 fun w2 hLow hIn => ⟨(by first | (rw [decide_eq_true (show validM x from ⟨by assumption, by assumption, by omega, by omega, by omega, by omega, by omega, by omega, by omega, by omega⟩)]; rfl) | (rw [decide_eq_false (fun h : validM x => absurd h.1 (by assumption))]; rfl) | (rw [decide_eq_false (fun h : validM x => absurd h.2.1 (by first | assumption | exact not_not_intro (by assumption)))]; rfl) | (rw [decide_eq_false (fun h : validM x => by have := h.2.2; omega)]; rfl)), hLow⟩   -- returns .bool false
      · by_cases h3 : 15 < x.2.2.2.2.2.2.1
        · by_cases h4 : nameP x.1
          · by_cases h5 : (kindM x).1 = ([] : Bs)
            · refine walk_to (F := F15) (T := C15) (fuel := 1000) (d := 10) mixed (allF_cons (FactOk.bi rfl rfl rfl rfl rfl rfl (boolF (by omega))) (allF_cons (FactOk.bi rfl rfl rfl rfl rfl rfl (boolF (by omega))) (allF_cons (FactOk.bi rfl rfl rfl rfl rfl rfl (boolF (by omega))) (allF_cons (FactOk.bi rfl rfl rfl rfl rfl rfl (boolT (by omega))) (allF_cons (FactOk.strNeT rfl rfl rfl rfl h5) allF_nil))))) (allC_cons (callNameT rfl rfl h4) (allC_cons (callOf rfl rfl rfl rfl hK) allC_nil)) ?_ hh
              exact ostop_end e15 fun w2 hLow hIn => ⟨(by first | (rw [decide_eq_true (show validM x from ⟨by assumption, by assumption, by omega, by omega, by omega, by omega, by omega, by omega, by omega, by omega⟩)]; rfl) | (rw [decide_eq_false (fun h : validM x => absurd h.1 (by assumption))]; rfl) | (rw [decide_eq_false (fun h : validM x => absurd h.2.1 (by first | assumption | exact not_not_intro (by assumption)))]; rfl) | (rw [decide_eq_false (fun h : validM x => by have := h.2.2; omega)]; rfl)), hLow⟩   -- returns .bool false
            · by_cases h6 : 1 ≤ x.2.2.2.2.1
              · by_cases h7 : x.2.2.2.2.1 ≤ 16
                · refine walk_to (F := F16) (T := C16) (fuel := 1000) (d := 10) mixed (allF_cons (FactOk.bi rfl rfl rfl rfl rfl rfl (boolF (by omega))) (allF_cons (FactOk.bi rfl rfl rfl rfl rfl rfl (boolF (by omega))) (allF_cons (FactOk.bi rfl rfl rfl rfl rfl rfl (boolF (by omega))) (allF_cons (FactOk.bi rfl rfl rfl rfl rfl rfl (boolT (by omega))) (allF_cons (FactOk.strNeF rfl rfl rfl rfl h5) (allF_cons (FactOk.bi rfl rfl rfl rfl rfl rfl (boolT (by omega))) (allF_cons (FactOk.bi rfl rfl rfl rfl rfl rfl (boolT (by omega))) allF_nil))))))) (allC_cons (callNameT rfl rfl h4) (allC_cons (callOf rfl rfl rfl rfl hK) allC_nil)) ?_ hh
                  exact ostop_end e16 fun w2 hLow hIn => ⟨(by first | (rw [decide_eq_true (show validM x from ⟨by assumption, by assumption, by omega, by omega, by omega, by omega, by omega, by omega, by omega, by omega⟩)]; rfl) | (rw [decide_eq_false (fun h : validM x => absurd h.1 (by assumption))]; rfl) | (rw [decide_eq_false (fun h : validM x => absurd h.2.1 (by first | assumption | exact not_not_intro (by assumption)))]; rfl) | (rw [decide_eq_false (fun h : validM x => by have := h.2.2; omega)]; rfl)), hLow⟩   -- returns .bool false
                · refine walk_to (F := F17) (T := C17) (fuel := 1000) (d := 10) mixed (allF_cons (FactOk.bi rfl rfl rfl rfl rfl rfl (boolF (by omega))) (allF_cons (FactOk.bi rfl rfl rfl rfl rfl rfl (boolF (by omega))) (allF_cons (FactOk.bi rfl rfl rfl rfl rfl rfl (boolF (by omega))) (allF_cons (FactOk.bi rfl rfl rfl rfl rfl rfl (boolT (by omega))) (allF_cons (FactOk.strNeF rfl rfl rfl rfl h5) (allF_cons (FactOk.bi rfl rfl rfl rfl rfl rfl (boolT (by omega))) (allF_cons (FactOk.bi rfl rfl rfl rfl rfl rfl (boolF (by omega))) allF_nil))))))) (allC_cons (callNameT rfl rfl h4) (allC_cons (callOf rfl rfl rfl rfl hK) allC_nil)) ?_ hh
                  exact ostop_end e17 fun w2 hLow hIn => ⟨(by first | (rw [decide_eq_true (show validM x from ⟨by assumption, by assumption, by omega, by omega, by omega, by omega, by omega, by omega, by omega, by omega⟩)]; rfl) | (rw [decide_eq_false (fun h : validM x => absurd h.1 (by assumption))]; rfl) | (rw [decide_eq_false (fun h : validM x => absurd h.2.1 (by first | assumption | exact not_not_intro (by assumption)))]; rfl) | (rw [decide_eq_false (fun h : validM x => by have := h.2.2; omega)]; rfl)), hLow⟩   -- returns .bool false
              · refine walk_to (F := F18) (T := C18) (fuel := 1000) (d := 10) mixed (allF_cons (FactOk.bi rfl rfl rfl rfl rfl rfl (boolF (by omega))) (allF_cons (FactOk.bi rfl rfl rfl rfl rfl rfl (boolF (by omega))) (allF_cons (FactOk.bi rfl rfl rfl rfl rfl rfl (boolF (by omega))) (allF_cons (FactOk.bi rfl rfl rfl rfl rfl rfl (boolT (by omega))) (allF_cons (FactOk.strNeF rfl rfl rfl rfl h5) (allF_cons (FactOk.bi rfl rfl rfl rfl rfl rfl (boolF (by omega))) allF_nil)))))) (allC_cons (callNameT rfl rfl h4) (allC_cons (callOf rfl rfl rfl rfl hK) allC_nil)) ?_ hh
                exact ostop_end e18 fun w2 hLow hIn => ⟨(by first | (rw [decide_eq_true (show validM x from ⟨by assumption, by assumption, by omega, by omega, by omega, by omega, by omega, by omega, by omega, by omega⟩)]; rfl) | (rw [decide_eq_false (fun h : validM x => absurd h.1 (by assumption))]; rfl) | (rw [decide_eq_false (fun h : validM x => absurd h.2.1 (by first | assumption | exact not_not_intro (by assumption)))]; rfl) | (rw [decide_eq_false (fun h : validM x => by have := h.2.2; omega)]; rfl)), hLow⟩   -- returns .bool false
          · refine walk_to (F := F19) (T := C19) (fuel := 1000) (d := 10) mixed (allF_cons (FactOk.bi rfl rfl rfl rfl rfl rfl (boolF (by omega))) (allF_cons (FactOk.bi rfl rfl rfl rfl rfl rfl (boolF (by omega))) (allF_cons (FactOk.bi rfl rfl rfl rfl rfl rfl (boolF (by omega))) (allF_cons (FactOk.bi rfl rfl rfl rfl rfl rfl (boolT (by omega))) allF_nil)))) (allC_cons (callNameF rfl rfl h4) allC_nil) ?_ hh
            exact ostop_end e19 fun w2 hLow hIn => ⟨(by first | (rw [decide_eq_true (show validM x from ⟨by assumption, by assumption, by omega, by omega, by omega, by omega, by omega, by omega, by omega, by omega⟩)]; rfl) | (rw [decide_eq_false (fun h : validM x => absurd h.1 (by assumption))]; rfl) | (rw [decide_eq_false (fun h : validM x => absurd h.2.1 (by first | assumption | exact not_not_intro (by assumption)))]; rfl) | (rw [decide_eq_false (fun h : validM x => by have := h.2.2; omega)]; rfl)), hLow⟩   -- returns .bool false
        · by_cases h4 : x.2.2.2.2.2.2.2 < 0
          · by_cases h5 : nameP x.1
            · by_cases h6 : (kindM x).1 = ([] : Bs)
              · refine walk_to (F := F20) (T := C20) (fuel := 1000) (d := 10) mixed (allF_cons (FactOk.bi rfl rfl rfl rfl rfl rfl (boolF (by omega))) (allF_cons (FactOk.bi rfl rfl rfl rfl rfl rfl (boolF (by omega))) (allF_cons (FactOk.bi rfl rfl rfl rfl rfl rfl (boolF (by omega))) (allF_cons (FactOk.bi rfl rfl rfl rfl rfl rfl (boolF (by omega))) (allF_cons (FactOk.bi rfl rfl rfl rfl rfl rfl (boolT (by omega))) (allF_cons (FactOk.strNeT rfl rfl rfl rfl h6) allF_nil)))))) (allC_cons (callNameT rfl rfl h5) (allC_cons (callOf rfl rfl rfl rfl hK) allC_nil)) ?_ hh
                exact ostop_end e20 fun w2 hLow hIn => ⟨(by first | (rw [decide_eq_true (show validM x from ⟨by assumption, by assumption, by omega, by omega, by omega, by omega, by omega, by omega, by omega, by omega⟩)]; rfl) | (rw [decide_eq_false (fun h : validM x => absurd h.1 (by assumption))]; rfl) | (rw [decide_eq_false (fun h : validM x => absurd h.2.1 (by first | assumption | exact not_not_intro (by assumption)))]; rfl) | (rw [decide_eq_false (fun h : validM x => by have := h.2.2; omega)]; rfl)), hLow⟩   -- returns .bool false
              · by_cases h7 : 1 ≤ x.2.2.2.2.1
                · by_cases h8 : x.2.2.2.2.1 ≤ 16
                  · refine walk_to (F := F21) (T := C21) (fuel := 1000) (d := 10) mixed (allF_cons (FactOk.bi rfl rfl rfl rfl rfl rfl (boolF (by omega))) (allF_cons (FactOk.bi rfl rfl rfl rfl rfl rfl (boolF (by omega))) (allF_cons (FactOk.bi rfl rfl rfl rfl rfl rfl (boolF (by omega))) (allF_cons (FactOk.bi rfl rfl rfl rfl rfl rfl (boolF (by omega))) (allF_cons (FactOk.bi rfl rfl rfl rfl rfl rfl (boolT (by omega))) (allF_cons (FactOk.strNeF rfl rfl rfl rfl h6) (allF_cons (FactOk.bi rfl rfl rfl rfl rfl rfl (boolT (by omega))) (allF_cons (FactOk.bi rfl rfl rfl rfl rfl rfl (boolT (by omega))) allF_nil)))))))) (allC_cons (callNameT rfl rfl h5) (allC_cons (callOf rfl rfl rfl rfl hK) allC_nil)) ?_ hh
                    exact ostop_end e21 fun w2 hLow hIn => ⟨(by first | (rw [decide_eq_true (show validM x from ⟨by assumption, by assumption, by omega, by omega, by omega, by omega, by omega, by omega, by omega, by omega⟩)]; rfl) | (rw [decide_eq_false (fun h : validM x => absurd h.1 (by assumption))]; rfl) | (rw [decide_eq_false (fun h : validM x => absurd h.2.1 (by first | assumption | exact not_not_intro (by assumption)))]; rfl) | (rw [decide_eq_false (fun h : validM x => by have := h.2.2; omega)]; rfl)), hLow⟩   -- returns .bool false
                  · refine walk_to (F := F22) (T := C22) (fuel := 1000) (d := 10) mixed (allF_cons (FactOk.bi rfl rfl rfl rfl rfl rfl (boolF (by omega))) (allF_cons (FactOk.bi rfl rfl rfl rfl rfl rfl (boolF (by omega))) (allF_cons (FactOk.bi rfl rfl rfl rfl rfl rfl (boolF (by omega))) (allF_cons (FactOk.bi rfl rfl rfl rfl rfl rfl (boolF (by omega))) (allF_cons (FactOk.bi rfl rfl rfl rfl rfl rfl (boolT (by omega))) (allF_cons (FactOk.strNeF rfl rfl rfl rfl h6) (allF_cons (FactOk.bi rfl rfl rfl rfl rfl rfl (boolT (by omega))) (allF_cons (FactOk.bi rfl rfl rfl rfl rfl rfl (boolF (by omega))) allF_nil)))))))) (allC_cons (callNameT rfl rfl h5) (allC_cons (callOf rfl rfl rfl rfl hK) allC_nil)) ?_ hh
                    exact ostop_end e22 fun w2 hLow hIn => ⟨(by first | (rw [decide_eq_true (show validM x from ⟨by assumption, by assumption, by omega, by omega, by omega, by omega, by omega, by omega, by omega, by omega⟩)]; rfl) | (rw [decide_eq_false (fun h : validM x => absurd h.1 (by assumption))]; rfl) | (rw [decide_eq_false (fun h : validM x => absurd h.2.1 (by first | assumption | exact not_not_intro (by assumption)))]; rfl) | (rw [decide_eq_false (fun h : validM x => by have := h.2.2; omega)]; rfl)), hLow⟩   -- returns .bool false
                · refine walk_to (F := F23) (T := C23) (fuel := 1000) (d := 10) mixed (allF_cons (FactOk.bi rfl rfl rfl rfl rfl rfl (boolF (by omega))) (allF_cons (FactOk.bi rfl rfl rfl rfl rfl rfl (boolF (by omega))) (allF_cons (FactOk.bi rfl rfl rfl rfl rfl rfl (boolF (by omega))) (allF_cons (FactOk.bi rfl rfl rfl rfl rfl rfl (boolF (by omega))) (allF_cons (FactOk.bi rfl rfl rfl rfl rfl rfl (boolT (by omega))) (allF_cons (FactOk.strNeF rfl rfl rfl rfl h6) (allF_cons (FactOk.bi rfl rfl rfl rfl rfl rfl (boolF (by omega))) allF_nil))))))) (allC_cons (callNameT rfl rfl h5) (allC_cons (callOf rfl rfl rfl rfl hK) allC_nil)) ?_ hh
                  exact ostop_end e23 fun w2 hLow hIn => ⟨(by first | (rw [decide_eq_true (show validM x from ⟨by assumption, by assumption, by omega, by omega, by omega, by omega, by omega, by omega, by omega, by omega⟩)]; rfl) | (rw [decide_eq_false (fun h : validM x => absurd h.1 (by assumption))]; rfl) | (rw [decide_eq_false (fun h : validM x => absurd h.2.1 (by first | assumption | exact not_not_intro (by assumption)))]; rfl) | (rw [decide_eq_false (fun h : validM x => by have := h.2.2; omega)]; rfl)), hLow⟩   -- returns .bool false
            · refine walk_to (F := F24) (T := C24) (fuel := 1000) (d := 10) mixed (allF_cons (FactOk.bi rfl rfl rfl rfl rfl rfl (boolF (by omega))) (allF_cons (FactOk.bi rfl rfl rfl rfl rfl rfl (boolF (by omega))) (allF_cons (FactOk.bi rfl rfl rfl rfl rfl rfl (boolF (by omega))) (allF_cons (FactOk.bi rfl rfl rfl rfl rfl rfl (boolF (by omega))) (allF_cons (FactOk.bi rfl rfl rfl rfl rfl rfl (boolT (by omega))) allF_nil))))) (allC_cons (callNameF rfl rfl h5) allC_nil) ?_ hh
              exact ostop_end e24 fun w2 hLow hIn => ⟨(by first | (rw [decide_eq_true (show validM x from ⟨by assumption, by assumption, by omega, by omega, by omega, by omega, by omega, by omega, by omega, by omega⟩)]; rfl) | (rw [decide_eq_false (fun h : validM x => absurd h.1 (by assumption))]; rfl) | (rw [decide_eq_false (fun h : validM x => absurd h.2.1 (by first | assumption | exact not_not_intro (by assumption)))]; rfl) | (rw [decide_eq_false (fun h : validM x => by have := h.2.2; omega)]; rfl)), hLow⟩   -- returns .bool false
          · by_cases h5 : 15 < x.2.2.2.2.2.2.2
            · by_cases h6 : nameP x.1
              · by_cases h7 : (kindM x).1 = ([] : Bs)
                · refine walk_to (F := F25) (T := C25) (fuel := 1000) (d := 10) mixed (allF_cons (FactOk.bi rfl rfl rfl rfl rfl rfl (boolF (by omega))) (allF_cons (FactOk.bi rfl rfl rfl rfl rfl rfl (boolF (by omega))) (allF_cons (FactOk.bi rfl rfl rfl rfl rfl rfl (boolF (by omega))) (allF_cons (FactOk.bi rfl rfl rfl rfl rfl rfl (boolF (by omega))) (allF_cons (FactOk.bi rfl rfl rfl rfl rfl rfl (boolF (by omega))) (allF_cons (FactOk.bi rfl rfl rfl rfl rfl rfl (boolT (by omega))) (allF_cons (FactOk.strNeT rfl rfl rfl rfl h7) allF_nil))))))) (allC_cons (callNameT rfl rfl h6) (allC_cons (callOf rfl rfl rfl rfl hK) allC_nil)) ?_ hh
                  exact ostop_end e25 fun w2 hLow hIn => ⟨(by first | (rw [decide_eq_true (show validM x from ⟨by assumption, by assumption, by omega, by omega, by omega, by omega, by omega, by omega, by omega, by omega⟩)]; rfl) | (rw [decide_eq_false (fun h : validM x => absurd h.1 (by assumption))]; rfl) | (rw [decide_eq_false (fun h : validM x => absurd h.2.1 (by first | assumption | exact not_not_intro (by assumption)))]; rfl) | (rw [decide_eq_false (fun h : validM x => by have := h.2.2; omega)]; rfl)), hLow⟩   -- returns .bool false
                · by_cases h8 : 1 ≤ x.2.2.2.2.1
                  · by_cases h9 : x.2.2.2.2.1 ≤ 16
                    · refine walk_to (F := F26) (T := C26) (fuel := 1000) (d := 10) mixed (allF_cons (FactOk.bi rfl rfl rfl rfl rfl rfl (boolF (by omega))) (allF_cons (FactOk.bi rfl rfl rfl rfl rfl rfl (boolF (by omega))) (allF_cons (FactOk.bi rfl rfl rfl rfl rfl rfl (boolF (by omega))) (allF_cons (FactOk.bi rfl rfl rfl rfl rfl rfl (boolF (by omega))) (allF_cons (FactOk.bi rfl rfl rfl rfl rfl rfl (boolF (by omega))) (allF_cons (FactOk.bi rfl rfl rfl rfl rfl rfl (boolT (by omega))) (allF_cons (FactOk.strNeF rfl rfl rfl rfl h7) (allF_cons (FactOk.bi rfl rfl rfl rfl rfl rfl (boolT (by omega))) (allF_cons (FactOk.bi rfl rfl rfl rfl rfl rfl (boolT (by omega))) allF_nil))))))))) (allC_cons (callNameT rfl rfl h6) (allC_cons (callOf rfl rfl rfl rfl hK) allC_nil)) ?_ hh
                      exact ostop_end e26 fun w2 hLow hIn => ⟨(by first | (rw [decide_eq_true (show validM x from ⟨by assumption, by assumption, by omega, by omega, by omega, by omega, by omega, by omega, by omega, by omega⟩)]; rfl) | (rw [decide_eq_false (fun h : validM x => absurd h.1 (by assumption))]; rfl) | (rw [decide_eq_false (fun h : validM x => absurd h.2.1 (by first | assumption | exact not_not_intro (by assumption)))]; rfl) | (rw [decide_eq_false (fun h : validM x => by have := h.2.2; omega)]; rfl)), hLow⟩   -- returns .bool false
                    · refine walk_to (F := F27) (T := C27) (fuel := 1000) (d := 10) mixed (allF_cons (FactOk.bi rfl rfl rfl rfl rfl rfl (boolF (by omega))) (allF_cons (FactOk.bi rfl rfl rfl rfl rfl rfl (boolF (by omega))) (allF_cons (FactOk.bi rfl rfl rfl rfl rfl rfl (boolF (by omega))) (allF_cons (FactOk.bi rfl rfl rfl rfl rfl rfl (boolF (by omega))) (allF_cons (FactOk.bi rfl rfl rfl rfl rfl rfl (boolF (by omega))) (allF_cons (FactOk.bi rfl rfl rfl rfl rfl rfl (boolT (by omega))) (allF_cons (FactOk.strNeF rfl rfl rfl rfl h7) (allF_cons (FactOk.bi rfl rfl rfl rfl rfl rfl (boolT (by omega))) (allF_cons (FactOk.bi rfl rfl rfl rfl rfl rfl (boolF (by omega))) allF_nil))))))))) (allC_cons (callNameT rfl rfl h6) (allC_cons (callOf rfl rfl rfl rfl hK) allC_nil)) ?_ hh
                      exact ostop_end e27 fun w2 hLow hIn => ⟨(by first | (rw [decide_eq_true (show validM x from ⟨by assumption, by assumption, by omega, by omega, by omega, by omega, by omega, by omega, by omega, by omega⟩)]; rfl) | (rw [decide_eq_false (fun h : validM x => absurd h.1 (by assumption))]; rfl) | (rw [decide_eq_false (fun h : validM x => absurd h.2.1 (by first | assumption | exact not_not_intro (by assumption)))]; rfl) | (rw [decide_eq_false (fun h : validM x => by have := h.2.2; omega)]; rfl)), hLow⟩   -- returns .bool false
                  · refine walk_to (F := F28) (T := C28) (fuel := 1000) (d := 10) mixed (allF_cons (FactOk.bi rfl rfl rfl rfl rfl rfl (boolF (by omega))) (allF_cons (FactOk.bi rfl rfl rfl rfl rfl rfl (boolF (by omega))) (allF_cons (FactOk.bi rfl rfl rfl rfl rfl rfl (boolF (by omega))) (allF_cons (FactOk.bi rfl rfl rfl rfl rfl rfl (boolF (by omega))) (allF_cons (FactOk.bi rfl rfl rfl rfl rfl rfl (boolF (by omega))) (allF_cons (FactOk.bi rfl rfl rfl rfl rfl rfl (boolT (by omega))) (allF_cons (FactOk.strNeF rfl rfl rfl rfl h7) (allF_cons (FactOk.bi rfl rfl rfl rfl rfl rfl (boolF (by omega))) allF_nil)))))))) (allC_cons (callNameT rfl rfl h6) (allC_cons (callOf rfl rfl rfl rfl hK) allC_nil)) ?_ hh
                    exact ostop_end e28 fun w2 hLow hIn => ⟨(by first | (rw [decide_eq_true (show validM x from ⟨by assumption, by assumption, by omega, by omega, by omega, by omega, by omega, by omega, by omega, by omega⟩)]; rfl) | (rw [decide_eq_false (fun h : validM x => absurd h.1 (by assumption))]; rfl) | (rw [decide_eq_false (fun h : validM x => absurd h.2.1 (by first | assumption | exact not_not_intro (by assumption)))]; rfl) | (rw [decide_eq_false (fun h : validM x => by have := h.2.2; omega)]; rfl)), hLow⟩   -- returns .bool false
              · refine walk_to (F := F29) (T := C29) (fuel := 1000) (d := 10) mixed (allF_cons (FactOk.bi rfl rfl rfl rfl rfl rfl (boolF (by omega))) (allF_cons (FactOk.bi rfl rfl rfl rfl rfl rfl (boolF (by omega))) (allF_cons (FactOk.bi rfl rfl rfl rfl rfl rfl (boolF (by omega))) (allF_cons (FactOk.bi rfl rfl rfl rfl rfl rfl (boolF (by omega))) (allF_cons (FactOk.bi rfl rfl rfl rfl rfl rfl (boolF (by omega))) (allF_cons (FactOk.bi rfl rfl rfl rfl rfl rfl (boolT (by omega))) allF_nil)))))) (allC_cons (callNameF rfl rfl h6) allC_nil) ?_ hh
                exact ostop_end e29 fun w2 hLow hIn => ⟨(by first | (rw [decide_eq_true (show validM x from ⟨by assumption, by assumption, by omega, by omega, by omega, by omega, by omega, by omega, by omega, by omega⟩)]; rfl) | (rw [decide_eq_false (fun h : validM x => absurd h.1 (by assumption))]; rfl) | (rw [decide_eq_false (fun h : validM x => absurd h.2.1 (by first | assumption | exact not_not_intro (by assumption)))]; rfl) | (rw [decide_eq_false (fun h : validM x => by have := h.2.2; omega)]; rfl)), hLow⟩   -- returns .bool false
            · by_cases h6 : nameP x.1
              · by_cases h7 : (kindM x).1 = ([] : Bs)
                · refine walk_to (F := F30) (T := C30) (fuel := 1000) (d := 10) mixed (allF_cons (FactOk.bi rfl rfl rfl rfl rfl rfl (boolF (by omega))) (allF_cons (FactOk.bi rfl rfl rfl rfl rfl rfl (boolF (by omega))) (allF_cons (FactOk.bi rfl rfl rfl rfl rfl rfl (boolF (by omega))) (allF_cons (FactOk.bi rfl rfl rfl rfl rfl rfl (boolF (by omega))) (allF_cons (FactOk.bi rfl rfl rfl rfl rfl rfl (boolF (by omega))) (allF_cons (FactOk.bi rfl rfl rfl rfl rfl rfl (boolF (by omega))) (allF_cons (FactOk.strNeT rfl rfl rfl rfl h7) allF_nil))))))) (allC_cons (callNameT rfl rfl h6) (allC_cons (callOf rfl rfl rfl rfl hK) allC_nil)) ?_ hh
                  exact ostop_end e30 fun w2 hLow hIn => ⟨(by first | (rw [decide_eq_true (show validM x from ⟨by assumption, by assumption, by omega, by omega, by omega, by omega, by omega, by omega, by omega, by omega⟩)]; rfl) | (rw [decide_eq_false (fun h : validM x => absurd h.1 (by assumption))]; rfl) | (rw [decide_eq_false (fun h : validM x => absurd h.2.1 (by first | assumption | exact not_not_intro (by assumption)))]; rfl) | (rw [decide_eq_false (fun h : validM x => by have := h.2.2; omega)]; rfl)), hLow⟩   -- returns .bool false
                · by_cases h8 : 1 ≤ x.2.2.2.2.1
                  · by_cases h9 : x.2.2.2.2.1 ≤ 16
                    · refine walk_to (F := F31) (T := C31) (fuel := 1000) (d := 10) mixed (allF_cons (FactOk.bi rfl rfl rfl rfl rfl rfl (boolF (by omega))) (allF_cons (FactOk.bi rfl rfl rfl rfl rfl rfl (boolF (by omega))) (allF_cons (FactOk.bi rfl rfl rfl rfl rfl rfl (boolF (by omega))) (allF_cons (FactOk.bi rfl rfl rfl rfl rfl rfl (boolF (by omega))) (allF_cons (FactOk.bi rfl rfl rfl rfl rfl rfl (boolF (by omega))) (allF_cons (FactOk.bi rfl rfl rfl rfl rfl rfl (boolF (by omega))) (allF_cons (FactOk.strNeF rfl rfl rfl rfl h7) (allF_cons (FactOk.bi rfl rfl rfl rfl rfl rfl (boolT (by omega))) (allF_cons (FactOk.bi rfl rfl rfl rfl rfl rfl (boolT (by omega))) allF_nil))))))))) (allC_cons (callNameT rfl rfl h6) (allC_cons (callOf rfl rfl rfl rfl hK) allC_nil)) ?_ hh
                      exact ostop_end e31 fun w2 hLow hIn => ⟨(by first | (rw [decide_eq_true (show validM x from ⟨by assumption, by assumption, by omega, by omega, by omega, by omega, by omega, by omega, by omega, by omega⟩)]; rfl) | (rw [decide_eq_false (fun h : validM x => absurd h.1 (by assumption))]; rfl) | (rw [decide_eq_false (fun h : validM x => absurd h.2.1 (by first | assumption | exact not_not_intro (by assumption)))]; rfl) | (rw [decide_eq_false (fun h : validM x => by have := h.2.2; omega)]; rfl)), hLow⟩   -- returns .bool true
                    · refine walk_to (F := F32) (T := C32) (fuel := 1000) (d := 10) mixed (allF_cons (FactOk.bi rfl rfl rfl rfl rfl rfl (boolF (by omega))) (allF_cons (FactOk.bi rfl rfl rfl rfl rfl rfl (boolF (by omega))) (allF_cons (FactOk.bi rfl rfl rfl rfl rfl rfl (boolF (by omega))) (allF_cons (FactOk.bi rfl rfl rfl rfl rfl rfl (boolF (by omega))) (allF_cons (FactOk.bi rfl rfl rfl rfl rfl rfl (boolF (by omega))) (allF_cons (FactOk.bi rfl rfl rfl rfl rfl rfl (boolF (by omega))) (allF_cons (FactOk.strNeF rfl rfl rfl rfl h7) (allF_cons (FactOk.bi rfl rfl rfl rfl rfl rfl (boolT (by omega))) (allF_cons (FactOk.bi rfl rfl rfl rfl rfl rfl (boolF (by omega))) allF_nil))))))))) (allC_cons (callNameT rfl rfl h6) (allC_cons (callOf rfl rfl rfl rfl hK) allC_nil)) ?_ hh
                      exact ostop_end e32 fun w2 hLow hIn => ⟨(by first | (rw [decide_eq_true (show validM x from ⟨by assumption, by assumption, by omega, by omega, by omega, by omega, by omega, by omega, by omega, by omega⟩)]; rfl) | (rw [decide_eq_false (fun h : validM x => absurd h.1 (by assumption))]; rfl) | (rw [decide_eq_false (fun h : validM x => absurd h.2.1 (by first | assumption | exact not_not_intro (by assumption)))]; rfl) | (rw [decide_eq_false (fun h : validM x => by have := h.2.2; omega)]; rfl)), hLow⟩   -- returns .bool false
                  · refine walk_to (F := F33) (T := C33) (fuel := 1000) (d := 10) mixed (allF_cons (FactOk.bi rfl rfl rfl rfl rfl rfl (boolF (by omega))) (allF_cons (FactOk.bi rfl rfl rfl rfl rfl rfl (boolF (by omega))) (allF_cons (FactOk.bi rfl rfl rfl rfl rfl rfl (boolF (by omega))) (allF_cons (FactOk.bi rfl rfl rfl rfl rfl rfl (boolF (by omega))) (allF_cons (FactOk.bi rfl rfl rfl rfl rfl rfl (boolF (by omega))) (allF_cons (FactOk.bi rfl rfl rfl rfl rfl rfl (boolF (by omega))) (allF_cons (FactOk.strNeF rfl rfl rfl rfl h7) (allF_cons (FactOk.bi rfl rfl rfl rfl rfl rfl (boolF (by omega))) allF_nil)))))))) (allC_cons (callNameT rfl rfl h6) (allC_cons (callOf rfl rfl rfl rfl hK) allC_nil)) ?_ hh
                    exact ostop_end e33 fun w2 hLow hIn => ⟨(by first | (rw [decide_eq_true (show validM x from ⟨by assumption, by assumption, by omega, by omega, by omega, by omega, by omega, by omega, by omega, by omega⟩)]; rfl) | (rw [decide_eq_false (fun h : validM x => absurd h.1 (by assumption))]; rfl) | (rw [decide_eq_false (fun h : validM x => absurd h.2.1 (by first | assumption | exact not_not_intro (by assumption)))]; rfl) | (rw [decide_eq_false (fun h : validM x => by have := h.2.2; omega)]; rfl)), hLow⟩   -- returns .bool false
              · refine walk_to (F := F34) (T := C34) (fuel := 1000) (d := 10) mixed (allF_cons (FactOk.bi rfl rfl rfl rfl rfl rfl (boolF (by omega))) (allF_cons (FactOk.bi rfl rfl rfl rfl rfl rfl (boolF (by omega))) (allF_cons (FactOk.bi rfl rfl rfl rfl rfl rfl (boolF (by omega))) (allF_cons (FactOk.bi rfl rfl rfl rfl rfl rfl (boolF (by omega))) (allF_cons (FactOk.bi rfl rfl rfl rfl rfl rfl (boolF (by omega))) (allF_cons (FactOk.bi rfl rfl rfl rfl rfl rfl (boolF (by omega))) allF_nil)))))) (allC_cons (callNameF rfl rfl h6) allC_nil) ?_ hh
                exact ostop_end e34 fun w2 hLow hIn => ⟨(by first | (rw [decide_eq_true (show validM x from ⟨by assumption, by assumption, by omega, by omega, by omega, by omega, by omega, by omega, by omega, by omega⟩)]; rfl) | (rw [decide_eq_false (fun h : validM x => absurd h.1 (by assumption))]; rfl) | (rw [decide_eq_false (fun h : validM x => absurd h.2.1 (by first | assumption | exact not_not_intro (by assumption)))]; rfl) | (rw [decide_eq_false (fun h : validM x => by have := h.2.2; omega)]; rfl)), hLow⟩   -- returns .bool false
end ValMG
end AE
end Go.Proofs.YtblhndlmgibljaaDoor

/- isMaterial, as a fact. -/
namespace Go.Proofs.YtblhndlmgibljaaDoor
open Go Go.Proofs Go.RowKit
namespace AE
variable [Sig]
theorem callValT {x : Value} {m : Mt} (hp : plainSL [x] = true) (ev : interpL [x] = [M.val m]) (hK : KindsM Sig.imm) (h : validM m) : CallFactOk Tryd.prog (29, [x], .bool true) :=
  callAny (a := #[M.val m]) hp rfl ev rfl fun w hw => (ValMG.any w m (hK.mono hw)).mono fun e w' h' => by rw [decide_eq_true h] at h'; exact h'
theorem callValF {x : Value} {m : Mt} (hp : plainSL [x] = true) (ev : interpL [x] = [M.val m]) (hK : KindsM Sig.imm) (h : ¬ validM m) : CallFactOk Tryd.prog (29, [x], .bool false) :=
  callAny (a := #[M.val m]) hp rfl ev rfl fun w hw => (ValMG.any w m (hK.mono hw)).mono fun e w' h' => by rw [decide_eq_false h] at h'; exact h'
end AE
end Go.Proofs.YtblhndlmgibljaaDoor

/- the walk of Check -/
namespace Go.Proofs.YtblhndlmgibljaaDoor
open Go Go.Proofs Go.RowKit
set_option maxRecDepth 100000
namespace AE
namespace ChkG
noncomputable def body : Code := (Tryd.f11.body).getD .skip
def N : Nat := 42
noncomputable abbrev at' (N : Nat) (F : List (FOp × Value)) (C : List (FuncId × List Value × Value)) (c : Code) (s : ASt) : Option Stop := evalTo Tryd.prog F C N 1000 10 c s
noncomputable abbrev leave' (N : Nat) (F : List (FOp × Value)) (C : List (FuncId × List Value × Value)) (ks : List KI) (o : Option Stop) : Option Stop := evalLeave Tryd.prog F C N 1000 10 ks o
noncomputable abbrev unr' (N : Nat) (F : List (FOp × Value)) (C : List (FuncId × List Value × Value)) (m : Nat) (o : Option Stop) : Option Stop := evalUnroll Tryd.prog F C N 1000 10 m o
noncomputable abbrev res' (N : Nat) (F : List (FOp × Value)) (C : List (FuncId × List Value × Value)) (ks : List KI) (x : AX) (s : ASt) : Option Stop := evalRes Tryd.prog F C N 1000 10 ks x s
noncomputable abbrev ops' (N : Nat) (F : List (FOp × Value)) (C : List (FuncId × List Value × Value)) (r : List Oper) (ops : Array Oper) (ks : List KI) (s : ASt) : Option Stop := evalOps Tryd.prog F C N 1000 10 r ops ks s
def s0 : ASt := { sl := slots [(0, symv 0)], ms := [], A := start }
def F0 : List (FOp × Value) := [(.tru (.bool true), .bool true),
    (.len #[22] 3 (symv 0), symv 1),
    (.bin .gtr 3 (symv 1) (.int .i64 256), .bool true)]
def C0 : List (FuncId × List Value × Value) := []
theorem e0 : endVal Tryd.prog Tryd.f11 (at' 42 F0 C0 body s0) = some (.tuple ⟨[.int .i64 (-1), .int .i64 2]⟩) := by kernel_rfl
def F1 : List (FOp × Value) := [(.tru (.bool true), .bool true),
    (.len #[22] 3 (symv 0), symv 1),
    (.bin .gtr 3 (symv 1) (.int .i64 256), .bool false),
    (.bin .eql 3 (symv 1) (.int .i64 0), .bool true)]
def C1 : List (FuncId × List Value × Value) := []
theorem e1 : endVal Tryd.prog Tryd.f11 (at' 42 F1 C1 body s0) = some (.tuple ⟨[.int .i64 (-1), .int .i64 1]⟩) := by kernel_rfl
def F2 : List (FOp × Value) := [(.tru (.bool true), .bool true),
    (.len #[22] 3 (symv 0), symv 1),
    (.bin .gtr 3 (symv 1) (.int .i64 256), .bool false),
    (.bin .eql 3 (symv 1) (.int .i64 0), .bool false),
    (.ixa 22 (symv 0) (.int .i64 0), symv 2),
    (.ld 35 (symv 2), .agg ⟨[symv 3, symv 4, symv 5, symv 6, symv 7, symv 8, symv 9, symv 10]⟩),
    (.bin .neq 35 (.agg ⟨[symv 3, symv 4, symv 5, symv 6, symv 7, symv 8, symv 9, symv 10]⟩) (.agg ⟨[strV [97, 105, 114], .bool false, .bool false, .bool false, .int .i64 1, .int .i64 0, .int .i64 0, .int .i64 0]⟩), .bool false)]
def C2 : List (FuncId × List Value × Value) := []
theorem e2 : mkmOf (at' 42 F2 C2 body s0) = some 49 := by kernel_rfl
noncomputable abbrev so0 := at' 42 F2 C2 body s0
noncomputable def bk0 : List Bk := []
def hd0 : Sl := slots [(3, .int .i64 0), (2, .int .i64 0), (0, symv 0)]
def hp0 : Sl := match aput 42 hd0 (some 21) (symv 11) with | some s => s | none => .nil
theorem e3 : trAll (stopSt so0) hd0 bk0 = some [(symv 0, symv 0)] := by kernel_rfl
theorem e4 : aput 42 hd0 (stopDst so0) (symv 11) = some hp0 := by kernel_rfl
def F3 : List (FOp × Value) := [(.tru (.bool true), .bool true),
    (.len #[22] 3 (symv 0), symv 1)]
def C3 : List (FuncId × List Value × Value) := []
noncomputable def bks0 : List Bk := []
def head0 : Sl := slots [(24, symv 12), (23, symv 1), (22, symv 0), (4, symv 11)]
noncomputable abbrev at0 := ops' 42 F3 C3 (stopRest so0) (stopOps so0) (stopKs so0) { sl := hp0, ms := [], A := mkAS bk0 }
theorem e5 : headObs head0 bks0 at0 = some [(symv 1, symv 1), (symv 11, symv 11), (.int .i64 0, symv 12), (symv 0, symv 0)] := by kernel_rfl
def F4 : List (FOp × Value) := [(.tru (.bool true), .bool true),
    (.bin .lss 3 (symv 12) (symv 1), .bool true),
    (.ixa 22 (symv 0) (symv 12), symv 13),
    (.ld 35 (symv 13), .agg ⟨[symv 14, symv 15, symv 16, symv 17, symv 18, symv 19, symv 20, symv 21]⟩),
    (.lk 49 (symv 11) (symv 14) false, .bool true)]
def C4 : List (FuncId × List Value × Value) := [(29, [.agg ⟨[symv 14, symv 15, symv 16, symv 17, symv 18, symv 19, symv 20, symv 21]⟩], .bool true)]
def F5 : List (FOp × Value) := [(.tru (.bool true), .bool true)]
def C5 : List (FuncId × List Value × Value) := []
theorem e6 : endVal Tryd.prog Tryd.f11 (leave' 42 F5 C5 (stopKs at0) (at' 42 F4 C4 (stopCode at0) (headSt head0 bks0))) = some (.tuple ⟨[symv 12, .int .i64 10]⟩) := by kernel_rfl
def F6 : List (FOp × Value) := [(.tru (.bool true), .bool true),
    (.bin .lss 3 (symv 12) (symv 1), .bool true),
    (.ixa 22 (symv 0) (symv 12), symv 13),
    (.ld 35 (symv 13), .agg ⟨[symv 14, symv 15, symv 16, symv 17, symv 18, symv 19, symv 20, symv 21]⟩),
    (.lk 49 (symv 11) (symv 14) false, .bool false)]
def C6 : List (FuncId × List Value × Value) := [(29, [.agg ⟨[symv 14, symv 15, symv 16, symv 17, symv 18, symv 19, symv 20, symv 21]⟩], .bool true)]
theorem e7 : msetOf (at' 42 F6 C6 (stopCode at0) (headSt head0 bks0)) = some (49, (symv 11), (symv 14), .bool true) := by kernel_rfl
noncomputable abbrev so1 := at' 42 F6 C6 (stopCode at0) (headSt head0 bks0)
noncomputable def bk1 : List Bk := []
def hd1 : Sl := slots [(24, symv 12), (23, symv 1), (22, symv 0), (4, symv 11)]
def hp1 : Sl := match aput 42 hd1 none (.tuple ⟨[]⟩) with | some s => s | none => .nil
theorem e8 : trAll (stopSt so1) hd1 bk1 = some [(symv 1, symv 1), (symv 11, symv 11), (symv 12, symv 12), (symv 0, symv 0)] := by kernel_rfl
theorem e9 : aput 42 hd1 (stopDst so1) (.tuple ⟨[]⟩) = some hp1 := by kernel_rfl
def F7 : List (FOp × Value) := [(.tru (.bool true), .bool true),
    (.bin .add 3 (symv 12) (.int .i64 1), symv 22)]
def C7 : List (FuncId × List Value × Value) := []
theorem e10 : backObs head0 bks0 (ops' 42 F7 C7 (stopRest so1) (stopOps so1) (stopKs so1) { sl := hp1, ms := [], A := mkAS bk1 }) = some [(symv 1, symv 1), (symv 11, symv 11), (symv 22, symv 12), (symv 0, symv 0)] := by kernel_rfl
def F8 : List (FOp × Value) := [(.tru (.bool true), .bool true),
    (.bin .lss 3 (symv 12) (symv 1), .bool true),
    (.ixa 22 (symv 0) (symv 12), symv 13),
    (.ld 35 (symv 13), .agg ⟨[symv 14, symv 15, symv 16, symv 17, symv 18, symv 19, symv 20, symv 21]⟩)]
def C8 : List (FuncId × List Value × Value) := [(29, [.agg ⟨[symv 14, symv 15, symv 16, symv 17, symv 18, symv 19, symv 20, symv 21]⟩], .bool false)]
theorem e11 : endVal Tryd.prog Tryd.f11 (leave' 42 F5 C5 (stopKs at0) (at' 42 F8 C8 (stopCode at0) (headSt head0 bks0))) = some (.tuple ⟨[symv 12, .int .i64 1]⟩) := by kernel_rfl
def F9 : List (FOp × Value) := [(.tru (.bool true), .bool true),
    (.bin .lss 3 (symv 12) (symv 1), .bool false)]
def C9 : List (FuncId × List Value × Value) := []
theorem e12 : endVal Tryd.prog Tryd.f11 (leave' 42 F5 C5 (stopKs at0) (at' 42 F9 C9 (stopCode at0) (headSt head0 bks0))) = some (.tuple ⟨[.int .i64 0, .int .i64 0]⟩) := by kernel_rfl
def F10 : List (FOp × Value) := [(.tru (.bool true), .bool true),
    (.len #[22] 3 (symv 0), symv 1),
    (.bin .gtr 3 (symv 1) (.int .i64 256), .bool false),
    (.bin .eql 3 (symv 1) (.int .i64 0), .bool false),
    (.ixa 22 (symv 0) (.int .i64 0), symv 2),
    (.ld 35 (symv 2), .agg ⟨[symv 3, symv 4, symv 5, symv 6, symv 7, symv 8, symv 9, symv 10]⟩),
    (.bin .neq 35 (.agg ⟨[symv 3, symv 4, symv 5, symv 6, symv 7, symv 8, symv 9, symv 10]⟩) (.agg ⟨[strV [97, 105, 114], .bool false, .bool false, .bool false, .int .i64 1, .int .i64 0, .int .i64 0, .int .i64 0]⟩), .bool true)]
def C10 : List (FuncId × List Value × Value) := []
theorem e13 : endVal Tryd.prog Tryd.f11 (at' 42 F10 C10 body s0) = some (.tuple ⟨[.int .i64 0, .int .i64 1]⟩) := by kernel_rfl
@[reducible] noncomputable def vL (l : List Mt) (a_l : Option Addr) (c_l : Nat) (b : List Bs) (i : Nat) (b0 : List Bs) (g0 : Nat) (b1 : List Bs) : List Value := [.slice a_l l.length c_l, .int .i64 ((l.length : Nat) : Int), cellPtr (.slice a_l l.length c_l) (0 * 8), strV (l.getD (0) default).1, .bool (l.getD (0) default).2.1, .bool (l.getD (0) default).2.2.1, .bool (l.getD (0) default).2.2.2.1, .int .i64 (l.getD (0) default).2.2.2.2.1, .int .i64 (l.getD (0) default).2.2.2.2.2.1, .int .i64 (l.getD (0) default).2.2.2.2.2.2.1, .int .i64 (l.getD (0) default).2.2.2.2.2.2.2, .map (some g0), .int .i64 ((i : Nat) : Int), cellPtr (.slice a_l l.length c_l) (i * 8), strV (l.getD (i) default).1, .bool (l.getD (i) default).2.1, .bool (l.getD (i) default).2.2.1, .bool (l.getD (i) default).2.2.2.1, .int .i64 (l.getD (i) default).2.2.2.2.1, .int .i64 (l.getD (i) default).2.2.2.2.2.1, .int .i64 (l.getD (i) default).2.2.2.2.2.2.1, .int .i64 (l.getD (i) default).2.2.2.2.2.2.2, .int .i64 ((i + 1 : Nat) : Int)]
@[reducible] noncomputable def sg (M : Mem) (l : List Mt) (a_l : Option Addr) (c_l : Nat) (b : List Bs) (i : Nat) (b0 : List Bs) (g0 : Nat) (b1 : List Bs) : Sig := sgL M (vL l a_l c_l b i b0 g0 b1)
set_option maxHeartbeats 4000000 in
theorem any (W : World) {v_l : Value} {l : List Mt} (hl : Arr (heapOf W) 8 encM v_l l) (hK : KindsM (heapOf W)) : Calls Tryd.prog 11 #[v_l] W fun e w' => e = .returned (.tuple #[.int .i64 (chkM l).1, .int .i64 (chkM l).2]) ∧ Low W.heap.size W w' := by
  obtain ⟨a_l, c_l, rfl⟩ := hl.slice
  refine @walk_enter (sg (heapOf W) l a_l c_l [] 0 [] 0 []) Tryd.prog 11 Tryd.f11 body [symv 0] (slots [(0, symv 0)]) N W _ Tryd.func11 (by kernel_rfl) (by kernel_rfl) (by kernel_rfl) (by kernel_rfl) (immW_sgL W _) fun a hh => ?_
  letI := (sg (heapOf W) l a_l c_l [] 0 [] 0 [])
  by_cases h0 : 256 < ((l.length : Nat) : Int)
  · refine walk_to (F := F0) (T := C0) (fuel := 1000) (d := 10) mixed (allF_cons (FactOk.tru rfl rfl) (allF_cons (FactOk.arrLen hl rfl rfl underMl rfl rfl) (allF_cons (FactOk.bi rfl rfl rfl rfl rfl rfl (boolT (by omega))) allF_nil))) allC_nil ?_ hh
    exact ostop_end e0 fun w2 hLow hIn => ⟨(by refine congrArg Ending.returned ?_; first | (rw [chkM_long (by omega)]; rfl) | (rw [chkM_nil (by omega) (by omega)]; rfl) | (rw [chkM_air (by omega) (by omega) (by assumption)]; rfl) | (rw [chkM_bad (i := i) (by omega) (by omega) (by assumption) (by omega) hI.2.2.2.2 (by assumption)]; rfl) | (rw [chkM_two (i := i) (by omega) (by omega) (by assumption) (by omega) hI.2.2.2.2 (by assumption) (by rw [← hI.2.2.1]; assumption)]; rfl) | (rw [chkM_ok (by omega) (by omega) (by assumption) (fun j hj => hI.2.2.2.2 j (by omega))]; rfl)), hLow⟩   -- returns .tuple ⟨[.int .i64 (-1), .int .i64 2]⟩
  · by_cases h1 : ((l.length : Nat) : Int) = 0
    · refine walk_to (F := F1) (T := C1) (fuel := 1000) (d := 10) mixed (allF_cons (FactOk.tru rfl rfl) (allF_cons (FactOk.arrLen hl rfl rfl underMl rfl rfl) (allF_cons (FactOk.bi rfl rfl rfl rfl rfl rfl (boolF (by omega))) (allF_cons (FactOk.bi rfl rfl rfl rfl rfl rfl (boolT (by omega))) allF_nil)))) allC_nil ?_ hh
      exact ostop_end e1 fun w2 hLow hIn => ⟨(by refine congrArg Ending.returned ?_; first | (rw [chkM_long (by omega)]; rfl) | (rw [chkM_nil (by omega) (by omega)]; rfl) | (rw [chkM_air (by omega) (by omega) (by assumption)]; rfl) | (rw [chkM_bad (i := i) (by omega) (by omega) (by assumption) (by omega) hI.2.2.2.2 (by assumption)]; rfl) | (rw [chkM_two (i := i) (by omega) (by omega) (by assumption) (by omega) hI.2.2.2.2 (by assumption) (by rw [← hI.2.2.1]; assumption)]; rfl) | (rw [chkM_ok (by omega) (by omega) (by assumption) (fun j hj => hI.2.2.2.2 j (by omega))]; rfl)), hLow⟩   -- returns .tuple ⟨[.int .i64 (-1), .int .i64 1]⟩
    · by_cases h2 : (l.getD (0) default) = ((([97, 105, 114] : Bs), false, false, false, 1, 0, 0, 0) : Mt)
      · refine walk_to (F := F2) (T := C2) (fuel := 1000) (d := 10) mixed (allF_cons (FactOk.tru rfl rfl) (allF_cons (FactOk.arrLen hl rfl rfl underMl rfl rfl) (allF_cons (FactOk.bi rfl rfl rfl rfl rfl rfl (boolF (by omega))) (allF_cons (FactOk.bi rfl rfl rfl rfl rfl rfl (boolF (by omega))) (allF_cons (FactOk.arrIxa hl (show 0 < l.length by omega) rfl rfl rfl underMl sizeM rfl rfl rfl) (allF_cons (FactOk.arrLd hl (getSome (show 0 < l.length by omega)) rfl rfl aggM sizeM rfl rfl rfl) (allF_cons (neM rfl rfl rfl rfl (by rw [decide_eq_true h2]; rfl)) allF_nil))))))) allC_nil ?_ hh
        obtain ⟨b0, hb0⟩ : ∃ b0 : List Bs, b0 = [] := ⟨_, rfl⟩
        refine ostop_makeMap (vals2 := fun gV => (vL l a_l c_l [] 0 b0 gV [])) hb0 e2 e3 e4 rfl (fun _ gV => (meet_cons (by first | exact meetV (.slice a_l l.length c_l) rfl rfl | exact meetI rfl rfl (by omega)) meet_nil)) (fun _ _ => rfl) ?_
        intro M0 g0 hO0 hK0 aC w hh
        have hM0 := hK0.up (fun i h => by cases h) (Nat.le_refl _) (fun _ _ h => h)
        letI := (sg M0 l a_l c_l [] 0 b0 g0 [])
        refine walk_ops (F := F3) (T := C3) (fuel := 1000) (d := 10) mixed (allF_cons (FactOk.tru rfl rfl) (allF_cons (FactOk.arrLen (hl.mono hM0) rfl rfl underMl rfl rfl) allF_nil)) allC_nil ?_ hh
        -- LOOP 0: slot 2 = .int .i64 0 is written in the loop: left out
        -- LOOP 0: slot 3 = .int .i64 0 is written in the loop: left out
        refine ostop_loop (sg := (fun (⟨M, b, i⟩ : Mem × List Bs × Nat) => sg M l a_l c_l b i b0 g0 [])) (fun (⟨M, b, i⟩ : Mem × List Bs × Nat) => OMap W.heap.size M (.map (some g0)) b ∧ (∀ i o, heapOf W i = some o → M i = some o) ∧ b = namesTo l i ∧ i ≤ l.length ∧ ∀ j, j < i → ¬ badAt l j) (fun (⟨M, b, i⟩ : Mem × List Bs × Nat) => l.length - i) ⟨M0, b0, 0⟩ e5 (meet_cons (by first | exact meetV (.int .i64 ((l.length : Nat) : Int)) rfl rfl | exact meetI rfl rfl (by omega)) (meet_cons (by exact meetV (.map (some g0)) rfl rfl) (meet_cons (by first | rfl | exact meetInt (by omega)) (meet_cons (by first | exact meetV (.slice a_l l.length c_l) rfl rfl | exact meetI rfl rfl (by omega)) meet_nil)))) (fun _ _ h => h) (by exact ⟨hO0, hM0, hb0, Nat.zero_le _, fun j h => absurd h (Nat.not_lt_zero _)⟩) ?_
        intro ⟨M, b, i⟩ hI aC w hh
        letI := (sg M l a_l c_l b i b0 g0 [])
        have hO := hI.1
        have hM := hI.2.1
        by_cases q0 : ((i : Nat) : Int) < ((l.length : Nat) : Int)
        · by_cases q1 : validM (l.getD (i) default)
          · by_cases q2 : (l.getD (i) default).1 ∈ b
            · refine walk_to (F := F4) (T := C4) (fuel := 1000) (d := 10) mixed (allF_cons (FactOk.tru rfl rfl) (allF_cons (FactOk.bi rfl rfl rfl rfl rfl rfl (boolT (by omega))) (allF_cons (FactOk.arrIxa (hl.mono hM) (show i < l.length by omega) rfl rfl rfl underMl sizeM rfl rfl rfl) (allF_cons (FactOk.arrLd (hl.mono hM) (getSome (show i < l.length by omega)) rfl rfl aggM sizeM rfl rfl rfl) (allF_cons (FactOk.lkIn rfl rfl mapT1 mapT2 mapCk hO rfl rfl q2) allF_nil))))) (allC_cons (callValT rfl rfl (by first | exact hK | exact hK.mono (by assumption)) q1) allC_nil) ?_ hh
              refine walk_leave (F := F5) (T := C5) (fuel := 1000) (d := 10) mixed (allF_cons (FactOk.tru rfl rfl) allF_nil) allC_nil ?_
              exact ostop_end e6 fun w2 hLow hIn => ⟨(by refine congrArg Ending.returned ?_; first | (rw [chkM_long (by omega)]; rfl) | (rw [chkM_nil (by omega) (by omega)]; rfl) | (rw [chkM_air (by omega) (by omega) (by assumption)]; rfl) | (rw [chkM_bad (i := i) (by omega) (by omega) (by assumption) (by omega) hI.2.2.2.2 (by assumption)]; rfl) | (rw [chkM_two (i := i) (by omega) (by omega) (by assumption) (by omega) hI.2.2.2.2 (by assumption) (by rw [← hI.2.2.1]; assumption)]; rfl) | (rw [chkM_ok (by omega) (by omega) (by assumption) (fun j hj => hI.2.2.2.2 j (by omega))]; rfl)), hLow⟩   -- returns .tuple ⟨[symv 12, .int .i64 10]⟩
            · refine walk_to (F := F6) (T := C6) (fuel := 1000) (d := 10) mixed (allF_cons (FactOk.tru rfl rfl) (allF_cons (FactOk.bi rfl rfl rfl rfl rfl rfl (boolT (by omega))) (allF_cons (FactOk.arrIxa (hl.mono hM) (show i < l.length by omega) rfl rfl rfl underMl sizeM rfl rfl rfl) (allF_cons (FactOk.arrLd (hl.mono hM) (getSome (show i < l.length by omega)) rfl rfl aggM sizeM rfl rfl rfl) (allF_cons (FactOk.lkOut rfl rfl mapT1 mapT2 mapZ mapCk hO rfl rfl q2) allF_nil))))) (allC_cons (callValT rfl rfl (by first | exact hK | exact hK.mono (by assumption)) q1) allC_nil) ?_ hh
              obtain ⟨b1, hb1⟩ : ∃ b1 : List Bs, b1 = b ++ [(l.getD (i) default).1] := ⟨_, rfl⟩
              refine ostop_mapSet (u := .map (some g0)) (n := (l.getD (i) default).1) (ns := b) (ns' := b1) (vals2 := (vL l a_l c_l b i b0 g0 b1)) hb1 e7 mapT1 mapT2 mapCk e8 e9 rfl rfl rfl rfl hO (by assumption) (fun _ => (meet_cons (by first | exact meetV (.int .i64 ((l.length : Nat) : Int)) rfl rfl | exact meetI rfl rfl (by omega)) (meet_cons (by exact meetV (.map (some g0)) rfl rfl) (meet_cons (by first | exact meetV (.int .i64 ((i : Nat) : Int)) rfl rfl | exact meetI rfl rfl (by omega)) (meet_cons (by first | exact meetV (.slice a_l l.length c_l) rfl rfl | exact meetI rfl rfl (by omega)) meet_nil))))) ?_
              intro M1 hO1 hK1 aC w hh
              have hM1 := hK1.up (fun i h => (hO.known i h).2) (Nat.le_refl _) hM
              letI := (sg M1 l a_l c_l b i b0 g0 b1)
              refine walk_ops (F := F7) (T := C7) (fuel := 1000) (d := 10) mixed (allF_cons (FactOk.tru rfl rfl) (allF_cons (FactOk.bi rfl rfl rfl rfl rfl rfl (intI (by omega) (by omega) (by omega))) allF_nil)) allC_nil ?_ hh
              exact ostop_backM (s1 := (sg M1 l a_l c_l b i b0 g0 b1)) (sg := (fun (⟨M, b, i⟩ : Mem × List Bs × Nat) => sg M l a_l c_l b i b0 g0 [])) (I := fun (⟨M, b, i⟩ : Mem × List Bs × Nat) => OMap W.heap.size M (.map (some g0)) b ∧ (∀ i o, heapOf W i = some o → M i = some o) ∧ b = namesTo l i ∧ i ≤ l.length ∧ ∀ j, j < i → ¬ badAt l j) (μ := fun (⟨M, b, i⟩ : Mem × List Bs × Nat) => l.length - i) (x := ⟨M, b, i⟩) ⟨M1, b1, i + 1⟩ e10 (meet_cons (by first | exact meetV (.int .i64 ((l.length : Nat) : Int)) rfl rfl | exact meetI rfl rfl (by omega)) (meet_cons (by exact meetV (.map (some g0)) rfl rfl) (meet_cons (by first | exact meetV (.int .i64 ((i + 1 : Nat) : Int)) rfl rfl | exact meetI rfl rfl (by omega)) (meet_cons (by first | exact meetV (.slice a_l l.length c_l) rfl rfl | exact meetI rfl rfl (by omega)) meet_nil)))) (fun _ _ h => h) (by exact ⟨hO1, hM1, by rw [hb1, hI.2.2.1, namesTo_succ (by omega)], by omega, fun j hj => by rcases Nat.lt_succ_iff_lt_or_eq.1 hj with h | rfl; exact hI.2.2.2.2 j h; exact badAt_no (by assumption) (by rw [← hI.2.2.1]; assumption)⟩) (by (try dsimp only); omega)
          · refine walk_to (F := F8) (T := C8) (fuel := 1000) (d := 10) mixed (allF_cons (FactOk.tru rfl rfl) (allF_cons (FactOk.bi rfl rfl rfl rfl rfl rfl (boolT (by omega))) (allF_cons (FactOk.arrIxa (hl.mono hM) (show i < l.length by omega) rfl rfl rfl underMl sizeM rfl rfl rfl) (allF_cons (FactOk.arrLd (hl.mono hM) (getSome (show i < l.length by omega)) rfl rfl aggM sizeM rfl rfl rfl) allF_nil)))) (allC_cons (callValF rfl rfl (by first | exact hK | exact hK.mono (by assumption)) q1) allC_nil) ?_ hh
            refine walk_leave (F := F5) (T := C5) (fuel := 1000) (d := 10) mixed (allF_cons (FactOk.tru rfl rfl) allF_nil) allC_nil ?_
            exact ostop_end e11 fun w2 hLow hIn => ⟨(by refine congrArg Ending.returned ?_; first | (rw [chkM_long (by omega)]; rfl) | (rw [chkM_nil (by omega) (by omega)]; rfl) | (rw [chkM_air (by omega) (by omega) (by assumption)]; rfl) | (rw [chkM_bad (i := i) (by omega) (by omega) (by assumption) (by omega) hI.2.2.2.2 (by assumption)]; rfl) | (rw [chkM_two (i := i) (by omega) (by omega) (by assumption) (by omega) hI.2.2.2.2 (by assumption) (by rw [← hI.2.2.1]; assumption)]; rfl) | (rw [chkM_ok (by omega) (by omega) (by assumption) (fun j hj => hI.2.2.2.2 j (by omega))]; rfl)), hLow⟩   -- returns .tuple ⟨[symv 12, .int .i64 1]⟩
        · refine walk_to (F := F9) (T := C9) (fuel := 1000) (d := 10) mixed (allF_cons (FactOk.tru rfl rfl) (allF_cons (FactOk.bi rfl rfl rfl rfl rfl rfl (boolF (by omega))) allF_nil)) allC_nil ?_ hh
          refine walk_leave (F := F5) (T := C5) (fuel := 1000) (d := 10) mixed (allF_cons (FactOk.tru rfl rfl) allF_nil) allC_nil ?_
          exact ostop_end e12 fun w2 hLow hIn => ⟨(by refine congrArg Ending.returned ?_; first | (rw [chkM_long (by omega)]; rfl) | (rw [chkM_nil (by omega) (by omega)]; rfl) | (rw [chkM_air (by omega) (by omega) (by assumption)]; rfl) | (rw [chkM_bad (i := i) (by omega) (by omega) (by assumption) (by omega) hI.2.2.2.2 (by assumption)]; rfl) | (rw [chkM_two (i := i) (by omega) (by omega) (by assumption) (by omega) hI.2.2.2.2 (by assumption) (by rw [← hI.2.2.1]; assumption)]; rfl) | (rw [chkM_ok (by omega) (by omega) (by assumption) (fun j hj => hI.2.2.2.2 j (by omega))]; rfl)), hLow⟩   -- returns .tuple ⟨[.int .i64 0, .int .i64 0]⟩
      · refine walk_to (F := F10) (T := C10) (fuel := 1000) (d := 10) mixed (allF_cons (FactOk.tru rfl rfl) (allF_cons (FactOk.arrLen hl rfl rfl underMl rfl rfl) (allF_cons (FactOk.bi rfl rfl rfl rfl rfl rfl (boolF (by omega))) (allF_cons (FactOk.bi rfl rfl rfl rfl rfl rfl (boolF (by omega))) (allF_cons (FactOk.arrIxa hl (show 0 < l.length by omega) rfl rfl rfl underMl sizeM rfl rfl rfl) (allF_cons (FactOk.arrLd hl (getSome (show 0 < l.length by omega)) rfl rfl aggM sizeM rfl rfl rfl) (allF_cons (neM rfl rfl rfl rfl (by rw [decide_eq_false h2]; rfl)) allF_nil))))))) allC_nil ?_ hh
        exact ostop_end e13 fun w2 hLow hIn => ⟨(by refine congrArg Ending.returned ?_; first | (rw [chkM_long (by omega)]; rfl) | (rw [chkM_nil (by omega) (by omega)]; rfl) | (rw [chkM_air (by omega) (by omega) (by assumption)]; rfl) | (rw [chkM_bad (i := i) (by omega) (by omega) (by assumption) (by omega) hI.2.2.2.2 (by assumption)]; rfl) | (rw [chkM_two (i := i) (by omega) (by omega) (by assumption) (by omega) hI.2.2.2.2 (by assumption) (by rw [← hI.2.2.1]; assumption)]; rfl) | (rw [chkM_ok (by omega) (by omega) (by assumption) (fun j hj => hI.2.2.2.2 j (by omega))]; rfl)), hLow⟩   -- returns .tuple ⟨[.int .i64 0, .int .i64 1]⟩
end ChkG
end AE
end Go.Proofs.YtblhndlmgibljaaDoor

/- the sanity of chapter 6 -/
namespace Go.Proofs.YtblhndlmgibljaaDoor
open Go Go.Proofs Go.RowKit
set_option maxRecDepth 100000
namespace AE
namespace SanG
noncomputable def body : Code := (Tryd.f9.body).getD .skip
def N : Nat := 184
noncomputable abbrev at' (N : Nat) (F : List (FOp × Value)) (C : List (FuncId × List Value × Value)) (c : Code) (s : ASt) : Option Stop := evalTo Tryd.prog F C N 100000 30 c s
noncomputable abbrev leave' (N : Nat) (F : List (FOp × Value)) (C : List (FuncId × List Value × Value)) (ks : List KI) (o : Option Stop) : Option Stop := evalLeave Tryd.prog F C N 100000 30 ks o
noncomputable abbrev unr' (N : Nat) (F : List (FOp × Value)) (C : List (FuncId × List Value × Value)) (m : Nat) (o : Option Stop) : Option Stop := evalUnroll Tryd.prog F C N 100000 30 m o
noncomputable abbrev res' (N : Nat) (F : List (FOp × Value)) (C : List (FuncId × List Value × Value)) (ks : List KI) (x : AX) (s : ASt) : Option Stop := evalRes Tryd.prog F C N 100000 30 ks x s
noncomputable abbrev ops' (N : Nat) (F : List (FOp × Value)) (C : List (FuncId × List Value × Value)) (r : List Oper) (ops : Array Oper) (ks : List KI) (s : ASt) : Option Stop := evalOps Tryd.prog F C N 100000 30 r ops ks s
def s0 : ASt := { sl := slots [], ms := [], A := start }
def F0 : List (FOp × Value) := [(.ld 78 (symv 1000000), .agg ⟨[strV [103, 97, 115], .bool false, .bool false, .bool false, strV [115, 111, 108, 105, 100], .bool true, .bool false, .bool false, strV [102, 97, 108, 108, 105, 110, 103], .bool true, .bool false, .bool true, strV [108, 105, 113, 117, 105, 100], .bool false, .bool true, .bool false]⟩),
    (.slc 78 (symv 1000000) none none none, symv 0),
    (.len #[83] 3 (symv 0), .int .i64 4),
    (.ixa 83 (symv 0) (.int .i64 0), symv 1),
    (.ld 61 (symv 1), .agg ⟨[strV [103, 97, 115], .bool false, .bool false, .bool false]⟩),
    (.ixa 78 (symv 1000000) (.int .i64 0), symv 1),
    (.fa 61 (symv 1) 1, symv 2),
    (.fa 61 (symv 1) 2, symv 3),
    (.fa 61 (symv 1) 3, symv 4),
    (.ld 4 (symv 2), .bool false),
    (.ld 4 (symv 3), .bool false),
    (.ld 4 (symv 4), .bool false),
    (.ixa 83 (symv 0) (.int .i64 1), symv 5),
    (.ld 61 (symv 5), .agg ⟨[strV [115, 111, 108, 105, 100], .bool true, .bool false, .bool false]⟩),
    (.ixa 78 (symv 1000000) (.int .i64 1), symv 5),
    (.fa 61 (symv 5) 1, symv 6),
    (.fa 61 (symv 5) 2, symv 7),
    (.fa 61 (symv 5) 3, symv 8),
    (.ld 4 (symv 6), .bool true),
    (.ld 4 (symv 7), .bool false),
    (.ld 4 (symv 8), .bool false)]
def C0 : List (FuncId × List Value × Value) := [(29, [.agg ⟨[strV [97, 105, 114], .bool false, .bool false, .bool false, .int .i64 1, .int .i64 0, .int .i64 0, .int .i64 0]⟩], .bool true),
    (29, [.agg ⟨[strV [115, 116, 111, 110, 101], .bool true, .bool false, .bool false, .int .i64 16, .int .i64 0, .int .i64 0, .int .i64 0]⟩], .bool true),
    (29, [.agg ⟨[strV [103, 108, 97, 115, 115], .bool true, .bool false, .bool false, .int .i64 1, .int .i64 0, .int .i64 0, .int .i64 0]⟩], .bool true),
    (29, [.agg ⟨[strV [108, 97, 109, 112], .bool true, .bool false, .bool false, .int .i64 16, .int .i64 15, .int .i64 14, .int .i64 10]⟩], .bool true),
    (29, [.agg ⟨[strV [115, 97, 110, 100], .bool true, .bool false, .bool true, .int .i64 16, .int .i64 0, .int .i64 0, .int .i64 0]⟩], .bool true),
    (29, [.agg ⟨[strV [119, 97, 116, 101, 114], .bool false, .bool true, .bool false, .int .i64 3, .int .i64 0, .int .i64 0, .int .i64 0]⟩], .bool true),
    (29, [.agg ⟨[strV [108, 101, 97, 118, 101, 115], .bool true, .bool false, .bool false, .int .i64 2, .int .i64 0, .int .i64 0, .int .i64 0]⟩], .bool true),
    (29, [.agg ⟨[strV [101, 109, 98, 101, 114], .bool true, .bool false, .bool false, .int .i64 16, .int .i64 9, .int .i64 3, .int .i64 0]⟩], .bool true),
    (29, [.agg ⟨[strV [102, 111, 103], .bool false, .bool false, .bool false, .int .i64 2, .int .i64 0, .int .i64 0, .int .i64 0]⟩], .bool true),
    (27, [strV [97, 105, 114, 32, 103, 97, 115, 32, 102, 97, 100, 101, 32, 48, 49, 10]], .tuple ⟨[.slice none 0 0, .int .i64 1, .int .i64 3]⟩),
    (27, [strV [97, 105, 114, 32, 103, 97, 115, 32, 102, 97, 100, 101, 32, 50, 10]], .tuple ⟨[.slice none 0 0, .int .i64 1, .int .i64 1]⟩)]
theorem c0_0 : @evalCall Tryd.prog _ ⟨F0⟩ (noCalls _) 100000 30 29 [.agg ⟨[strV [97, 105, 114], .bool false, .bool false, .bool false, .int .i64 1, .int .i64 0, .int .i64 0, .int .i64 0]⟩] = some (.bool true) := by kernel_rfl
theorem c0_1 : @evalCall Tryd.prog _ ⟨F0⟩ (noCalls _) 100000 30 29 [.agg ⟨[strV [115, 116, 111, 110, 101], .bool true, .bool false, .bool false, .int .i64 16, .int .i64 0, .int .i64 0, .int .i64 0]⟩] = some (.bool true) := by kernel_rfl
theorem c0_2 : @evalCall Tryd.prog _ ⟨F0⟩ (noCalls _) 100000 30 29 [.agg ⟨[strV [103, 108, 97, 115, 115], .bool true, .bool false, .bool false, .int .i64 1, .int .i64 0, .int .i64 0, .int .i64 0]⟩] = some (.bool true) := by kernel_rfl
theorem c0_3 : @evalCall Tryd.prog _ ⟨F0⟩ (noCalls _) 100000 30 29 [.agg ⟨[strV [108, 97, 109, 112], .bool true, .bool false, .bool false, .int .i64 16, .int .i64 15, .int .i64 14, .int .i64 10]⟩] = some (.bool true) := by kernel_rfl
theorem c0_4 : @evalCall Tryd.prog _ ⟨F0⟩ (noCalls _) 100000 30 29 [.agg ⟨[strV [115, 97, 110, 100], .bool true, .bool false, .bool true, .int .i64 16, .int .i64 0, .int .i64 0, .int .i64 0]⟩] = some (.bool true) := by kernel_rfl
theorem c0_5 : @evalCall Tryd.prog _ ⟨F0⟩ (noCalls _) 100000 30 29 [.agg ⟨[strV [119, 97, 116, 101, 114], .bool false, .bool true, .bool false, .int .i64 3, .int .i64 0, .int .i64 0, .int .i64 0]⟩] = some (.bool true) := by kernel_rfl
theorem c0_6 : @evalCall Tryd.prog _ ⟨F0⟩ (noCalls _) 100000 30 29 [.agg ⟨[strV [108, 101, 97, 118, 101, 115], .bool true, .bool false, .bool false, .int .i64 2, .int .i64 0, .int .i64 0, .int .i64 0]⟩] = some (.bool true) := by kernel_rfl
theorem c0_7 : @evalCall Tryd.prog _ ⟨F0⟩ (noCalls _) 100000 30 29 [.agg ⟨[strV [101, 109, 98, 101, 114], .bool true, .bool false, .bool false, .int .i64 16, .int .i64 9, .int .i64 3, .int .i64 0]⟩] = some (.bool true) := by kernel_rfl
theorem c0_8 : @evalCall Tryd.prog _ ⟨F0⟩ (noCalls _) 100000 30 29 [.agg ⟨[strV [102, 111, 103], .bool false, .bool false, .bool false, .int .i64 2, .int .i64 0, .int .i64 0, .int .i64 0]⟩] = some (.bool true) := by kernel_rfl
theorem c0_9 : @evalCall Tryd.prog _ ⟨F0⟩ (noCalls _) 100000 30 27 [strV [97, 105, 114, 32, 103, 97, 115, 32, 102, 97, 100, 101, 32, 48, 49, 10]] = some (.tuple ⟨[.slice none 0 0, .int .i64 1, .int .i64 3]⟩) := by kernel_rfl
theorem c0_10 : @evalCall Tryd.prog _ ⟨F0⟩ (noCalls _) 100000 30 27 [strV [97, 105, 114, 32, 103, 97, 115, 32, 102, 97, 100, 101, 32, 50, 10]] = some (.tuple ⟨[.slice none 0 0, .int .i64 1, .int .i64 1]⟩) := by kernel_rfl
theorem e0 : endVal Tryd.prog Tryd.f9 (at' 184 F0 C0 body s0) = some (.bool true) := by kernel_rfl
@[reducible] noncomputable def vL  : List Value := [.slice (some ⟨0, 0, none⟩) 4 4, .pointer (some ⟨0, 0, none⟩), .pointer (some ⟨0, 1, none⟩), .pointer (some ⟨0, 2, none⟩), .pointer (some ⟨0, 3, none⟩), .pointer (some ⟨0, 4, none⟩), .pointer (some ⟨0, 5, none⟩), .pointer (some ⟨0, 6, none⟩), .pointer (some ⟨0, 7, none⟩)]
@[reducible] noncomputable def sg (M : Mem)  : Sig := sgL M (vL )
set_option maxHeartbeats 4000000 in
theorem any (W : World)  (hK : KindsM (heapOf W)) : Calls Tryd.prog 9 #[] W fun e w' => e = .returned (.bool true) ∧ Low W.heap.size W w' := by
  refine @walk_enter (sg (heapOf W)  ) Tryd.prog 9 Tryd.f9 body [] (slots []) N W _ Tryd.func9 (by kernel_rfl) (by kernel_rfl) (by kernel_rfl) (by kernel_rfl) (immW_sgL W _) fun a hh => ?_
  letI := (sg (heapOf W)  )
  have HF : AllFacts Tryd.prog F0 := (allF_cons (ldG hK (o := 0) (n := 16) rfl rfl (by kernel_rfl) (by kernel_rfl) rfl rfl rfl rfl) (allF_cons (FactOk.slcArr (e := 61) (sz := 4) (g := 0) (o := 0) rfl rfl (by kernel_rfl) (by kernel_rfl) rfl (by decide) rfl) (allF_cons (FactOk.len (e := 61) rfl rfl (by kernel_rfl) rfl rfl) (allF_cons (FactOk.ixa (e := 61) (j := 0) (n := 4) (sz := 4) rfl rfl rfl (by kernel_rfl) (by kernel_rfl) rfl rfl (by decide) rfl) (allF_cons (ldG hK (o := 0) (n := 4) rfl rfl (by kernel_rfl) (by kernel_rfl) rfl rfl rfl rfl) (allF_cons (FactOk.ixaPO (g := 0) (o := 0) (j := 0) (n := 4) (e := 61) (sz := 4) rfl rfl rfl (by kernel_rfl) (by kernel_rfl) rfl rfl (by decide) rfl) (allF_cons (faG (g := 0) (o := 0) (ty := 4) (off := 1) (m := 1) (by kernel_rfl) (by kernel_rfl) (by kernel_rfl) (by decide) rfl rfl rfl rfl) (allF_cons (faG (g := 0) (o := 0) (ty := 4) (off := 2) (m := 1) (by kernel_rfl) (by kernel_rfl) (by kernel_rfl) (by decide) rfl rfl rfl rfl) (allF_cons (faG (g := 0) (o := 0) (ty := 4) (off := 3) (m := 1) (by kernel_rfl) (by kernel_rfl) (by kernel_rfl) (by decide) rfl rfl rfl rfl) (allF_cons (ldG1 hK (o := 1) rfl rfl (by kernel_rfl) rfl rfl rfl) (allF_cons (ldG1 hK (o := 2) rfl rfl (by kernel_rfl) rfl rfl rfl) (allF_cons (ldG1 hK (o := 3) rfl rfl (by kernel_rfl) rfl rfl rfl) (allF_cons (FactOk.ixa (e := 61) (j := 1) (n := 4) (sz := 4) rfl rfl rfl (by kernel_rfl) (by kernel_rfl) rfl rfl (by decide) rfl) (allF_cons (ldG hK (o := 4) (n := 4) rfl rfl (by kernel_rfl) (by kernel_rfl) rfl rfl rfl rfl) (allF_cons (FactOk.ixaPO (g := 0) (o := 0) (j := 1) (n := 4) (e := 61) (sz := 4) rfl rfl rfl (by kernel_rfl) (by kernel_rfl) rfl rfl (by decide) rfl) (allF_cons (faG (g := 0) (o := 4) (ty := 4) (off := 1) (m := 1) (by kernel_rfl) (by kernel_rfl) (by kernel_rfl) (by decide) rfl rfl rfl rfl) (allF_cons (faG (g := 0) (o := 4) (ty := 4) (off := 2) (m := 1) (by kernel_rfl) (by kernel_rfl) (by kernel_rfl) (by decide) rfl rfl rfl rfl) (allF_cons (faG (g := 0) (o := 4) (ty := 4) (off := 3) (m := 1) (by kernel_rfl) (by kernel_rfl) (by kernel_rfl) (by decide) rfl rfl rfl rfl) (allF_cons (ldG1 hK (o := 5) rfl rfl (by kernel_rfl) rfl rfl rfl) (allF_cons (ldG1 hK (o := 6) rfl rfl (by kernel_rfl) rfl rfl rfl) (allF_cons (ldG1 hK (o := 7) rfl rfl (by kernel_rfl) rfl rfl rfl) allF_nil)))))))))))))))))))))
  refine walk_to (F := F0) (T := C0) (fuel := 100000) (d := 30) mixed HF (allC_cons (closedC mixed HF c0_0 rfl rfl) (allC_cons (closedC mixed HF c0_1 rfl rfl) (allC_cons (closedC mixed HF c0_2 rfl rfl) (allC_cons (closedC mixed HF c0_3 rfl rfl) (allC_cons (closedC mixed HF c0_4 rfl rfl) (allC_cons (closedC mixed HF c0_5 rfl rfl) (allC_cons (closedC mixed HF c0_6 rfl rfl) (allC_cons (closedC mixed HF c0_7 rfl rfl) (allC_cons (closedC mixed HF c0_8 rfl rfl) (allC_cons (closedC mixed HF c0_9 rfl rfl) (allC_cons (closedC mixed HF c0_10 rfl rfl) allC_nil))))))))))) ?_ hh
  exact ostop_end e0 fun w2 hLow hIn => ⟨(by rfl), hLow⟩   -- returns .bool true
end SanG
end AE
end Go.Proofs.YtblhndlmgibljaaDoor

/- the walks of the answers -/
namespace Go.Proofs.YtblhndlmgibljaaDoor
open Go Go.Proofs Go.RowKit
set_option maxRecDepth 100000
namespace AE
namespace AtG
noncomputable def body : Code := (Tryd.f41.body).getD .skip
def N : Nat := 18
noncomputable abbrev at' (N : Nat) (F : List (FOp × Value)) (C : List (FuncId × List Value × Value)) (c : Code) (s : ASt) : Option Stop := evalTo Tryd.prog F C N 1000 10 c s
noncomputable abbrev leave' (N : Nat) (F : List (FOp × Value)) (C : List (FuncId × List Value × Value)) (ks : List KI) (o : Option Stop) : Option Stop := evalLeave Tryd.prog F C N 1000 10 ks o
noncomputable abbrev unr' (N : Nat) (F : List (FOp × Value)) (C : List (FuncId × List Value × Value)) (m : Nat) (o : Option Stop) : Option Stop := evalUnroll Tryd.prog F C N 1000 10 m o
noncomputable abbrev res' (N : Nat) (F : List (FOp × Value)) (C : List (FuncId × List Value × Value)) (ks : List KI) (x : AX) (s : ASt) : Option Stop := evalRes Tryd.prog F C N 1000 10 ks x s
noncomputable abbrev ops' (N : Nat) (F : List (FOp × Value)) (C : List (FuncId × List Value × Value)) (r : List Oper) (ops : Array Oper) (ks : List KI) (s : ASt) : Option Stop := evalOps Tryd.prog F C N 1000 10 r ops ks s
def s0 : ASt := { sl := slots [(1, symv 1), (0, symv 0)], ms := [], A := start }
def F0 : List (FOp × Value) := [(.bin .lss 3 (symv 1) (.int .i64 0), .bool true)]
def C0 : List (FuncId × List Value × Value) := []
theorem e0 : endVal Tryd.prog Tryd.f41 (at' 18 F0 C0 body s0) = some (.agg ⟨[strV [], .bool false, .bool false, .bool false, .int .i64 16, .int .i64 0, .int .i64 0, .int .i64 0]⟩) := by kernel_rfl
def F1 : List (FOp × Value) := [(.bin .lss 3 (symv 1) (.int .i64 0), .bool false),
    (.len #[22] 3 (symv 0), symv 2),
    (.bin .geq 3 (symv 1) (symv 2), .bool true)]
def C1 : List (FuncId × List Value × Value) := []
theorem e1 : endVal Tryd.prog Tryd.f41 (at' 18 F1 C1 body s0) = some (.agg ⟨[strV [], .bool false, .bool false, .bool false, .int .i64 16, .int .i64 0, .int .i64 0, .int .i64 0]⟩) := by kernel_rfl
def F2 : List (FOp × Value) := [(.bin .lss 3 (symv 1) (.int .i64 0), .bool false),
    (.len #[22] 3 (symv 0), symv 2),
    (.bin .geq 3 (symv 1) (symv 2), .bool false),
    (.ixa 22 (symv 0) (symv 1), symv 3),
    (.ld 35 (symv 3), .agg ⟨[symv 4, symv 5, symv 6, symv 7, symv 8, symv 9, symv 10, symv 11]⟩)]
def C2 : List (FuncId × List Value × Value) := []
theorem e2 : endVal Tryd.prog Tryd.f41 (at' 18 F2 C2 body s0) = some (.agg ⟨[symv 4, symv 5, symv 6, symv 7, symv 8, symv 9, symv 10, symv 11]⟩) := by kernel_rfl
@[reducible] noncomputable def vL (l : List Mt) (a_l : Option Addr) (c_l : Nat) (cell : Int) : List Value := [.slice a_l l.length c_l, .int .i64 cell, .int .i64 ((l.length : Nat) : Int), cellPtr (.slice a_l l.length c_l) ((cell).toNat * 8), strV (l.getD ((cell).toNat) default).1, .bool (l.getD ((cell).toNat) default).2.1, .bool (l.getD ((cell).toNat) default).2.2.1, .bool (l.getD ((cell).toNat) default).2.2.2.1, .int .i64 (l.getD ((cell).toNat) default).2.2.2.2.1, .int .i64 (l.getD ((cell).toNat) default).2.2.2.2.2.1, .int .i64 (l.getD ((cell).toNat) default).2.2.2.2.2.2.1, .int .i64 (l.getD ((cell).toNat) default).2.2.2.2.2.2.2]
@[reducible] noncomputable def sg (M : Mem) (l : List Mt) (a_l : Option Addr) (c_l : Nat) (cell : Int) : Sig := sgL M (vL l a_l c_l cell)
set_option maxHeartbeats 4000000 in
theorem any (W : World) {v_l : Value} {l : List Mt} (hl : Arr (heapOf W) 8 encM v_l l) (cell : Int)  : Calls Tryd.prog 41 #[v_l, .int .i64 cell] W fun e w' => e = .returned (M.val (atM l cell)) ∧ Low W.heap.size W w' := by
  obtain ⟨a_l, c_l, rfl⟩ := hl.slice
  refine @walk_enter (sg (heapOf W) l a_l c_l cell ) Tryd.prog 41 Tryd.f41 body [symv 0, symv 1] (slots [(1, symv 1), (0, symv 0)]) N W _ Tryd.func41 (by kernel_rfl) (by kernel_rfl) (by kernel_rfl) (by kernel_rfl) (immW_sgL W _) fun a hh => ?_
  letI := (sg (heapOf W) l a_l c_l cell )
  by_cases h0 : cell < 0
  · refine walk_to (F := F0) (T := C0) (fuel := 1000) (d := 10) mixed (allF_cons (FactOk.bi rfl rfl rfl rfl rfl rfl (boolT (by omega))) allF_nil) allC_nil ?_ hh
    exact ostop_end e0 fun w2 hLow hIn => ⟨(by first | (rw [atM_in (by omega) (by omega)]; rfl) | (rw [atM_out (by omega)]; rfl)), hLow⟩   -- returns .agg ⟨[strV [], .bool false, .bool false, .bool false, .int .i64 16, .int .i64 0, .int .i64 0, .int .i64 0]⟩
  · by_cases h1 : ((l.length : Nat) : Int) ≤ cell
    · refine walk_to (F := F1) (T := C1) (fuel := 1000) (d := 10) mixed (allF_cons (FactOk.bi rfl rfl rfl rfl rfl rfl (boolF (by omega))) (allF_cons (FactOk.arrLen hl rfl rfl underMl rfl rfl) (allF_cons (FactOk.bi rfl rfl rfl rfl rfl rfl (boolT (by omega))) allF_nil))) allC_nil ?_ hh
      exact ostop_end e1 fun w2 hLow hIn => ⟨(by first | (rw [atM_in (by omega) (by omega)]; rfl) | (rw [atM_out (by omega)]; rfl)), hLow⟩   -- returns .agg ⟨[strV [], .bool false, .bool false, .bool false, .int .i64 16, .int .i64 0, .int .i64 0, .int .i64 0]⟩
    · refine walk_to (F := F2) (T := C2) (fuel := 1000) (d := 10) mixed (allF_cons (FactOk.bi rfl rfl rfl rfl rfl rfl (boolF (by omega))) (allF_cons (FactOk.arrLen hl rfl rfl underMl rfl rfl) (allF_cons (FactOk.bi rfl rfl rfl rfl rfl rfl (boolF (by omega))) (allF_cons (FactOk.arrIxa hl (show (cell).toNat < l.length by omega) rfl rfl rfl underMl sizeM rfl (natI (by omega)) rfl) (allF_cons (FactOk.arrLd hl (getSome (show (cell).toNat < l.length by omega)) rfl rfl aggM sizeM rfl rfl rfl) allF_nil))))) allC_nil ?_ hh
      exact ostop_end e2 fun w2 hLow hIn => ⟨(by first | (rw [atM_in (by omega) (by omega)]; rfl) | (rw [atM_out (by omega)]; rfl)), hLow⟩   -- returns .agg ⟨[symv 4, symv 5, symv 6, symv 7, symv 8, symv 9, symv 10, symv 11]⟩
end AtG
namespace RAtG
noncomputable def body : Code := (Tryd.f19.body).getD .skip
def N : Nat := 18
noncomputable abbrev at' (N : Nat) (F : List (FOp × Value)) (C : List (FuncId × List Value × Value)) (c : Code) (s : ASt) : Option Stop := evalTo Tryd.prog F C N 1000 10 c s
noncomputable abbrev leave' (N : Nat) (F : List (FOp × Value)) (C : List (FuncId × List Value × Value)) (ks : List KI) (o : Option Stop) : Option Stop := evalLeave Tryd.prog F C N 1000 10 ks o
noncomputable abbrev unr' (N : Nat) (F : List (FOp × Value)) (C : List (FuncId × List Value × Value)) (m : Nat) (o : Option Stop) : Option Stop := evalUnroll Tryd.prog F C N 1000 10 m o
noncomputable abbrev res' (N : Nat) (F : List (FOp × Value)) (C : List (FuncId × List Value × Value)) (ks : List KI) (x : AX) (s : ASt) : Option Stop := evalRes Tryd.prog F C N 1000 10 ks x s
noncomputable abbrev ops' (N : Nat) (F : List (FOp × Value)) (C : List (FuncId × List Value × Value)) (r : List Oper) (ops : Array Oper) (ks : List KI) (s : ASt) : Option Stop := evalOps Tryd.prog F C N 1000 10 r ops ks s
def s0 : ASt := { sl := slots [(1, symv 1), (0, symv 0)], ms := [], A := start }
def F0 : List (FOp × Value) := [(.bin .lss 3 (symv 1) (.int .i64 0), .bool true)]
def C0 : List (FuncId × List Value × Value) := []
theorem e0 : endVal Tryd.prog Tryd.f19 (at' 18 F0 C0 body s0) = some (.agg ⟨[strV [], .bool false, .bool false, .bool false, .int .i64 16, .int .i64 0, .int .i64 0, .int .i64 0]⟩) := by kernel_rfl
def F1 : List (FOp × Value) := [(.bin .lss 3 (symv 1) (.int .i64 0), .bool false),
    (.len #[22] 3 (symv 0), symv 2),
    (.bin .geq 3 (symv 1) (symv 2), .bool true)]
def C1 : List (FuncId × List Value × Value) := []
theorem e1 : endVal Tryd.prog Tryd.f19 (at' 18 F1 C1 body s0) = some (.agg ⟨[strV [], .bool false, .bool false, .bool false, .int .i64 16, .int .i64 0, .int .i64 0, .int .i64 0]⟩) := by kernel_rfl
def F2 : List (FOp × Value) := [(.bin .lss 3 (symv 1) (.int .i64 0), .bool false),
    (.len #[22] 3 (symv 0), symv 2),
    (.bin .geq 3 (symv 1) (symv 2), .bool false),
    (.ixa 22 (symv 0) (symv 1), symv 3),
    (.ld 35 (symv 3), .agg ⟨[symv 4, symv 5, symv 6, symv 7, symv 8, symv 9, symv 10, symv 11]⟩)]
def C2 : List (FuncId × List Value × Value) := []
theorem e2 : endVal Tryd.prog Tryd.f19 (at' 18 F2 C2 body s0) = some (.agg ⟨[symv 4, symv 5, symv 6, symv 7, symv 8, symv 9, symv 10, symv 11]⟩) := by kernel_rfl
@[reducible] noncomputable def vL (l : List Mt) (a_l : Option Addr) (c_l : Nat) (cell : Int) : List Value := [.slice a_l l.length c_l, .int .i64 cell, .int .i64 ((l.length : Nat) : Int), cellPtr (.slice a_l l.length c_l) ((cell).toNat * 8), strV (l.getD ((cell).toNat) default).1, .bool (l.getD ((cell).toNat) default).2.1, .bool (l.getD ((cell).toNat) default).2.2.1, .bool (l.getD ((cell).toNat) default).2.2.2.1, .int .i64 (l.getD ((cell).toNat) default).2.2.2.2.1, .int .i64 (l.getD ((cell).toNat) default).2.2.2.2.2.1, .int .i64 (l.getD ((cell).toNat) default).2.2.2.2.2.2.1, .int .i64 (l.getD ((cell).toNat) default).2.2.2.2.2.2.2]
@[reducible] noncomputable def sg (M : Mem) (l : List Mt) (a_l : Option Addr) (c_l : Nat) (cell : Int) : Sig := sgL M (vL l a_l c_l cell)
set_option maxHeartbeats 4000000 in
theorem any (W : World) {v_l : Value} {l : List Mt} (hl : Arr (heapOf W) 8 encM v_l l) (cell : Int)  : Calls Tryd.prog 19 #[v_l, .int .i64 cell] W fun e w' => e = .returned (M.val (atM l cell)) ∧ Low W.heap.size W w' := by
  obtain ⟨a_l, c_l, rfl⟩ := hl.slice
  refine @walk_enter (sg (heapOf W) l a_l c_l cell ) Tryd.prog 19 Tryd.f19 body [symv 0, symv 1] (slots [(1, symv 1), (0, symv 0)]) N W _ Tryd.func19 (by kernel_rfl) (by kernel_rfl) (by kernel_rfl) (by kernel_rfl) (immW_sgL W _) fun a hh => ?_
  letI := (sg (heapOf W) l a_l c_l cell )
  by_cases h0 : cell < 0
  · refine walk_to (F := F0) (T := C0) (fuel := 1000) (d := 10) mixed (allF_cons (FactOk.bi rfl rfl rfl rfl rfl rfl (boolT (by omega))) allF_nil) allC_nil ?_ hh
    exact ostop_end e0 fun w2 hLow hIn => ⟨(by first | (rw [atM_in (by omega) (by omega)]; rfl) | (rw [atM_out (by omega)]; rfl)), hLow⟩   -- returns .agg ⟨[strV [], .bool false, .bool false, .bool false, .int .i64 16, .int .i64 0, .int .i64 0, .int .i64 0]⟩
  · by_cases h1 : ((l.length : Nat) : Int) ≤ cell
    · refine walk_to (F := F1) (T := C1) (fuel := 1000) (d := 10) mixed (allF_cons (FactOk.bi rfl rfl rfl rfl rfl rfl (boolF (by omega))) (allF_cons (FactOk.arrLen hl rfl rfl underMl rfl rfl) (allF_cons (FactOk.bi rfl rfl rfl rfl rfl rfl (boolT (by omega))) allF_nil))) allC_nil ?_ hh
      exact ostop_end e1 fun w2 hLow hIn => ⟨(by first | (rw [atM_in (by omega) (by omega)]; rfl) | (rw [atM_out (by omega)]; rfl)), hLow⟩   -- returns .agg ⟨[strV [], .bool false, .bool false, .bool false, .int .i64 16, .int .i64 0, .int .i64 0, .int .i64 0]⟩
    · refine walk_to (F := F2) (T := C2) (fuel := 1000) (d := 10) mixed (allF_cons (FactOk.bi rfl rfl rfl rfl rfl rfl (boolF (by omega))) (allF_cons (FactOk.arrLen hl rfl rfl underMl rfl rfl) (allF_cons (FactOk.bi rfl rfl rfl rfl rfl rfl (boolF (by omega))) (allF_cons (FactOk.arrIxa hl (show (cell).toNat < l.length by omega) rfl rfl rfl underMl sizeM rfl (natI (by omega)) rfl) (allF_cons (FactOk.arrLd hl (getSome (show (cell).toNat < l.length by omega)) rfl rfl aggM sizeM rfl rfl rfl) allF_nil))))) allC_nil ?_ hh
      exact ostop_end e2 fun w2 hLow hIn => ⟨(by first | (rw [atM_in (by omega) (by omega)]; rfl) | (rw [atM_out (by omega)]; rfl)), hLow⟩   -- returns .agg ⟨[symv 4, symv 5, symv 6, symv 7, symv 8, symv 9, symv 10, symv 11]⟩
end RAtG
namespace FewG
noncomputable def body : Code := (Tryd.f10.body).getD .skip
def N : Nat := 20
noncomputable abbrev at' (N : Nat) (F : List (FOp × Value)) (C : List (FuncId × List Value × Value)) (c : Code) (s : ASt) : Option Stop := evalTo Tryd.prog F C N 1000 10 c s
noncomputable abbrev leave' (N : Nat) (F : List (FOp × Value)) (C : List (FuncId × List Value × Value)) (ks : List KI) (o : Option Stop) : Option Stop := evalLeave Tryd.prog F C N 1000 10 ks o
noncomputable abbrev unr' (N : Nat) (F : List (FOp × Value)) (C : List (FuncId × List Value × Value)) (m : Nat) (o : Option Stop) : Option Stop := evalUnroll Tryd.prog F C N 1000 10 m o
noncomputable abbrev res' (N : Nat) (F : List (FOp × Value)) (C : List (FuncId × List Value × Value)) (ks : List KI) (x : AX) (s : ASt) : Option Stop := evalRes Tryd.prog F C N 1000 10 ks x s
noncomputable abbrev ops' (N : Nat) (F : List (FOp × Value)) (C : List (FuncId × List Value × Value)) (r : List Oper) (ops : Array Oper) (ks : List KI) (s : ASt) : Option Stop := evalOps Tryd.prog F C N 1000 10 r ops ks s
def s0 : ASt := { sl := slots [(0, symv 0)], ms := [], A := start }
def F0 : List (FOp × Value) := [(.len #[22] 3 (symv 0), symv 1),
    (.bin .gtr 3 (symv 1) (.int .i64 300), .bool true)]
def C0 : List (FuncId × List Value × Value) := []
theorem e0 : endVal Tryd.prog Tryd.f10 (at' 20 F0 C0 body s0) = some (.bool false) := by kernel_rfl
def F1 : List (FOp × Value) := [(.len #[22] 3 (symv 0), symv 1),
    (.bin .gtr 3 (symv 1) (.int .i64 300), .bool false)]
def C1 : List (FuncId × List Value × Value) := []
noncomputable def bks0 : List Bk := []
def head0 : Sl := slots [(3, symv 2), (0, symv 0)]
noncomputable abbrev at0 := at' 20 F1 C1 body s0
theorem e1 : headObs head0 bks0 at0 = some [(symv 0, symv 0), (.int .i64 0, symv 2)] := by kernel_rfl
def F2 : List (FOp × Value) := [(.len #[22] 3 (symv 0), symv 1),
    (.bin .lss 3 (symv 2) (symv 1), .bool true),
    (.ixa 22 (symv 0) (symv 2), symv 3),
    (.fa 35 (symv 3) 0, symv 4),
    (.ld 9 (symv 4), symv 5),
    (.len #[9] 3 (symv 5), symv 6),
    (.bin .gtr 3 (symv 6) (.int .i64 60), .bool true)]
def C2 : List (FuncId × List Value × Value) := []
def F3 : List (FOp × Value) := []
def C3 : List (FuncId × List Value × Value) := []
theorem e2 : endVal Tryd.prog Tryd.f10 (leave' 20 F3 C3 (stopKs at0) (at' 20 F2 C2 (stopCode at0) (headSt head0 bks0))) = some (.bool false) := by kernel_rfl
def F4 : List (FOp × Value) := [(.len #[22] 3 (symv 0), symv 1),
    (.bin .lss 3 (symv 2) (symv 1), .bool true),
    (.ixa 22 (symv 0) (symv 2), symv 3),
    (.fa 35 (symv 3) 0, symv 4),
    (.ld 9 (symv 4), symv 5),
    (.len #[9] 3 (symv 5), symv 6),
    (.bin .gtr 3 (symv 6) (.int .i64 60), .bool false),
    (.bin .add 3 (symv 2) (.int .i64 1), symv 7)]
def C4 : List (FuncId × List Value × Value) := []
theorem e3 : backObs head0 bks0 (at' 20 F4 C4 (stopCode at0) (headSt head0 bks0)) = some [(symv 0, symv 0), (symv 7, symv 2)] := by kernel_rfl
def F5 : List (FOp × Value) := [(.len #[22] 3 (symv 0), symv 1),
    (.bin .lss 3 (symv 2) (symv 1), .bool false)]
def C5 : List (FuncId × List Value × Value) := []
theorem e4 : endVal Tryd.prog Tryd.f10 (leave' 20 F3 C3 (stopKs at0) (at' 20 F5 C5 (stopCode at0) (headSt head0 bks0))) = some (.bool true) := by kernel_rfl
@[reducible] noncomputable def vL (l : List Mt) (a_l : Option Addr) (c_l : Nat) (i : Nat) : List Value := [.slice a_l l.length c_l, .int .i64 ((l.length : Nat) : Int), .int .i64 ((i : Nat) : Int), cellPtr (.slice a_l l.length c_l) (i * 8), cellPtr (.slice a_l l.length c_l) (i * 8 + 0), strV (l.getD (i) default).1, .int .i64 (((l.getD (i) default).1.length : Nat) : Int), .int .i64 ((i + 1 : Nat) : Int)]
@[reducible] noncomputable def sg (M : Mem) (l : List Mt) (a_l : Option Addr) (c_l : Nat) (i : Nat) : Sig := sgL M (vL l a_l c_l i)
set_option maxHeartbeats 4000000 in
theorem any (W : World) {v_l : Value} {l : List Mt} (hl : Arr (heapOf W) 8 encM v_l l)  : Calls Tryd.prog 10 #[v_l] W fun e w' => e = .returned (.bool (decide (fewM l))) ∧ Low W.heap.size W w' := by
  obtain ⟨a_l, c_l, rfl⟩ := hl.slice
  refine @walk_enter (sg (heapOf W) l a_l c_l 0) Tryd.prog 10 Tryd.f10 body [symv 0] (slots [(0, symv 0)]) N W _ Tryd.func10 (by kernel_rfl) (by kernel_rfl) (by kernel_rfl) (by kernel_rfl) (immW_sgL W _) fun a hh => ?_
  letI := (sg (heapOf W) l a_l c_l 0)
  by_cases h0 : 300 < ((l.length : Nat) : Int)
  · refine walk_to (F := F0) (T := C0) (fuel := 1000) (d := 10) mixed (allF_cons (FactOk.arrLen hl rfl rfl underMl rfl rfl) (allF_cons (FactOk.bi rfl rfl rfl rfl rfl rfl (boolT (by omega))) allF_nil)) allC_nil ?_ hh
    exact ostop_end e0 fun w2 hLow hIn => ⟨(by first | (rw [decide_eq_false (fewM_long (by omega))]; rfl) | (rw [decide_eq_false (fewM_bad (i := i) (by omega) (by omega))]; rfl) | (rw [decide_eq_true (fewM_ok (by omega) (fun j h => hI.2 j (by omega)))]; rfl)), hLow⟩   -- returns .bool false
  · refine walk_to (F := F1) (T := C1) (fuel := 1000) (d := 10) mixed (allF_cons (FactOk.arrLen hl rfl rfl underMl rfl rfl) (allF_cons (FactOk.bi rfl rfl rfl rfl rfl rfl (boolF (by omega))) allF_nil)) allC_nil ?_ hh
    -- LOOP 0: slot 2 = .bool false is written in the loop: left out
    refine ostop_loop (sg := (fun i => sg (heapOf W) l a_l c_l i)) (fun i => i ≤ l.length ∧ ∀ j, j < i → (l.getD j default).1.length ≤ 60) (fun i => l.length - i) 0 e1 (meet_cons (by first | exact meetV (.slice a_l l.length c_l) rfl rfl | exact meetI rfl rfl (by omega)) (meet_cons (by first | rfl | exact meetInt (by omega)) meet_nil)) (fun _ _ h => h) (by exact ⟨Nat.zero_le _, fun j h => absurd h (Nat.not_lt_zero _)⟩) ?_
    intro i hI aC w hh
    letI := (sg (heapOf W) l a_l c_l i)
    by_cases p0 : ((i : Nat) : Int) < ((l.length : Nat) : Int)
    · by_cases p1 : 60 < (((l.getD (i) default).1.length : Nat) : Int)
      · refine walk_to (F := F2) (T := C2) (fuel := 1000) (d := 10) mixed (allF_cons (FactOk.arrLen hl rfl rfl underMl rfl rfl) (allF_cons (FactOk.bi rfl rfl rfl rfl rfl rfl (boolT (by omega))) (allF_cons (FactOk.arrIxa hl (show i < l.length by omega) rfl rfl rfl underMl sizeM rfl rfl rfl) (allF_cons (arrFaM0 hl (show i < l.length by omega) rfl rfl rfl rfl) (allF_cons (FactOk.arrLd1 (j := 0) hl (getSome (show i < l.length by omega)) rfl rfl aggStr rfl rfl rfl rfl) (allF_cons (FactOk.strLen rfl rfl underStr rfl rfl) (allF_cons (FactOk.bi rfl rfl rfl rfl rfl rfl (boolT (by omega))) allF_nil))))))) allC_nil ?_ hh
        refine walk_leave (F := F3) (T := C3) (fuel := 1000) (d := 10) mixed allF_nil allC_nil ?_
        exact ostop_end e2 fun w2 hLow hIn => ⟨(by first | (rw [decide_eq_false (fewM_long (by omega))]; rfl) | (rw [decide_eq_false (fewM_bad (i := i) (by omega) (by omega))]; rfl) | (rw [decide_eq_true (fewM_ok (by omega) (fun j h => hI.2 j (by omega)))]; rfl)), hLow⟩   -- returns .bool false
      · refine walk_to (F := F4) (T := C4) (fuel := 1000) (d := 10) mixed (allF_cons (FactOk.arrLen hl rfl rfl underMl rfl rfl) (allF_cons (FactOk.bi rfl rfl rfl rfl rfl rfl (boolT (by omega))) (allF_cons (FactOk.arrIxa hl (show i < l.length by omega) rfl rfl rfl underMl sizeM rfl rfl rfl) (allF_cons (arrFaM0 hl (show i < l.length by omega) rfl rfl rfl rfl) (allF_cons (FactOk.arrLd1 (j := 0) hl (getSome (show i < l.length by omega)) rfl rfl aggStr rfl rfl rfl rfl) (allF_cons (FactOk.strLen rfl rfl underStr rfl rfl) (allF_cons (FactOk.bi rfl rfl rfl rfl rfl rfl (boolF (by omega))) (allF_cons (FactOk.bi rfl rfl rfl rfl rfl rfl (intI (by omega) (by omega) (by omega))) allF_nil)))))))) allC_nil ?_ hh
        exact ostop_backM (s1 := (sg (heapOf W) l a_l c_l i)) (sg := (fun i => sg (heapOf W) l a_l c_l i)) (I := fun i => i ≤ l.length ∧ ∀ j, j < i → (l.getD j default).1.length ≤ 60) (μ := fun i => l.length - i) (x := i) (i + 1) e3 (meet_cons (by first | exact meetV (.slice a_l l.length c_l) rfl rfl | exact meetI rfl rfl (by omega)) (meet_cons (by first | exact meetV (.int .i64 ((i + 1 : Nat) : Int)) rfl rfl | exact meetI rfl rfl (by omega)) meet_nil)) (fun _ _ h => h) (by exact ⟨by omega, fun j h => by rcases Nat.lt_or_ge j i with h1 | h1; exact hI.2 j h1; rw [show j = i by omega]; omega⟩) (by (try dsimp only); omega)
    · refine walk_to (F := F5) (T := C5) (fuel := 1000) (d := 10) mixed (allF_cons (FactOk.arrLen hl rfl rfl underMl rfl rfl) (allF_cons (FactOk.bi rfl rfl rfl rfl rfl rfl (boolF (by omega))) allF_nil)) allC_nil ?_ hh
      refine walk_leave (F := F3) (T := C3) (fuel := 1000) (d := 10) mixed allF_nil allC_nil ?_
      exact ostop_end e4 fun w2 hLow hIn => ⟨(by first | (rw [decide_eq_false (fewM_long (by omega))]; rfl) | (rw [decide_eq_false (fewM_bad (i := i) (by omega) (by omega))]; rfl) | (rw [decide_eq_true (fewM_ok (by omega) (fun j h => hI.2 j (by omega)))]; rfl)), hLow⟩   -- returns .bool true
end FewG
namespace RFindG
noncomputable def body : Code := (Tryd.f18.body).getD .skip
def N : Nat := 21
noncomputable abbrev at' (N : Nat) (F : List (FOp × Value)) (C : List (FuncId × List Value × Value)) (c : Code) (s : ASt) : Option Stop := evalTo Tryd.prog F C N 1000 10 c s
noncomputable abbrev leave' (N : Nat) (F : List (FOp × Value)) (C : List (FuncId × List Value × Value)) (ks : List KI) (o : Option Stop) : Option Stop := evalLeave Tryd.prog F C N 1000 10 ks o
noncomputable abbrev unr' (N : Nat) (F : List (FOp × Value)) (C : List (FuncId × List Value × Value)) (m : Nat) (o : Option Stop) : Option Stop := evalUnroll Tryd.prog F C N 1000 10 m o
noncomputable abbrev res' (N : Nat) (F : List (FOp × Value)) (C : List (FuncId × List Value × Value)) (ks : List KI) (x : AX) (s : ASt) : Option Stop := evalRes Tryd.prog F C N 1000 10 ks x s
noncomputable abbrev ops' (N : Nat) (F : List (FOp × Value)) (C : List (FuncId × List Value × Value)) (r : List Oper) (ops : Array Oper) (ks : List KI) (s : ASt) : Option Stop := evalOps Tryd.prog F C N 1000 10 r ops ks s
def s0 : ASt := { sl := slots [(1, symv 1), (0, symv 0)], ms := [], A := start }
def F0 : List (FOp × Value) := []
def C0 : List (FuncId × List Value × Value) := []
noncomputable def bks0 : List Bk := []
def head0 : Sl := slots [(6, symv 2), (1, symv 1), (0, symv 0)]
noncomputable abbrev at0 := at' 21 F0 C0 body s0
theorem e0 : headObs head0 bks0 at0 = some [(symv 0, symv 0), (symv 1, symv 1), (.int .i64 0, symv 2)] := by kernel_rfl
def F1 : List (FOp × Value) := [(.len #[22] 3 (symv 0), symv 3),
    (.bin .lss 3 (symv 2) (symv 3), .bool true),
    (.ixa 22 (symv 0) (symv 2), symv 4),
    (.fa 35 (symv 4) 0, symv 5),
    (.ld 9 (symv 5), symv 6),
    (.bin .eql 9 (symv 6) (symv 1), .bool true)]
def C1 : List (FuncId × List Value × Value) := []
theorem e1 : endVal Tryd.prog Tryd.f18 (leave' 21 F0 C0 (stopKs at0) (at' 21 F1 C1 (stopCode at0) (headSt head0 bks0))) = some (.tuple ⟨[symv 2, .bool true]⟩) := by kernel_rfl
def F2 : List (FOp × Value) := [(.len #[22] 3 (symv 0), symv 3),
    (.bin .lss 3 (symv 2) (symv 3), .bool true),
    (.ixa 22 (symv 0) (symv 2), symv 4),
    (.fa 35 (symv 4) 0, symv 5),
    (.ld 9 (symv 5), symv 6),
    (.bin .eql 9 (symv 6) (symv 1), .bool false),
    (.bin .add 3 (symv 2) (.int .i64 1), symv 7)]
def C2 : List (FuncId × List Value × Value) := []
theorem e2 : backObs head0 bks0 (at' 21 F2 C2 (stopCode at0) (headSt head0 bks0)) = some [(symv 0, symv 0), (symv 1, symv 1), (symv 7, symv 2)] := by kernel_rfl
def F3 : List (FOp × Value) := [(.len #[22] 3 (symv 0), symv 3),
    (.bin .lss 3 (symv 2) (symv 3), .bool false)]
def C3 : List (FuncId × List Value × Value) := []
theorem e3 : endVal Tryd.prog Tryd.f18 (leave' 21 F0 C0 (stopKs at0) (at' 21 F3 C3 (stopCode at0) (headSt head0 bks0))) = some (.tuple ⟨[.int .i64 0, .bool false]⟩) := by kernel_rfl
@[reducible] noncomputable def vL (l : List Mt) (a_l : Option Addr) (c_l : Nat) (name : Bs) (i : Nat) : List Value := [.slice a_l l.length c_l, strV name, .int .i64 ((i : Nat) : Int), .int .i64 ((l.length : Nat) : Int), cellPtr (.slice a_l l.length c_l) (i * 8), cellPtr (.slice a_l l.length c_l) (i * 8 + 0), strV (l.getD (i) default).1, .int .i64 ((i + 1 : Nat) : Int)]
@[reducible] noncomputable def sg (M : Mem) (l : List Mt) (a_l : Option Addr) (c_l : Nat) (name : Bs) (i : Nat) : Sig := sgL M (vL l a_l c_l name i)
set_option maxHeartbeats 4000000 in
theorem any (W : World) {v_l : Value} {l : List Mt} (hl : Arr (heapOf W) 8 encM v_l l) (name : Bs) (hn : l.length ≤ 1000000) : Calls Tryd.prog 18 #[v_l, strV name] W fun e w' => e = .returned (.tuple #[.int .i64 (max 0 (idxN l name)), .bool (decide (0 ≤ idxN l name))]) ∧ Low W.heap.size W w' := by
  obtain ⟨a_l, c_l, rfl⟩ := hl.slice
  refine @walk_enter (sg (heapOf W) l a_l c_l name 0) Tryd.prog 18 Tryd.f18 body [symv 0, symv 1] (slots [(1, symv 1), (0, symv 0)]) N W _ Tryd.func18 (by kernel_rfl) (by kernel_rfl) (by kernel_rfl) (by kernel_rfl) (immW_sgL W _) fun a hh => ?_
  letI := (sg (heapOf W) l a_l c_l name 0)
  refine walk_to (F := F0) (T := C0) (fuel := 1000) (d := 10) mixed allF_nil allC_nil ?_ hh
  -- LOOP 0: slot 4 = .int .i64 0 is written in the loop: left out
  -- LOOP 0: slot 5 = .bool false is written in the loop: left out
  refine ostop_loop (sg := (fun i => sg (heapOf W) l a_l c_l name i)) (fun i => i ≤ l.length ∧ ∀ j, j < i → ¬ (l.getD j default).1 = name) (fun i => l.length - i) 0 e0 (meet_cons (by first | exact meetV (.slice a_l l.length c_l) rfl rfl | exact meetI rfl rfl (by omega)) (meet_cons (by exact meetV (strV name) rfl rfl) (meet_cons (by first | rfl | exact meetInt (by omega)) meet_nil))) (fun _ _ h => h) (by exact ⟨Nat.zero_le _, fun j h => absurd h (Nat.not_lt_zero _)⟩) ?_
  intro i hI aC w hh
  letI := (sg (heapOf W) l a_l c_l name i)
  by_cases p0 : ((i : Nat) : Int) < ((l.length : Nat) : Int)
  · by_cases p1 : (l.getD (i) default).1 = name
    · refine walk_to (F := F1) (T := C1) (fuel := 1000) (d := 10) mixed (allF_cons (FactOk.arrLen hl rfl rfl underMl rfl rfl) (allF_cons (FactOk.bi rfl rfl rfl rfl rfl rfl (boolT (by omega))) (allF_cons (FactOk.arrIxa hl (show i < l.length by omega) rfl rfl rfl underMl sizeM rfl rfl rfl) (allF_cons (arrFaM0 hl (show i < l.length by omega) rfl rfl rfl rfl) (allF_cons (FactOk.arrLd1 (j := 0) hl (getSome (show i < l.length by omega)) rfl rfl aggStr rfl rfl rfl rfl) (allF_cons (FactOk.strEqT rfl rfl rfl rfl p1) allF_nil)))))) allC_nil ?_ hh
      refine walk_leave (F := F0) (T := C0) (fuel := 1000) (d := 10) mixed allF_nil allC_nil ?_
      exact ostop_end e1 fun w2 hLow hIn => ⟨(by first | (rw [idxN_at hI.2 (by omega) p1, Int.max_eq_right (by omega), decide_eq_true (by omega)]; rfl) | (rw [idxN_none (fun j h => hI.2 j (by omega))]; rfl)), hLow⟩   -- returns .tuple ⟨[symv 2, .bool true]⟩
    · refine walk_to (F := F2) (T := C2) (fuel := 1000) (d := 10) mixed (allF_cons (FactOk.arrLen hl rfl rfl underMl rfl rfl) (allF_cons (FactOk.bi rfl rfl rfl rfl rfl rfl (boolT (by omega))) (allF_cons (FactOk.arrIxa hl (show i < l.length by omega) rfl rfl rfl underMl sizeM rfl rfl rfl) (allF_cons (arrFaM0 hl (show i < l.length by omega) rfl rfl rfl rfl) (allF_cons (FactOk.arrLd1 (j := 0) hl (getSome (show i < l.length by omega)) rfl rfl aggStr rfl rfl rfl rfl) (allF_cons (FactOk.strEqF rfl rfl rfl rfl p1) (allF_cons (FactOk.bi rfl rfl rfl rfl rfl rfl (intI (by omega) (by omega) (by omega))) allF_nil))))))) allC_nil ?_ hh
      exact ostop_backM (s1 := (sg (heapOf W) l a_l c_l name i)) (sg := (fun i => sg (heapOf W) l a_l c_l name i)) (I := fun i => i ≤ l.length ∧ ∀ j, j < i → ¬ (l.getD j default).1 = name) (μ := fun i => l.length - i) (x := i) (i + 1) e2 (meet_cons (by first | exact meetV (.slice a_l l.length c_l) rfl rfl | exact meetI rfl rfl (by omega)) (meet_cons (by exact meetV (strV name) rfl rfl) (meet_cons (by first | exact meetV (.int .i64 ((i + 1 : Nat) : Int)) rfl rfl | exact meetI rfl rfl (by omega)) meet_nil))) (fun _ _ h => h) (by exact ⟨by omega, fun j h => by rcases Nat.lt_or_ge j i with h1 | h1; exact hI.2 j h1; rw [show j = i by omega]; exact p1⟩) (by (try dsimp only); omega)
  · refine walk_to (F := F3) (T := C3) (fuel := 1000) (d := 10) mixed (allF_cons (FactOk.arrLen hl rfl rfl underMl rfl rfl) (allF_cons (FactOk.bi rfl rfl rfl rfl rfl rfl (boolF (by omega))) allF_nil)) allC_nil ?_ hh
    refine walk_leave (F := F0) (T := C0) (fuel := 1000) (d := 10) mixed allF_nil allC_nil ?_
    exact ostop_end e3 fun w2 hLow hIn => ⟨(by first | (rw [idxN_at hI.2 (by omega) p1, Int.max_eq_right (by omega), decide_eq_true (by omega)]; rfl) | (rw [idxN_none (fun j h => hI.2 j (by omega))]; rfl)), hLow⟩   -- returns .tuple ⟨[.int .i64 0, .bool false]⟩
end RFindG
end AE
end Go.Proofs.YtblhndlmgibljaaDoor

/- the walk of Find -/
namespace Go.Proofs.YtblhndlmgibljaaDoor
open Go Go.Proofs Go.RowKit
set_option maxRecDepth 100000
namespace AE
namespace FindG
noncomputable def body : Code := (Tryd.f17.body).getD .skip
def N : Nat := 14
noncomputable abbrev at' (N : Nat) (F : List (FOp × Value)) (C : List (FuncId × List Value × Value)) (c : Code) (s : ASt) : Option Stop := evalTo Tryd.prog F C N 1000 10 c s
noncomputable abbrev leave' (N : Nat) (F : List (FOp × Value)) (C : List (FuncId × List Value × Value)) (ks : List KI) (o : Option Stop) : Option Stop := evalLeave Tryd.prog F C N 1000 10 ks o
noncomputable abbrev unr' (N : Nat) (F : List (FOp × Value)) (C : List (FuncId × List Value × Value)) (m : Nat) (o : Option Stop) : Option Stop := evalUnroll Tryd.prog F C N 1000 10 m o
noncomputable abbrev res' (N : Nat) (F : List (FOp × Value)) (C : List (FuncId × List Value × Value)) (ks : List KI) (x : AX) (s : ASt) : Option Stop := evalRes Tryd.prog F C N 1000 10 ks x s
noncomputable abbrev ops' (N : Nat) (F : List (FOp × Value)) (C : List (FuncId × List Value × Value)) (r : List Oper) (ops : Array Oper) (ks : List KI) (s : ASt) : Option Stop := evalOps Tryd.prog F C N 1000 10 r ops ks s
def s0 : ASt := { sl := slots [(1, symv 1), (0, symv 0)], ms := [], A := start }
def F0 : List (FOp × Value) := []
def C0 : List (FuncId × List Value × Value) := []
noncomputable abbrev ra0 := at' 14 F0 C0 body s0
noncomputable def bc0 : Code := (Tryd.f39.body).getD .skip
noncomputable def rb0 : List Bk := [⟨.cells [symv 1], 9, 0⟩]
def rs0 : Sl := slots [(5, .bool false), (4, .int .i64 0)]
def rp0 : Sl := match aput 14 rs0 (some 9) (symv 2) with | some s => s | none => .nil
theorem e0 : (enterAt Tryd.prog ra0).isSome = true := by kernel_rfl
theorem e1 : (enterD Tryd.prog ra0).1 = 39 := by kernel_rfl
theorem e2 : (setArgs 0 (enterD Tryd.prog ra0).2.1 .nil).isSome = true := by kernel_rfl
theorem e3 : (enterD Tryd.prog ra0).2.1.length + (Tryd.f39.ntmps - (enterD Tryd.prog ra0).2.1.length) = 19 := by kernel_rfl
theorem e4 : (enterD Tryd.prog ra0).2.2.n = 1 := by kernel_rfl
theorem e5 : trT 1 (stopSt ra0).sl rs0 = some [] := by kernel_rfl
theorem e6 : aput 14 rs0 (stopDst ra0) (symv 2) = some rp0 := by kernel_rfl
def F1 : List (FOp × Value) := [(.len #[22] 3 (symv 0), symv 3)]
def C1 : List (FuncId × List Value × Value) := []
noncomputable def bks0 : List Bk := [⟨.cells [symv 1], 9, 0⟩]
def head0 : Sl := slots [(8, symv 4), (7, symv 3), (1, .func (.func 40) ⟨[]⟩ ⟨[.pointer (some ⟨0, 0, none⟩)]⟩), (0, symv 0)]
noncomputable abbrev at0 := at' 19 F1 C1 bc0 (enterSt Tryd.prog ra0)
theorem e7 : headObs head0 bks0 at0 = some [(symv 0, symv 0), (symv 3, symv 3), (.int .i64 0, symv 4), (symv 1, symv 1)] := by kernel_rfl
def F2 : List (FOp × Value) := [(.bin .lss 3 (symv 4) (symv 3), .bool true),
    (.ixa 22 (symv 0) (symv 4), symv 5),
    (.ld 35 (symv 5), .agg ⟨[symv 6, symv 7, symv 8, symv 9, symv 10, symv 11, symv 12, symv 13]⟩),
    (.bin .eql 9 (symv 6) (symv 1), .bool true)]
def C2 : List (FuncId × List Value × Value) := []
theorem e8 : retObs Tryd.prog Tryd.f39 (symv 2) rb0 (leave' 19 F0 C0 (stopKs at0) (at' 19 F2 C2 (stopCode at0) (headSt head0 bks0))) = some [(symv 4, symv 2), (symv 1, symv 1)] := by kernel_rfl
def F3 : List (FOp × Value) := [(.bin .lss 3 (symv 4) (symv 3), .bool true),
    (.ixa 22 (symv 0) (symv 4), symv 5),
    (.ld 35 (symv 5), .agg ⟨[symv 6, symv 7, symv 8, symv 9, symv 10, symv 11, symv 12, symv 13]⟩),
    (.bin .eql 9 (symv 6) (symv 1), .bool false),
    (.bin .add 3 (symv 4) (.int .i64 1), symv 14)]
def C3 : List (FuncId × List Value × Value) := []
theorem e9 : backObs head0 bks0 (at' 19 F3 C3 (stopCode at0) (headSt head0 bks0)) = some [(symv 0, symv 0), (symv 3, symv 3), (symv 14, symv 4), (symv 1, symv 1)] := by kernel_rfl
def F4 : List (FOp × Value) := [(.bin .lss 3 (symv 4) (symv 3), .bool false)]
def C4 : List (FuncId × List Value × Value) := []
theorem e10 : retObs Tryd.prog Tryd.f39 (symv 2) rb0 (leave' 19 F0 C0 (stopKs at0) (at' 19 F4 C4 (stopCode at0) (headSt head0 bks0))) = some [(.int .i64 (-1), symv 2), (symv 1, symv 1)] := by kernel_rfl
def F5 : List (FOp × Value) := [(.mx #[3, 3] 3 (.int .i64 0) (symv 2), symv 15),
    (.bin .geq 3 (symv 2) (.int .i64 0), .bool true)]
def C5 : List (FuncId × List Value × Value) := []
theorem e11 : endVal Tryd.prog Tryd.f17 (ops' 14 F5 C5 (stopRest ra0) (stopOps ra0) (stopKs ra0) { sl := rp0, ms := (stopSt ra0).ms, A := mkAS rb0 }) = some (.tuple ⟨[symv 15, .bool true]⟩) := by kernel_rfl
def F6 : List (FOp × Value) := [(.mx #[3, 3] 3 (.int .i64 0) (symv 2), symv 15),
    (.bin .geq 3 (symv 2) (.int .i64 0), .bool false)]
def C6 : List (FuncId × List Value × Value) := []
theorem e12 : endVal Tryd.prog Tryd.f17 (ops' 14 F6 C6 (stopRest ra0) (stopOps ra0) (stopKs ra0) { sl := rp0, ms := (stopSt ra0).ms, A := mkAS rb0 }) = some (.tuple ⟨[symv 15, .bool false]⟩) := by kernel_rfl
@[reducible] noncomputable def vL (l : List Mt) (a_l : Option Addr) (c_l : Nat) (name : Bs) (i : Nat) (r : Int) : List Value := [.slice a_l l.length c_l, strV name, .int .i64 r, .int .i64 ((l.length : Nat) : Int), .int .i64 ((i : Nat) : Int), cellPtr (.slice a_l l.length c_l) (i * 8), strV (l.getD (i) default).1, .bool (l.getD (i) default).2.1, .bool (l.getD (i) default).2.2.1, .bool (l.getD (i) default).2.2.2.1, .int .i64 (l.getD (i) default).2.2.2.2.1, .int .i64 (l.getD (i) default).2.2.2.2.2.1, .int .i64 (l.getD (i) default).2.2.2.2.2.2.1, .int .i64 (l.getD (i) default).2.2.2.2.2.2.2, .int .i64 ((i + 1 : Nat) : Int), .int .i64 (max 0 r)]
@[reducible] noncomputable def sg (M : Mem) (l : List Mt) (a_l : Option Addr) (c_l : Nat) (name : Bs) (i : Nat) (r : Int) : Sig := sgL M (vL l a_l c_l name i r)
set_option maxHeartbeats 4000000 in
theorem any (W : World) {v_l : Value} {l : List Mt} (hl : Arr (heapOf W) 8 encM v_l l) (name : Bs) (hn : l.length ≤ 1000000) : Calls Tryd.prog 17 #[v_l, strV name] W fun e w' => e = .returned (.tuple #[.int .i64 (max 0 (idxN l name)), .bool (decide (0 ≤ idxN l name))]) ∧ Low W.heap.size W w' := by
  obtain ⟨a_l, c_l, rfl⟩ := hl.slice
  refine @walk_enter (sg (heapOf W) l a_l c_l name 0 0) Tryd.prog 17 Tryd.f17 body [symv 0, symv 1] (slots [(1, symv 1), (0, symv 0)]) N W _ Tryd.func17 (by kernel_rfl) (by kernel_rfl) (by kernel_rfl) (by kernel_rfl) (immW_sgL W _) fun a hh => ?_
  letI := (sg (heapOf W) l a_l c_l name 0 0)
  have hb := idxN_bound l name
  refine walk_to (F := F0) (T := C0) (fuel := 1000) (d := 10) mixed allF_nil allC_nil ?_ hh
  refine ostop_enterX (N' := 19) (n := 1) (fn := Tryd.f39) (c := bc0) (sgR := fun (r : Int) => (sg (heapOf W) l a_l c_l name 0 r)) (R := fun (r : Int) => r = idxN l name) (vR := symv 2) (bksR := rb0) (sl2 := rs0) (sl3 := rp0) e0 ((congrArg (fun f => Tryd.prog.funcs[f]?) e1).trans Tryd.func39) (by kernel_rfl) e2 e3 e4 e5 e6 (fun r _ => meet_nil) ?_ ?_
  · intro φ aC w hh
    letI : Outer := ⟨φ, 1⟩
    refine walk_to (F := F1) (T := C1) (fuel := 1000) (d := 10) mixed (allF_cons (FactOk.arrLen hl rfl rfl underMl rfl rfl) allF_nil) allC_nil ?_ hh
    -- LOOP 0: slot 4 = .int .i64 0 is written in the loop: left out
    refine ostop_loop (sg := (fun i => sg (heapOf W) l a_l c_l name i 0)) (fun i => i ≤ l.length ∧ ∀ j, j < i → ¬ (l.getD j default).1 = name) (fun i => l.length - i) 0 e7 (meet_cons (by first | exact meetV (.slice a_l l.length c_l) rfl rfl | exact meetI rfl rfl (by omega)) (meet_cons (by first | exact meetV (.int .i64 ((l.length : Nat) : Int)) rfl rfl | exact meetI rfl rfl (by omega)) (meet_cons (by first | rfl | exact meetInt (by omega)) (meet_cons (by exact meetV (strV name) rfl rfl) meet_nil)))) (fun _ _ h => h) (by exact ⟨Nat.zero_le _, fun j h => absurd h (Nat.not_lt_zero _)⟩) ?_
    intro i hI aC w hh
    letI := (sg (heapOf W) l a_l c_l name i 0)
    by_cases q0 : ((i : Nat) : Int) < ((l.length : Nat) : Int)
    · by_cases q1 : (l.getD (i) default).1 = name
      · refine walk_to (F := F2) (T := C2) (fuel := 1000) (d := 10) mixed (allF_cons (FactOk.bi rfl rfl rfl rfl rfl rfl (boolT (by omega))) (allF_cons (FactOk.arrIxa hl (show i < l.length by omega) rfl rfl rfl underMl sizeM rfl rfl rfl) (allF_cons (FactOk.arrLd hl (getSome (show i < l.length by omega)) rfl rfl aggM sizeM rfl rfl rfl) (allF_cons (FactOk.strEqT rfl rfl rfl rfl q1) allF_nil)))) allC_nil ?_ hh
        refine walk_leave (F := F0) (T := C0) (fuel := 1000) (d := 10) mixed allF_nil allC_nil ?_
        exact ostop_ret (s1 := (sg (heapOf W) l a_l c_l name i 0)) (sgR := fun (r : Int) => (sg (heapOf W) l a_l c_l name 0 r)) (R := fun (r : Int) => r = idxN l name) ((i : Nat) : Int) e8 (meet_cons (by first | exact meetV (.int .i64 ((i : Nat) : Int)) rfl rfl | exact meetI rfl rfl (by omega)) (meet_cons (by exact meetV (strV name) rfl rfl) meet_nil)) (fun _ _ h => h) (by first | exact (idxN_at hI.2 (by omega) q1).symm | exact (idxN_none (fun j h => hI.2 j (by omega))).symm) (Nat.le_of_ble_eq_true rfl) ⟨trivial, trivial⟩
      · refine walk_to (F := F3) (T := C3) (fuel := 1000) (d := 10) mixed (allF_cons (FactOk.bi rfl rfl rfl rfl rfl rfl (boolT (by omega))) (allF_cons (FactOk.arrIxa hl (show i < l.length by omega) rfl rfl rfl underMl sizeM rfl rfl rfl) (allF_cons (FactOk.arrLd hl (getSome (show i < l.length by omega)) rfl rfl aggM sizeM rfl rfl rfl) (allF_cons (FactOk.strEqF rfl rfl rfl rfl q1) (allF_cons (FactOk.bi rfl rfl rfl rfl rfl rfl (intI (by omega) (by omega) (by omega))) allF_nil))))) allC_nil ?_ hh
        exact ostop_backM (s1 := (sg (heapOf W) l a_l c_l name i 0)) (sg := (fun i => sg (heapOf W) l a_l c_l name i 0)) (I := fun i => i ≤ l.length ∧ ∀ j, j < i → ¬ (l.getD j default).1 = name) (μ := fun i => l.length - i) (x := i) (i + 1) e9 (meet_cons (by first | exact meetV (.slice a_l l.length c_l) rfl rfl | exact meetI rfl rfl (by omega)) (meet_cons (by first | exact meetV (.int .i64 ((l.length : Nat) : Int)) rfl rfl | exact meetI rfl rfl (by omega)) (meet_cons (by first | exact meetV (.int .i64 ((i + 1 : Nat) : Int)) rfl rfl | exact meetI rfl rfl (by omega)) (meet_cons (by exact meetV (strV name) rfl rfl) meet_nil)))) (fun _ _ h => h) (by exact ⟨by omega, fun j h => by rcases Nat.lt_or_ge j i with h1 | h1; exact hI.2 j h1; rw [show j = i by omega]; exact q1⟩) (by (try dsimp only); omega)
    · refine walk_to (F := F4) (T := C4) (fuel := 1000) (d := 10) mixed (allF_cons (FactOk.bi rfl rfl rfl rfl rfl rfl (boolF (by omega))) allF_nil) allC_nil ?_ hh
      refine walk_leave (F := F0) (T := C0) (fuel := 1000) (d := 10) mixed allF_nil allC_nil ?_
      exact ostop_ret (s1 := (sg (heapOf W) l a_l c_l name i 0)) (sgR := fun (r : Int) => (sg (heapOf W) l a_l c_l name 0 r)) (R := fun (r : Int) => r = idxN l name) (-1) e10 (meet_cons (by first | rfl | exact meetInt (by omega)) (meet_cons (by exact meetV (strV name) rfl rfl) meet_nil)) (fun _ _ h => h) (by first | exact (idxN_at hI.2 (by omega) q1).symm | exact (idxN_none (fun j h => hI.2 j (by omega))).symm) (Nat.le_of_ble_eq_true rfl) ⟨trivial, trivial⟩
  · intro r hY0 aC w hh
    letI := (sg (heapOf W) l a_l c_l name 0 r)
    by_cases p0 : 0 ≤ r
    · refine walk_ops (F := F5) (T := C5) (fuel := 1000) (d := 10) mixed (allF_cons (FactOk.maxI rfl rfl rfl rfl rfl rfl) (allF_cons (FactOk.bi rfl rfl rfl rfl rfl rfl (boolT (by omega))) allF_nil)) allC_nil ?_ hh
      exact ostop_end e11 fun w2 hLow hIn => ⟨(by first | (rw [← hY0, decide_eq_true (by omega)]; rfl) | (rw [← hY0, decide_eq_false (by omega)]; rfl)), hLow⟩   -- returns .tuple ⟨[symv 15, .bool true]⟩
    · refine walk_ops (F := F6) (T := C6) (fuel := 1000) (d := 10) mixed (allF_cons (FactOk.maxI rfl rfl rfl rfl rfl rfl) (allF_cons (FactOk.bi rfl rfl rfl rfl rfl rfl (boolF (by omega))) allF_nil)) allC_nil ?_ hh
      exact ostop_end e12 fun w2 hLow hIn => ⟨(by first | (rw [← hY0, decide_eq_true (by omega)]; rfl) | (rw [← hY0, decide_eq_false (by omega)]; rfl)), hLow⟩   -- returns .tuple ⟨[symv 15, .bool false]⟩
end FindG
end AE
end Go.Proofs.YtblhndlmgibljaaDoor

/- What the functions of the materials answer, as facts for the walks of the laws. -/
namespace Go.Proofs.YtblhndlmgibljaaDoor
open Go Go.Proofs Go.RowKit
namespace AE
theorem fewM_len {l : List Mt} (h : fewM l) : l.length ≤ 1000000 := by have := h.1; omega
section
variable [Sig]
theorem callSanity (hK : KindsM Sig.imm) : CallFactOk Tryd.prog (9, [], .bool true) :=
  callAny (a := #[]) rfl rfl rfl rfl fun w hw => SanG.any w (hK.mono hw)
theorem callFewT {x : Value} {u : Value} {l : List Mt} (hp : plainSL [x] = true) (ev : interpL [x] = [u]) (hl : Arr Sig.imm 8 encM u l) (h : fewM l) : CallFactOk Tryd.prog (10, [x], .bool true) :=
  callAny (a := #[u]) hp rfl ev rfl fun w hw => (FewG.any w (hl.mono hw)).mono fun e w' h' => by rw [decide_eq_true h] at h'; exact h'
theorem callFewF {x : Value} {u : Value} {l : List Mt} (hp : plainSL [x] = true) (ev : interpL [x] = [u]) (hl : Arr Sig.imm 8 encM u l) (h : ¬ fewM l) : CallFactOk Tryd.prog (10, [x], .bool false) :=
  callAny (a := #[u]) hp rfl ev rfl fun w hw => (FewG.any w (hl.mono hw)).mono fun e w' h' => by rw [decide_eq_false h] at h'; exact h'
theorem callFind {x y r : Value} {u : Value} {l : List Mt} {name : Bs} (hp : plainSL [x, y] = true) (hr : plainS r = true) (ev : interpL [x, y] = [u, strV name]) (er : interp r = .tuple #[.int .i64 (max 0 (idxN l name)), .bool (decide (0 ≤ idxN l name))]) (hl : Arr Sig.imm 8 encM u l) (hn : l.length ≤ 1000000) : CallFactOk Tryd.prog (17, [x, y], r) :=
  callAny (a := #[u, strV name]) hp hr ev er fun w hw => FindG.any w (hl.mono hw) name hn
theorem callRFind {x y r : Value} {u : Value} {l : List Mt} {name : Bs} (hp : plainSL [x, y] = true) (hr : plainS r = true) (ev : interpL [x, y] = [u, strV name]) (er : interp r = .tuple #[.int .i64 (max 0 (idxN l name)), .bool (decide (0 ≤ idxN l name))]) (hl : Arr Sig.imm 8 encM u l) (hn : l.length ≤ 1000000) : CallFactOk Tryd.prog (18, [x, y], r) :=
  callAny (a := #[u, strV name]) hp hr ev er fun w hw => RFindG.any w (hl.mono hw) name hn
theorem callMAt {x y r : Value} {u : Value} {l : List Mt} {cell : Int} (hp : plainSL [x, y] = true) (hr : plainS r = true) (ev : interpL [x, y] = [u, .int .i64 cell]) (er : interp r = M.val (atM l cell)) (hl : Arr Sig.imm 8 encM u l) : CallFactOk Tryd.prog (41, [x, y], r) :=
  callAny (a := #[u, .int .i64 cell]) hp hr ev er fun w hw => AtG.any w (hl.mono hw) cell
theorem callRAt {x y r : Value} {u : Value} {l : List Mt} {cell : Int} (hp : plainSL [x, y] = true) (hr : plainS r = true) (ev : interpL [x, y] = [u, .int .i64 cell]) (er : interp r = M.val (atM l cell)) (hl : Arr Sig.imm 8 encM u l) : CallFactOk Tryd.prog (19, [x, y], r) :=
  callAny (a := #[u, .int .i64 cell]) hp hr ev er fun w hw => RAtG.any w (hl.mono hw) cell
end
end AE
end Go.Proofs.YtblhndlmgibljaaDoor

/- What Print writes of a table of materials: plain laws; the calls of Print by contract. -/
namespace Go.Proofs.YtblhndlmgibljaaDoor
open Go Go.Proofs Go.RowKit
set_option maxRecDepth 100000
namespace AE

theorem zBd : pureRun Tryd.prog (zeroValue tBd) = some (.agg ⟨[.pointer none, .slice none 0 0]⟩) := by kernel_rfl

/-- The digits of a number. -/
def itoaB (n : Int) : Bs := Go.Lib.itoa n
theorem dec2 : ∀ i, i < 100 → (Go.Lib.decDigits i).length ≤ 2 := by
  intro i hi
  rw [Go.Lib.decDigits]
  split
  · simp
  · rw [Go.Lib.decDigits, dif_pos (by omega)]
    simp
theorem itoaB_nat (i : Nat) : itoaB (i : Int) = Go.Lib.decDigits i := by unfold itoaB Go.Lib.itoa; rw [if_neg (by omega)]; simp
theorem itoaB_len {n : Int} (h0 : 0 ≤ n) (h1 : n < 100) : (itoaB n).length ≤ 2 := by
  obtain ⟨i, rfl⟩ := Int.eq_ofNat_of_zero_le h0
  rw [itoaB_nat]
  exact dec2 i (by omega)
theorem callItoa [Sig] {x r : Value} {n : Int} (hp : plainS x = true) (hr : plainS r = true) (ex : interp x = .int .i64 n) (er : interp r = strV (itoaB n)) (h : 0 ≤ n ∧ n < 100) : CallFactOk Tryd.prog (34, [x], r) := by
  refine ⟨by simp [plainSL, hp], hr, fun w _ => ?_⟩
  obtain ⟨i, rfl⟩ := Int.eq_ofNat_of_zero_le h.1
  show Calls _ _ ⟨[interp x]⟩ w _
  rw [ex]
  refine (strconv_Itoa_small i (by omega) w).mono fun e w' he => ?_
  obtain ⟨rfl, rfl⟩ := he
  exact ⟨by rw [er, itoaB_nat]; rfl, Low.refl _ _⟩

theorem con_string {B : Nat} {M : Mem} {v : Value} {bs : Bs} {w : World} (hO : OBld B M v bs) (hw : ∀ i o, M i = some o → w.heap[i]? = some o) (hB : B ≤ w.heap.size) :
    Calls Tryd.prog 36 #[v] w fun e w' => e = .returned (strV bs) ∧ Low B w w' := by
  obtain ⟨b, p, sl, rfl, h1, _⟩ := hO.bdAt hw
  have hA : Go.Lib.BuilderAt tBd tU8 B b p (Go.Lib.byteCells bs) w := ⟨h1.base, sl, h1.blk, by rw [byteCells_len]; exact h1.row, h1.apart⟩
  have hI : Go.Lib.IsBuilder tBd tU8 B b (Go.Lib.byteCells bs) w := by
    rcases h1.own with rfl | rfl
    · exact .inl hA
    · exact .inr hA
  refine (Builder_String_any B b bs w hI hB).mono fun e w' he => ?_
  exact ⟨he.1, he.2, Nat.le_refl _⟩

theorem callChkP [Sig] {x r : Value} {u : Value} {l : List Mt} (hp : plainSL [x] = true) (hr : plainS r = true) (ev : interpL [x] = [u]) (er : interp r = .tuple #[.int .i64 (chkM l).1, .int .i64 (chkM l).2]) (hl : Arr Sig.imm 8 encM u l) (hK : KindsM Sig.imm) : CallFactOk Tryd.prog (11, [x], r) :=
  callAny (a := #[u]) hp hr ev er fun w hw => ChkG.any w (hl.mono hw) (hK.mono hw)

/-- The word of a kind, as the reference has it. -/
def kindW (x : Mt) : Bs := if x.2.2.2.1 = true then [102, 97, 108, 108, 105, 110, 103] else if x.2.1 = true then [115, 111, 108, 105, 100] else if x.2.2.1 = true then [108, 105, 113, 117, 105, 100] else [103, 97, 115]
theorem kindW_eq {x : Mt} (h : ¬ (kindM x).1 = []) : kindW x = (kindM x).1 := by
  unfold kindM at h ⊢
  unfold kindW
  repeat' split
  all_goals first | rfl | (exfalso; simp_all; done) | simp_all
theorem kindM_len (x : Mt) : (kindM x).1.length ≤ 7 := by
  unfold kindM
  repeat' split
  all_goals simp

abbrev noEmit (x : Mt) : Prop := ((x.2.2.2.2.2.1, x.2.2.2.2.2.2.1, x.2.2.2.2.2.2.2) : E3) = (0, 0, 0)
/-- The line of a material, with its newline. -/
def rowT (x : Mt) : Bs := x.1 ++ [32] ++ (kindM x).1 ++ [32, 102, 97, 100, 101, 32] ++ itoaB x.2.2.2.2.1 ++ (if noEmit x then [] else [32, 101, 109, 105, 116] ++ ([32] ++ itoaB x.2.2.2.2.2.1) ++ ([32] ++ itoaB x.2.2.2.2.2.2.1) ++ ([32] ++ itoaB x.2.2.2.2.2.2.2)) ++ [10]
/-- The lines of the first materials. -/
def txtTo (l : List Mt) (i : Nat) : Bs := (l.take i).flatMap rowT
theorem txtTo_zero (l : List Mt) : txtTo l 0 = [] := rfl
theorem txtTo_succ {l : List Mt} {i : Nat} (hi : i < l.length) : txtTo l (i + 1) = txtTo l i ++ rowT (l.getD i default) := by
  unfold txtTo
  rw [List.take_add_one, List.getElem?_eq_getElem hi, List.getD_eq_getElem?_getD, List.getElem?_eq_getElem hi, List.flatMap_append]
  simp
/-- What Print answers. -/
def prtM (l : List Mt) : Bs × Int := if (chkM l).2 = 0 then (txtTo l l.length, 0) else ([], (chkM l).2)
theorem okV {l : List Mt} (h : (chkM l).2 = 0) {i : Nat} (hi : i < l.length) : validM (l.getD i default) := by
  have := (chkM_zero h).2.2.2 i hi
  by_cases hv : validM (l.getD i default)
  · exact hv
  · exact absurd (.inl hv) this
theorem rowLens {x : Mt} (h : validM x) : x.1.length ≤ 32 ∧ (kindM x).1.length ≤ 7 ∧ (itoaB x.2.2.2.2.1).length ≤ 2 ∧ (itoaB x.2.2.2.2.2.1).length ≤ 2 ∧ (itoaB x.2.2.2.2.2.2.1).length ≤ 2 ∧ (itoaB x.2.2.2.2.2.2.2).length ≤ 2 := by
  obtain ⟨h1, h2, h3, h4, h5, h6, h7, h8, h9, h10⟩ := h
  exact ⟨h1.1.2, kindM_len x, itoaB_len (by omega) (by omega), itoaB_len (by omega) (by omega), itoaB_len (by omega) (by omega), itoaB_len (by omega) (by omega)⟩
theorem rowT_len {x : Mt} (h : validM x) : (rowT x).length ≤ 100 := by
  have := rowLens h
  unfold rowT
  split <;> simp only [List.length_append, List.length_cons, List.length_nil] <;> omega
theorem txtTo_len {l : List Mt} (h : (chkM l).2 = 0) : ∀ {i : Nat}, i ≤ l.length → (txtTo l i).length ≤ 100 * i
  | 0, _ => by simp [txtTo]
  | i + 1, hi => by
    rw [txtTo_succ (by omega), List.length_append]
    have := txtTo_len h (i := i) (by omega)
    have := rowT_len (okV h (i := i) (by omega))
    omega
/-- The line of a material, as the reference has it. -/
def lineM (x : Mt) : Bs := if noEmit x then x.1 ++ [32] ++ kindW x ++ [32, 102, 97, 100, 101, 32] ++ itoaB x.2.2.2.2.1 else x.1 ++ [32] ++ kindW x ++ [32, 102, 97, 100, 101, 32] ++ itoaB x.2.2.2.2.1 ++ [32, 101, 109, 105, 116, 32] ++ itoaB x.2.2.2.2.2.1 ++ [32] ++ itoaB x.2.2.2.2.2.2.1 ++ [32] ++ itoaB x.2.2.2.2.2.2.2
theorem lineM_row {x : Mt} (h : validM x) : lineM x ++ [10] = rowT x := by
  unfold lineM rowT
  rw [kindW_eq h.2.1]
  split <;> simp
end AE
end Go.Proofs.YtblhndlmgibljaaDoor
