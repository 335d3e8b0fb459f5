/- Keys of states by the program: contracts. A map from states' keys to their places. -/
import Derived.Test.YtmplcohpinghbaaGreatDoorSt
import Derived.Test.YtmplcohpinghbaaGreatDoorSlat
import Derived.Test.YtmplcohpinghbaaGreatDoorAtM
import Derived.Test.YtmplcohpinghbaaGreatDoorAppK
namespace Go.Proofs.YtmplcohpinghbaaGreatDoor
open Go.RowKit Game
open Go.Maps (Keyed IsMap has)
open Go.Lib (join decDigits)

theorem infoStr : (Tryz.prog.info? 9).map (fun i => (i.zero, i.size, i.bytes)) = some (some (.string ⟨#[]⟩), 1, 16) := by kernel_rfl
def OwnStrs (w : World) (B g cap : Nat) (xs : List ByteArray) : Prop := OwnK w B 9 1 g cap xs.length (xs.map Value.string)
section
variable {w w' : World} {B g cap : Nat} {xs : List ByteArray}
theorem OwnStrs.empty (hB : B ≤ w.heap.size) : OwnStrs (w.alloc (.cells #[] 9)) B w.heap.size 0 [] := World.ownsRow_lit w #[] 0 hB (by decide) rfl
theorem OwnStrs.one (x : ByteArray) (hB : B ≤ w.heap.size) : OwnStrs (w.alloc (.cells #[.string x] 9)) B w.heap.size 1 [x] := World.ownsRow_lit w #[.string x] 1 hB (by decide) rfl
theorem OwnStrs.cell (h : OwnStrs w B g cap xs) : ∀ (j : Nat) x, xs[j]? = some x → w.cell? ⟨g, 0 + j, none⟩ = some (.string x) := by
  intro j x hx
  have hj : j < xs.length := (List.getElem?_eq_some_iff.1 hx).1
  rw [Nat.zero_add, OwnK.cell h j (by rw [List.length_map]; exact hj)]
  have : xs[j] = x := by rw [List.getElem?_eq_getElem hj] at hx; exact Option.some.inj hx
  simp [this]
theorem OwnStrs.capLe (h : OwnStrs w B g cap xs) : xs.length ≤ cap := by obtain ⟨cur, -, h2, -⟩ := OwnK.row h; exact h2
theorem wpList_append_str {ops : Array Oper} {rest : List Oper} {o : Oper} {a : Act} {Q : Exit → Act → World → Prop} (hgd : o.guard = none) (s x : Operand)
    (ho : o.op = .call { callee := .builtin .append, args := #[s, x], argTypes := #[65, 65] })
    (B g cap n H : Nat) (xs : List ByteArray) (z : ByteArray) (w W : World) (hn : xs.length = n) (hW : W = w.alloc (.cells #[.string z] 9)) (hH : w.heap.size = H) (hown : OwnStrs w B g cap xs)
    (hs : a.eval s = (Value.slice (some ⟨g, 0, none⟩) n cap)) (hx : a.eval x = (Value.slice (some ⟨H, 0, none⟩) 1 1)) (hlen : n + 1 ≤ 1048576)
    (h : ∀ g' cap' w', OwnStrs w' B g' cap' (xs ++ [z]) → w.grownBy w' (some g) → (g' = g ∨ w.heap.size < g') → wpList Tryz.prog ops Q rest (a.put o.dst (Value.slice (some ⟨g', 0, none⟩) (n + 1) cap')) w') :
    wpList Tryz.prog ops Q (o :: rest) a W := by
  subst hn; subst hW; subst hH
  have hnew := OwnStrs.one (w := w) (B := w.heap.size) z (Nat.le_refl _)
  refine wpList_append_K infoStr Tryz.underlying65 rfl (by decide) (by decide) hgd s x ho B g cap xs.length (xs.map Value.string) (OwnK.alloc hown _) w.heap.size 0 1 1 [.string z] rfl ?_ ?_ hs hx hlen ?_
  · intro j u hu
    have hj : j = 0 := by have := (List.getElem?_eq_some_iff.1 hu).1; simp at this; exact this
    subst hj
    have := hnew.cell 0 z rfl
    rw [this]
    simpa using hu
  · intro u hu
    simp at hu
    subst hu
    rfl
  · intro g' cap' w' h2 h3 h4
    refine h g' cap' w' ?_ ⟨h3.os, h3.tape, h3.output, Nat.le_trans (by simp) h3.size, fun k hk hne => (h3.block k (by simp; omega) hne).trans (Below.heap_alloc _ _ _ hk)⟩ (h4.imp id (by simp; omega))
    unfold OwnStrs
    rw [List.map_append, List.length_append]
    exact h2
end

theorem impl_FormatInt_small (i : Nat) (hi : i < 100) (w : World) : Calls Tryz.prog 53 #[.int .i64 i] w fun e w' => e = .returned (.string ⟨(decDigits i).toArray⟩) ∧ w = w' := by
  have hcall := Any.strconv_Itoa_small Tryz.lays171 i hi w
  change Calls Tryz.prog 62 _ _ _ at hcall
  have Hcall := Lib.hid hcall
  clear hcall
  generalize (⟨(decDigits i).toArray⟩ : ByteArray) = s at *
  go_enter Tryz.func53, Tryz.ntmps53
  go_wp2_with fail
  refine Hcall.out.mono ?_
  rintro e w1 ⟨rfl, rfl⟩
  go_wp2_with fail
  go_ret
  exact ⟨rfl, rfl⟩
def strsOf (l : List Int) : List ByteArray := l.map fun x => ⟨(decDigits x.toNat).toArray⟩
theorem strsOf_length (l : List Int) : (strsOf l).length = l.length := by simp [strsOf]
theorem strsOf_take {l : List Int} {k : Nat} (hk : k < l.length) : strsOf (l.take (k + 1)) = strsOf (l.take k) ++ [⟨(decDigits (l.getD k 0).toNat).toArray⟩] := by
  unfold strsOf
  rw [List.take_succ_eq_append_getElem hk, List.map_append]
  congr 1
  simp [List.getD, hk]
theorem strsOf_data (l : List Int) : (strsOf l).map (·.data.toList) = l.map fun x => decDigits x.toNat := by simp [strsOf]

set_option maxHeartbeats 1000000 in
theorem impl_joinInts_small (g o n cp : Nat) (l : List Int) (sep : ByteArray) (w : World) (hn : l.length = n) (hl : l.length ≤ 1000) (hok : OkS l) (hsep : (join (l.map fun x => decDigits x.toNat) sep.data.toList).length ≤ 140737488355328) (hg : g < w.heap.size) (hc : Cells w g o l) :
    Calls Tryz.prog 45 #[(Value.slice (some ⟨g, o, none⟩) n cp), .string sep] w (Gives w (.string ⟨(join (l.map fun x => decDigits x.toNat) sep.data.toList).toArray⟩)) := by
  subst hn
  have Hok := Lib.hid hok; have Hsep := Lib.hid hsep
  clear hok hsep
  generalize hS : (⟨(join (l.map fun x => decDigits x.toNat) sep.data.toList).toArray⟩ : ByteArray) = S
  have HS := Lib.hid hS
  clear hS
  go_enter Tryz.func45, Tryz.ntmps45
  go_wp2
  go_loopw [5, 11] (fun ov kv wr => ∃ (k g2 c2 : Nat), k ≤ l.length ∧ kv = .int .i64 k ∧ ov = (Value.slice (some ⟨g2, 0, none⟩) k c2) ∧ OwnStrs wr w.heap.size g2 c2 (strsOf (l.take k)) ∧ Below w.heap.size w wr) (fun _ kv _ => l.length - (intOf kv).toNat)
  case atStart => exact ⟨0, _, 0, Nat.zero_le _, rfl, rfl, OwnStrs.empty (Nat.le_refl _), (Below.refl _ _).alloc (Nat.le_refl _) _⟩
  case round =>
    obtain ⟨k, g2, c2, hk, rfl, rfl, ho, hb⟩ := hrel
    by_cases hlt : k < l.length
    · have q1 := (hb.cell (p := ⟨g, o + k, none⟩) hg).trans (hc k hlt)
      have hx := Hok.out (l.getD k 0) (by simp [List.getD, hlt])
      have hts := strsOf_take hlt
      obtain ⟨i, hi⟩ : ∃ i : Nat, l.getD k 0 = (i : Int) := ⟨_, (Int.toNat_of_nonneg hx.1).symm⟩
      rw [hi] at q1 hts hx
      rw [Int.toNat_natCast] at hts
      have hcall := impl_FormatInt_small i (by omega) wr
      have htl : (strsOf (l.take k)).length = k := by rw [strsOf_length, List.length_take]; omega
      generalize (⟨(decDigits i).toArray⟩ : ByteArray) = s at *
      have Hcall := Lib.hid hcall; have Hts := Lib.hid hts; have Htl := Lib.hid htl
      clear hcall hts htl hi hx
      go_wp2_with fail
      refine Hcall.out.mono ?_
      rintro e w1 ⟨rfl, rfl⟩
      go_wp2_with (at_builtin; refine wpList_append_str rfl _ _ rfl w.heap.size g2 c2 k wr.heap.size (strsOf (l.take k)) s wr _ Htl.out rfl rfl ho rfl rfl (by omega) ?_)
      intro g3 c3 w3 ho3 hg3 hor3
      have hb3 : Below w.heap.size w w3 := hb.grown hg3 hb.size (by intro t ht; cases ht; exact OwnK.base ho)
      rw [← Hts.out] at ho3
      clear ho hg3
      go_wp2_with fail
      go_roundw
      case rel => exact ⟨k + 1, g3, c3, by omega, by go_num, rfl, ho3, hb3⟩
      case measure => simp [intOf]; omega
    · obtain rfl : k = l.length := by omega
      rw [List.take_length] at ho
      have hj := Any.strings_Join Tryz.lays156 Tryz.Builder_Extra_156 g2 0 c2 (strsOf l) sep wr ho.cell (OwnK.lt ho) (by rw [strsOf_length]; omega) ho.capLe (by rw [strsOf_data]; exact Hsep.out)
      change Calls Tryz.prog 54 _ _ _ at hj
      rw [strsOf_data, strsOf_length, HS.out] at hj
      have Hj := Lib.hid hj
      clear hj ho
      go_wp2_with fail
      refine Hj.out.mono ?_
      rintro e w4 ⟨rfl, hb4⟩
      have hB := hb.trans (hb4.mono hb.size)
      go_wp2_with fail
      go_ret
      exact ⟨rfl, hB⟩
theorem commaB : (⟨#[44]⟩ : ByteArray).data.toList = [44] := rfl
set_option maxHeartbeats 1000000 in
theorem impl_stateKey_any (g o n cp : Nat) (l : List Int) (w : World) (hn : l.length = n) (hl : l.length ≤ 1000) (hok : OkS l) (hg : g < w.heap.size) (hc : Cells w g o l) :
    Calls Tryz.prog 36 #[(Value.slice (some ⟨g, o, none⟩) n cp)] w (Gives w (.string ⟨(keyS l).toArray⟩)) := by
  have hcall := impl_joinInts_small g o n cp l ⟨#[44]⟩ w hn hl hok (by have := keyS_len hok; unfold keyS at this; rw [commaB]; omega) hg hc
  rw [commaB] at hcall
  have hk : join (l.map fun x => decDigits x.toNat) [44] = keyS l := rfl
  rw [hk] at hcall
  have Hcall := Lib.hid hcall
  generalize (⟨(keyS l).toArray⟩ : ByteArray) = s at *
  clear hcall hk hc
  go_enter Tryz.func36, Tryz.ntmps36
  go_wp2_with fail
  refine Hcall.out.mono ?_
  rintro e w1 ⟨rfl, hb1⟩
  go_wp2_with fail
  go_ret
  exact ⟨rfl, hb1⟩
set_option maxHeartbeats 1000000 in
theorem impl_joinInts_nil (sep : ByteArray) (w : World) : Calls Tryz.prog 45 #[.slice none 0 0, .string sep] w (Gives w (.string ⟨#[]⟩)) := by
  go_enter Tryz.func45, Tryz.ntmps45
  go_wp2
  go_loopw [5, 11] (fun ov kv wr => kv = .int .i64 0 ∧ ov = (Value.slice (some ⟨w.heap.size, 0, none⟩) 0 0) ∧ Below w.heap.size w wr) (fun _ _ _ => 0)
  case atStart => exact ⟨rfl, rfl, (Below.refl _ _).alloc (Nat.le_refl _) _⟩
  case round =>
    obtain ⟨rfl, rfl, hb⟩ := hrel
    have hj := fun W => Any.strings_Join_none Tryz.lays156 Tryz.Builder_Extra_156 (some ⟨w.heap.size, 0, none⟩) 0 sep W
    have Hj : Hid (∀ W, Calls Tryz.prog 54 #[.slice (some ⟨w.heap.size, 0, none⟩) 0 0, .string sep] W fun e w' => e = .returned (.string ⟨#[]⟩) ∧ w' = W) := hj
    clear hj
    go_wp2_with fail
    refine (Hj.out wr).mono ?_
    rintro e w4 ⟨rfl, rfl⟩
    go_wp2_with fail
    go_ret
    exact ⟨rfl, hb⟩
set_option maxHeartbeats 1000000 in
theorem impl_stateKey_nil (w : World) : Calls Tryz.prog 36 #[.slice none 0 0] w (Gives w (.string ⟨#[]⟩)) := by
  have Hcall := Lib.hid (impl_joinInts_nil ⟨#[44]⟩ w)
  go_enter Tryz.func36, Tryz.ntmps36
  go_wp2_with fail
  refine Hcall.out.mono ?_
  rintro e w1 ⟨rfl, hb1⟩
  go_wp2_with fail
  go_ret
  exact ⟨rfl, hb1⟩

/-! ### a map from keys of states to places -/
theorem strLaw : WideMaps.KeyLaw Tryz.prog 9 := WideMaps.string_law Tryz.underlying9
theorem strKeyed : Keyed Tryz.prog 9 := Keyed.of_law strLaw
theorem keyOf_st {st : List Int} (h : (keyS st).length ≤ 1000) : keyOf Tryz.prog 9 (.string ⟨(keyS st).toArray⟩) = some (.string (keyS st)) := by
  have := WideMaps.keyOf_string_mk (P := Tryz.prog) (s := ⟨(keyS st).toArray⟩) Tryz.underlying9 (by simp [ByteArray.size]; unfold maxLen; omega)
  simpa using this
def AtS (w : World) (b n m : Nat) (L : List (List Int)) : Prop :=
  ∃ D : DataW Unit, w.ownsMap Tryz.prog 9 (plainElem Tryz.prog 3) b n D ∧ IsMap D ∧ ∀ v : List Int, FineS m v → has D (.string (keyS v)) = decide (v ∈ L) ∧ (v ∈ L → D.atKey (.string (keyS v)) (.lit (.int .i64 0)) = .lit (.int .i64 (idxL L v)))
section
variable {w w' : World} {b n m : Nat} {L : List (List Int)}
theorem AtS.start (w : World) (m : Nat) : AtS (w.alloc (.map #[] 0)) w.heap.size 0 m [] :=
  ⟨.map [], World.ownsMap_made _ _ _ _, ⟨[], rfl⟩, fun v _ => ⟨by simp [has], fun h => by simp at h⟩⟩
theorem AtS.lt (h : AtS w b n m L) : b < w.heap.size := by obtain ⟨D, h, -⟩ := h; exact h.lt
theorem AtS.same (h : AtS w b n m L) (hs : w'.heap[b]? = w.heap[b]?) : AtS w' b n m L := by
  obtain ⟨D, ⟨es, clock, hh, r⟩, h2⟩ := h
  exact ⟨D, ⟨es, clock, hs.trans hh, r⟩, h2⟩
theorem AtS.below {B : Nat} (h : AtS w b n m L) (hb : Below B w w') (hB : b < B) : AtS w' b n m L := h.same (hb.block b hB)
theorem AtS.still (h : AtS w b n m L) (hs : ∃ k, w' = w.drewN k) : AtS w' b n m L := by obtain ⟨k, rfl⟩ := hs; exact h
theorem AtS.block (h : AtS w b n m L) : ∃ es clock, w.heap[b]? = some (.map es clock) := by
  obtain ⟨D, ⟨es, clock, hh, r⟩, h2⟩ := h
  exact ⟨es, clock, hh⟩
theorem AtS.neOwn {g cap B : Nat} {xs : List Int} (h : AtS w b n m L) (ho : Own w B g cap xs) : b ≠ g := by
  rintro rfl
  obtain ⟨es, clock, hh⟩ := h.block
  obtain ⟨cur, h2, -⟩ := ho.toV.row
  rw [hh] at h2
  simp at h2
theorem AtS.neRows {g cap B : Nat} {rs : List RowRef} (h : AtS w b n m L) (ho : OwnRows w B g cap rs) : b ≠ g := by
  rintro rfl
  obtain ⟨es, clock, hh⟩ := h.block
  obtain ⟨cur, h2, -⟩ := ho.1.row
  rw [hh] at h2
  simp at h2
theorem AtS.rows {g cap B : Nat} {rs : List RowRef} (h : AtS w b n m L) (ho : OwnRows w B g cap rs) (hg : w.grownBy w' (some b)) : OwnRows w' B g cap rs :=
  ⟨ho.1.grown hg (fun e => h.neRows ho (Option.some.inj e).symm), fun r hr => (ho.2.1 r hr).grown hg (fun e => h.neOwn (ho.2.1 r hr) (Option.some.inj e).symm), ho.2.2⟩
theorem ats_put {D : DataW Unit} {v : List Int} (hm : m ≤ 40) (hv : FineS m v) (hL : v ∉ L) (hLn : L.length = n) (hmap : IsMap D) (hat : ∀ v : List Int, FineS m v → has D (.string (keyS v)) = decide (v ∈ L) ∧ (v ∈ L → D.atKey (.string (keyS v)) (.lit (.int .i64 0)) = .lit (.int .i64 (idxL L v)))) :
    ∀ u : List Int, FineS m u → has (D.put (.string (keyS v)) (.lit (.int .i64 (n : Int)))) (.string (keyS u)) = decide (u ∈ L ++ [v]) ∧ (u ∈ L ++ [v] → (D.put (.string (keyS v)) (.lit (.int .i64 (n : Int)))).atKey (.string (keyS u)) (.lit (.int .i64 0)) = .lit (.int .i64 (idxL (L ++ [v]) u))) := by
  intro u hu
  have hkv : WideAt.IsKeyLit (.string (keyS v)) := strKeyed.key (keyOf_st (st := v) (by have := keyS_len (hv.ok (by omega)); have := hv.len; omega))
  by_cases e : u = v
  · subst e
    rw [Maps.has_put_same hmap hkv, Maps.atKey_put_same hmap hkv]
    refine ⟨by simp, fun _ => ?_⟩
    unfold idxL
    rw [idxFrom_snoc_out hL, hLn, Nat.zero_add]
  · have hne : Lit.string (keyS u) ≠ .string (keyS v) := fun h => e (keyS_inj (hu.ok (by omega)) (hv.ok (by omega)) (by injection h))
    rw [Maps.has_put_other hne, Maps.atKey_put_other hne]
    obtain ⟨q1, q2⟩ := hat u hu
    refine ⟨by rw [q1]; simp [e], fun h => ?_⟩
    have h' : u ∈ L := by
      rcases List.mem_append.1 h with g | g
      · exact g
      · rw [List.mem_singleton] at g; exact absurd g e
    rw [q2 h']
    unfold idxL
    rw [idxFrom_snoc_in h']
theorem natWf {n : Nat} (hn : n < 1048576) : (Lit.int .i64 (n : Int)).wf = true := by
  simp [Lit.wf, IntKind.min, IntKind.max, IntKind.signed, IntKind.bits]; omega
/-- 'at[key] = k' -/
theorem wpList_ats_put {ops : Array Oper} {rest : List Oper} {o : Oper} {a : Act} {Q : Exit → Act → World → Prop}
    (hg : o.guard = none) (x y z : Operand) (hop : o.op = Op.mapUpdate 52 x y z) (b n m : Nat) (L : List (List Int)) (v : List Int) (hm : m ≤ 40) (hv : FineS m v) (hL : v ∉ L) (hLn : L.length = n)
    (hown : AtS w b n m L) (hn : n < 1048576) (hx : a.eval x = .map (some b)) (hy : a.eval y = .string ⟨(keyS v).toArray⟩) (hz : a.eval z = .int .i64 (n : Int))
    (hK : ∀ w', AtS w' b (n + 1) m (L ++ [v]) → w.grownBy w' (some b) → wpList Tryz.prog ops Q rest (a.put o.dst undef) w') :
    wpList Tryz.prog ops Q (o :: rest) a w := by
  obtain ⟨D, hD, hmap, hat⟩ := hown
  have hk := keyOf_st (st := v) (by have := keyS_len (hv.ok (by omega)); have := hv.len; omega)
  refine wpList_mapUpdate_own w hg x y z _ hop _ _ strKeyed Tryz.underlying52 _ b n D hx hD (by unfold maxLen; omega) _ _ (.string (keyS v)) hy hz hk _ [] (plainElem_int (H := Unit) Tryz.underlying3 (natWf hn)) ?_
  intro w' hown' hgr
  refine hK w' ⟨_, hown', ?_, ats_put hm hv hL hLn hmap hat⟩ hgr
  obtain ⟨es, rfl⟩ := hmap
  exact ⟨_, rfl⟩
/-- '_, is := at[key]' -/
theorem wpList_ats_look {ops : Array Oper} {rest : List Oper} {o : Oper} {a : Act} {Q : Exit → Act → World → Prop}
    (hg : o.guard = none) (x y : Operand) (hop : o.op = Op.lookup 52 x y true) (b n m : Nat) (L : List (List Int)) (v : List Int) (hm : m ≤ 40) (hv : FineS m v)
    (hown : AtS w b n m L) (hx : a.eval x = .map (some b)) (hy : a.eval y = .string ⟨(keyS v).toArray⟩) (r : Bool) (hr : decide (v ∈ L) = r)
    (hK : ∀ z : Int, wpList Tryz.prog ops Q rest (a.put o.dst (.tuple #[.int .i64 z, .bool r])) w) :
    wpList Tryz.prog ops Q (o :: rest) a w := by
  obtain ⟨D, hD, -, hat⟩ := hown
  obtain ⟨q1, q2⟩ := hat v hv
  have hk := keyOf_st (st := v) (by have := keyS_len (hv.ok (by omega)); have := hv.len; omega)
  refine wpList_lookup_own_ok_int w hg x y _ hop _ _ .i64 strKeyed Tryz.underlying52 Tryz.underlying3 (intZero w) b n D hx hD _ _ hy hk ?_
  intro z hz _
  rw [q1, hr]
  exact hK z
/-- 'at[key]' -/
theorem wpList_ats_get {ops : Array Oper} {rest : List Oper} {o : Oper} {a : Act} {Q : Exit → Act → World → Prop}
    (hg : o.guard = none) (x y : Operand) (hop : o.op = Op.lookup 52 x y false) (b n m : Nat) (L : List (List Int)) (v : List Int) (hm : m ≤ 40) (hv : FineS m v) (hL : v ∈ L)
    (hown : AtS w b n m L) (hx : a.eval x = .map (some b)) (hy : a.eval y = .string ⟨(keyS v).toArray⟩)
    (hK : wpList Tryz.prog ops Q rest (a.put o.dst (.int .i64 (idxL L v))) w) :
    wpList Tryz.prog ops Q (o :: rest) a w := by
  obtain ⟨D, hD, -, hat⟩ := hown
  obtain ⟨q1, q2⟩ := hat v hv
  have hk := keyOf_st (st := v) (by have := keyS_len (hv.ok (by omega)); have := hv.len; omega)
  refine wpList_lookup_own_int w hg x y _ hop _ _ .i64 strKeyed Tryz.underlying52 Tryz.underlying3 (intZero w) b n D hx hD _ _ hy hk ?_
  intro z hz _
  have h3 := q2 hL
  rw [hz] at h3
  have e : z = idxL L v := by simpa using h3
  rw [e]
  exact hK
end
end Go.Proofs.YtmplcohpinghbaaGreatDoor
