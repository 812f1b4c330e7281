/- Texts: the library's functions as contracts, slices of texts, bytes of a text. For any seat. -/
import Derived.Test.YtolamibbionobaaGreatDoorQsMwF0
import Derived.Test.YtolamibbionobaaGreatDoorQsMwMem
import Derived.Test.YtolamibbionobaaGreatDoorQsMwSet
import Derived.Test.YtolamibbionobaaGreatDoorQsTxA

namespace Go.Proofs.YtolamibbionobaaGreatDoor
open Go.RowKit
open Go.Proofs.Tryz renaming prog → ZP
set_option linter.unusedSimpArgs false
theorem w64_succ {k n : Nat} (h : k < n) (hn : n ≤ maxLen) : IntKind.i64.wrap ((k : Int) + 1) = ((k + 1 : Nat) : Int) := by
  unfold maxLen at hn
  rw [w64 (by omega) (by omega)]; omega
def strs (l : List By) : List Value := l.map fun s => .string (bw s)
def SlS (w : World) (v : Value) (xs : List By) : Prop := Sl w v (strs xs)
theorem strs_length (xs : List By) : (strs xs).length = xs.length := by simp [strs]
theorem strs_get {xs : List By} {k : Nat} (h : k < xs.length) : (strs xs)[k]? = some (.string (bw xs[k])) := by simp [strs, h]
theorem SlS.ext {w w' : World} {v : Value} {xs : List By} (h : SlS w v xs) (he : Ext w w') : SlS w' v xs := Sl.ext h he
theorem SlS.shape {w : World} {v : Value} {xs : List By} (h : SlS w v xs) : ∃ p cap, v = .slice p xs.length cap ∧ xs.length ≤ cap ∧ cap ≤ maxLen := by
  obtain ⟨p, cap, h1, h2, h3⟩ := Sl.shape h
  rw [strs_length] at h1 h2
  exact ⟨p, cap, h1, h2, h3⟩
theorem SlS.get {w : World} {p : Option Addr} {n cap k : Nat} {xs : List By} (h : SlS w (.slice p n cap) xs) (hk : k < xs.length) : ∃ b o, p = some ⟨b, o, none⟩ ∧ w.cell? ⟨b, o + k, none⟩ = some (.string (bw xs[k])) := by
  obtain ⟨b, o, cap', h1, _, _, h4⟩ := Sl.at h (by intro h0; rw [← strs_length, h0] at hk; simp at hk)
  cases h1
  exact ⟨b, o, rfl, h4 k _ (strs_get hk)⟩
theorem bw_eq {a b : By} : bw a = bw b ↔ a = b := ⟨fun h => by cases h; rfl, fun h => by rw [h]⟩
theorem bw_size (a : By) : (bw a).size = a.length := rfl
theorem bw_get {s : By} {k : Nat} (h : k < s.length) : (bw s)[k]? = some s[k] := by
  show (bw s).data[k]? = _
  simp [bw, h]
theorem Itoa_c {n : Int} {w : World} (h : inI n) (hE : EnvS w) : Rets ZP 28 #[.int .i64 n] w fun r w' => r = .string (bw (Lib.itoa n)) ∧ Ext w w' := by
  unfold Rets
  refine (Itoa_a h hE).mono fun e w' ⟨he, hx⟩ => ⟨_, he, ?_, hx⟩
  rw [itoaF_eq h]
theorem bw_ext (s : By) (a b : Nat) : (bw s).extract a b = bw ((s.drop a).take (b - a)) := by
  apply ByteArray.ext
  rw [ByteArray.data_extract]
  apply Array.ext'
  simp [bw, List.take_drop]
theorem bs_str (x : ByteArray) : buildS ZP 62 1 [(0, .string x)] = some (9, #[.string x]) := by kernel_rfl
theorem strs_app (a b : List By) : strs (a ++ b) = strs a ++ strs b := List.map_append
theorem append_st {w : World} {base : Nat} {v : Value} {xs : List By} (hown : w.ownsRow base 9 1 v xs.length (strs xs)) (x : By) (hn : xs.length ≤ 1000000) (hb : base ≤ w.heap.size) :
    ∃ v' w', (Builtin.append_ #[62, 62] 62 #[v, .slice (some ⟨w.heap.size, 0, none⟩) 1 1]).run ZP (w.alloc (.cells #[.string (bw x)] 9)) = .ok v' w' ∧ w'.ownsRow base 9 1 v' (xs ++ [x]).length (strs (xs ++ [x])) ∧ ∀ {w0 : World}, Ext w0 w → w0.heap.size ≤ base → Ext w0 w' := by
  obtain ⟨v', w', ha, hown', hg⟩ := append_own (P := ZP) (w := w.alloc (.cells #[.string (bw x)] 9)) (t := 62) (ty := 62) (z := .string ⟨#[]⟩) (ats := [62, 62]) rfl telem_62 tok_9 tzero_9 (by rw [tsz_9]; rfl) (by rw [tsz_9]; omega)
    (by rw [tsz_9]; exact Own.ext hown (Ext.alloc _ _)) (a := ⟨w.heap.size, 0, none⟩) (m := 1) (c := 1) (news := [.string (bw x)]) (by rw [tsz_9]; rfl)
    (fun j u hj => by rw [Addr.add_lit, World.cell?_alloc_new]; simpa using hj) (fun u hu => by simp at hu; rw [hu]; rfl) (by unfold maxLen; omega) (by rw [tby_9]; omega) (by simp; omega)
  refine ⟨v', w', ha, ?_, fun h0 hb0 => (h0.trans (Ext.alloc _ _)).grown hg (fun k hk => Nat.le_trans hb0 (World.ownsRow.lt hown k hk).1)⟩
  rw [tsz_9] at hown'
  rw [strs_app, List.length_append]
  exact hown'
theorem Rets.of {P : Program} {f : FuncId} {args : Array Value} {w : World} {Q : Value → World → Prop} {R : Ending → World → Prop} (h : Calls P f args w R) (hk : ∀ e w', R e w' → ∃ v, e = .returned v ∧ Q v w') : Rets P f args w Q := by
  unfold Rets; exact Calls.mono h hk
theorem Atoi_c {s : By} {w : World} (hs : s.length ≤ 1000000000) (hE : EnvS w) : Rets ZP 26 #[.string (bw s)] w fun r w' =>
    (match Lib.atoiAll s with | .ok n => r = .tuple #[.int .i64 n, .nilIface] | _ => ∃ n t p, r = .tuple #[.int .i64 n, .iface t p]) ∧ Ext w w' := by
  have hs' : (bw s).size ≤ 1000000000 := hs
  cases h : Lib.atoiAll s
  · rename_i n
    refine Rets.of (Any.strconv_Atoi_ok Tryz.laysC172 (bw s) (by omega) n h w) fun e w' ⟨he, hw⟩ => ⟨_, he, rfl, ?_⟩
    rcases hw with rfl | ⟨t, rfl⟩
    · exact Ext.refl _
    · exact Lib.bytesWorld_below _ _ _
  · obtain ⟨tp, p, hv⟩ := hE.syn
    exact Rets.of (Any.strconv_Atoi_syntax_var Tryz.laysC172 (bw s) (by omega) h tp p w hv) fun e w' ⟨N, he, _, _, hw⟩ => ⟨_, he, ⟨_, _, _, rfl⟩, hw⟩
  · obtain ⟨tp, p, hv⟩ := hE.rng
    exact Rets.of (Any.strconv_Atoi_range_var Tryz.laysC172 (bw s) (by omega) h tp p w hv) fun e w' ⟨N, he, _, _, hw⟩ => ⟨_, he, ⟨_, _, _, rfl⟩, hw⟩
theorem Cut_c (s sep : By) (w : World) (hs : s.length ≤ 1000000000) (hE : EnvS w) : Rets ZP 25 #[.string (bw s), .string (bw sep)] w fun r w' => r = .tuple #[.string (bw (cutF s sep).1), .string (bw (cutF s sep).2.1), .bool (cutF s sep).2.2] ∧ Ext w w' :=
  Rets.of (Cut_a (s := bw s) (sep := bw sep) hs hE) fun e w' ⟨he, hx⟩ => ⟨_, he, rfl, hx⟩
def byts (l : List UInt8) : List Value := l.map fun b => .int .u8 b.toNat
theorem byts_length (l : List UInt8) : (byts l).length = l.length := by simp [byts]
theorem byts_get {l : List UInt8} {k : Nat} (h : k < l.length) : (byts l)[k]? = some (.int .u8 l[k].toNat) := by simp [byts, h]
theorem convB_run {P : Program} {t t' : TypeId} {x : Operand} {v v' : Value} {w w' : World} {d : Option Tmp} {ty : TypeId} {g} {e : Env} {ds : List Deferred} {K : Value → Prop} {KV : Value → List Deferred → World → Prop} {X : List PanicEntry → List Deferred → World → Prop} {tk : Tk1 K}
    (hn : convV P t t' v = none) (hx : ev e x = v) (h : (convert t t' v).run P w = .ok v' w') (hk : KV v' ds w') : convB P t t' v K (opR P ds KV X ((mexec (ev e) ⟨d, .convert t t' x, ty, g⟩).run P w)) tk := by
  unfold convB convK
  rw [hn]
  simp only [mexec,execOp,Sem.run_bind,hx,h,Result.andThen_ok,Sem.run_pure,opR]
  exact hk
theorem bytes_new (w : World) (s : ByteArray) (hs : s.size ≤ 140737488355328) : convV ZP 9 179 (.string s) = none ∧ ∃ b cap w', (convert 9 179 (.string s)).run ZP w = .ok (.slice (some ⟨b, 0, none⟩) s.size cap) w' ∧ Ext w w' ∧ Sl w' (.slice (some ⟨b, 0, none⟩) s.size cap) (byts s.data.toList) := by
  refine ⟨by kernel_rfl, ?_⟩
  have hrun := run_bytes_of_string (P := ZP) w 9 179 5 s Tryz.underlying9 Tryz.underlying179 Tryz.underlying5
  have hcap1 : s.size ≤ grownCap w s.size 0 5 := grownCap_ge w s.size 0 5
  have hcapm : grownCap w s.size 0 5 ≤ maxLen := grownCap_le_maxLen w s.size 0 5 (by simp only [maxLen]; omega)
  refine ⟨_, _, _, hrun, (Ext.drew w).trans (Ext.alloc _ _), ?_⟩
  unfold Sl
  refine Or.inr ⟨_, 0, _, by rw [byts_length]; rfl, by rw [byts_length]; exact hcap1, hcapm, fun k u hu => ?_⟩
  have hl := (List.getElem?_eq_some_iff.1 hu).1
  rw [byts_length] at hl
  rw [byts_get hl] at hu
  cases hu
  rw [Nat.zero_add]
  refine (World.cell?_alloc_mark _ _ _ _ _).trans ?_
  rw [bytesRow_at s _ k (by simpa using hl)]
  simp
theorem cv_u8 {a : Int} {K : Value → Prop} {alt : Prop} {tk : Tk1 K} : convB ZP 5 3 (.int .u8 a) K alt tk = K (.int .i64 (IntKind.i64.wrap a)) := convB_int 5 tok_5 tkind_3
end Go.Proofs.YtolamibbionobaaGreatDoor
