/-
  Bld Fput
-/
import Derived.Test.YtmhkalalcmkpbaaZBT
import Derived.Test.YtmhkalalcmkpbaaZBT2
import Derived.Test.YtmhkalalcmkpbaaZC3
import Derived.Test.YtmhkalalcmkpbaaZFr
namespace Go.Proofs.Ytmhkalalcmkpbaa
open Go Go.RowKit Go.Shelf
set_option linter.unusedVariables false
set_option linter.unusedSimpArgs false

set_option maxHeartbeats 1000000 in
set_option maxRecDepth 100000 in
theorem copy_used (b : Nat) (w : World) (h0 : w.cell? ⟨b, 0, none⟩ = some (.pointer (some ⟨b, 0, none⟩))) :
    Calls Try.prog 140 #[.pointer (some ⟨b, 0, none⟩)] w fun e w' => e = .returned (.tuple #[]) ∧ w' = w := by
  have hj : (Try.prog.info? 157).map (·.size) = some 2 := by kernel_rfl
  obtain ⟨j, hj, _⟩ := Option.map_eq_some_iff.1 hj
  go_enter Try.func140, Try.ntmps140
  go_wp2
  rw [Lib.run_neq_ptr_same w _ Try.underlying154 hj]
  go_wp2
  go_end0
  exact ⟨rfl, rfl⟩
set_option maxHeartbeats 1000000 in
set_option maxRecDepth 100000 in
theorem copy_fresh (b : Nat) (w : World) (h0 : w.cell? ⟨b, 0, none⟩ = some (.pointer none)) (hsh : w.shape? b = some (157, 2)) (hfz : w.frozen? ⟨b, 0, none⟩ = false) :
    Calls Try.prog 140 #[.pointer (some ⟨b, 0, none⟩)] w fun e w' => e = .returned (.tuple #[]) ∧ w' = w.setCell ⟨b, 0, none⟩ (.pointer (some ⟨b, 0, none⟩)) := by
  have hj : (Try.prog.info? 157).map (·.size) = some 2 := by kernel_rfl
  obtain ⟨j, hj, hjs⟩ := Option.map_eq_some_iff.1 hj
  go_enter Try.func140, Try.ntmps140
  go_wp2
  rw [Lib.run_to_unsafe w ⟨b, 0, none⟩ Try.underlying154 Try.underlying210 hj (by rw [hjs]; decide) hsh (Nat.zero_lt_succ 1)]
  simp only [Result.andThen]
  rw [Oper.upon_value]
  go_wp2
  rw [run_callFunc_extern Try.func157 (by kernel_rfl) (by kernel_rfl) (by kernel_rfl) (e := Extern.AbiNoEscape.same) (by kernel_rfl)]
  rw [Lib.run_noEscape]
  simp only [Result.andThen]
  rw [Oper.upon_value]
  go_wp2
  rw [Lib.run_from_unsafe w ⟨b, 0, none⟩ Try.underlying210 Try.underlying154 hj hsh (by kernel_rfl)]
  simp only [Result.andThen]
  rw [Oper.upon_value]
  go_wp2
  go_end0
  exact ⟨rfl, rfl⟩

def selfP (b : Nat) : Value := .pointer (some ⟨b, 0, none⟩)
def isBP (b : Nat) (p : Value) : Prop := p = .pointer none ∨ p = selfP b
/-- What a builder is made of. -/
def bldC (b : Nat) (p v : Value) : HObj := .cells b 157 [.x p, .x v]
def bldR (v : Value) (s : ByteArray) : HObj := .row v 5 1 s.size (strA s)

theorem copy_m (K : Prop) (b : Nat) (p v : Value) (hp : isBP b p) : MFn Try.prog K 140 [.x (selfP b)] [bldC b p v] (fun av h' => av = .tup [] ∧ h' = [bldC b (selfP b) v]) := by
  refine ⟨enter_of Try.func140 (by kernel_rfl) rfl, fun O w args env hl hr => ?_⟩
  have hargs : args = #[selfP b] := by
    apply Array.ext'
    have := (AV.repC_vals_ (O := owned O [bldC b p v]) (w := w) [.x (selfP b)] rfl args.toList (by simpa using hl)).1 (by
      have e : (fun j => args.toList[j]?) = (fun j => args[j]?) := funext fun j => Array.getElem?_toList
      rw [e]; exact hr)
    rw [this]; rfl
  subst hargs
  obtain ⟨us, h1, h2, h3⟩ := env.objs (bldC b p v) (by simp)
  have hus : us = #[p, v] := by
    apply Array.ext'
    have := (AV.repC_vals_ (O := owned O [bldC b p v]) (w := w) [.x p, .x v] rfl us.toList (by simpa using h2)).1 (by
      have e : (fun j => us.toList[j]?) = (fun j => us[j]?) := funext fun j => Array.getElem?_toList
      rw [e]; exact h3)
    rw [this]; rfl
  subst hus
  rcases hp with rfl | rfl
  · refine (copy_fresh b w (by rw [Lib.cell_of_heap h1]; rfl) (by simp [World.shape?, h1]) (by simp [World.frozen?, h1])).mono ?_
    rintro e w' ⟨rfl, rfl⟩
    have hg : w.grownBy (w.setCell ⟨b, 0, none⟩ (.pointer (some ⟨b, 0, none⟩))) (some b) := ⟨rfl, rfl, rfl, by simp [World.setCell], fun k _ hk => Below.heap_setCell _ _ _ _ (fun e => hk (by simp [e]))⟩
    have env2 := Env.set_ (q := bldC b (selfP b) v) env (i := 0) rfl hg (fun _ => Nat.le_refl _) ⟨#[selfP b, v], by simp [World.setCell, Array.getElem?_modify, h1, selfP], rfl, by simp [RepC, Rep]⟩ (fun c hc => .inl hc) (fun c hc => by
      obtain rfl : b = c := by simpa [bldC, HObj.blk] using hc
      have := env.lt _ (List.mem_singleton_self _) b rfl
      simpa [World.setCell] using this)
    exact ⟨_, _, _, rfl, ⟨rfl, rfl⟩, env2, by simp only [Rep]; exact ⟨_, rfl, rfl, by simp [RepC]⟩⟩
  · refine (copy_used b w (by rw [Lib.cell_of_heap h1]; rfl)).mono ?_
    rintro e w' ⟨rfl, rfl⟩
    exact ⟨_, _, _, rfl, ⟨rfl, rfl⟩, env, by simp only [Rep]; exact ⟨_, rfl, rfl, by simp [RepC]⟩⟩

def WsR (b : Nat) (s : ByteArray) (r : AV) (av : AV) (h' : List HObj) : Prop := av = r ∧ ∃ v', h' = [bldC b (selfP b) v', bldR v' s]
theorem WsR.two {b : Nat} {s : ByteArray} {r av : AV} {h' : List HObj} (h : WsR b s r av h') : ∃ p q, h' = [p, q] := by
  obtain ⟨_, v', rfl⟩ := h; exact ⟨_, _, rfl⟩

theorem u8i : u8Info Try.prog 5 := by
  show Option.map _ _ = _
  kernel_rfl

set_option maxRecDepth 100000 in
theorem ws_m (K : Prop) (b : Nat) (p v : Value) (hp : isBP b p) (s t : ByteArray) (hs : s.size + t.size ≤ 140737488355328) : MFn Try.prog K 109 [.x (selfP b), .x (.string t)] [bldC b p v, bldR v s] (WsR b (s ++ t) (.tup [.x (.int .i64 t.size), .x .nilIface])) := by
  refine mfn Try.func109 rfl (by kernel_rfl) 19 rfl _ rfl (Nat.le_of_ble_eq_true rfl) (fun X w0 => ?_)
  refine wSeq ?_
  refine wReg ?_
  refine sP rfl rfl rfl (pA rfl rfl) ?_
  refine sP rfl rfl rfl (pA rfl rfl) ?_
  refine lNil ?_
  refine wSeq ?_
  refine wReg ?_
  refine sP rfl rfl rfl (pM rfl rfl) ?_
  refine sM1 0 rfl rfl rfl (copy_m K b p v hp) ⟨Sub.refl, trivial⟩ (fun av h' hr => ⟨_, hr.2⟩) (fun av q hr => ?_)
  obtain ⟨rfl, hq⟩ := hr
  obtain rfl : q = bldC b (selfP b) v := by simpa using hq
  refine lNil ?_
  refine wSeq ?_
  refine wReg ?_
  refine sP rfl rfl rfl (pM rfl rfl) ?_
  refine sP rfl rfl rfl (pM rfl rfl) ?_
  refine sP rfl rfl rfl (p_nilCheck rfl rfl) ?_
  refine sP rfl rfl rfl (p_fieldAddr_own rfl rfl fl157_1 ty155 (by decide)) ?_
  refine sP rfl rfl rfl (pLdO1 0 rfl rfl rfl ty155 rfl) ?_
  refine sP rfl rfl rfl (pM rfl rfl) ?_
  refine sAppendStr 1 rfl rfl rfl rfl Try.underlying155 Try.underlying9 u8i rfl rfl rfl hs (fun v14 o14 => ?_)
  refine sP rfl rfl rfl (p_nilCheck rfl rfl) ?_
  refine sP rfl rfl rfl (p_fieldAddr_own rfl rfl fl157_1 ty155 (by decide)) ?_
  refine sStore1 0 rfl rfl rfl rfl rfl ty155 rfl o14 (Nat.le_of_ble_eq_true rfl) ?_
  refine lNil ?_
  refine wSeq ?_
  refine wReg ?_
  refine sP rfl rfl rfl (pM rfl rfl) ?_
  refine sP rfl rfl rfl (p_len_str rfl rfl Try.underlying9) ?_
  refine sP rfl rfl rfl (pA rfl rfl) ?_
  refine sP rfl rfl rfl (pA rfl rfl) ?_
  refine lNil ?_
  refine wRet ?_
  refine ⟨_, [bldC b (selfP b) v14, .row v14 5 1 (s.size + t.size) (strA s ++ strA t)], [], rfl, ⟨rfl, v14, ?_⟩, rgm_tmp2 (r := []) rfl Sub.refl Sub.refl⟩
  rw [bldR, strA_app, ByteArray.size_append]

def bldLay : Go.Shelf.Ren := ⟨fun | 169 => 110 | n => n, fun | 70 => 154 | 9 => 9 | 0 => 0 | 72 => 157 | 37 => 155 | 127 => 188 | 3 => 3 | 5 => 5 | n => n, fun | n => n⟩

theorem bldLays : Go.Proofs.Lays.n169 Try.prog bldLay := {
  mixed := by kernel_rfl
  f169 := Try.func110.trans (congrArg some (by kernel_rfl))
  t0 := Try.underlying0
  a0 := Try.isAgg0
  z0 := Try.sizeOf0
  v0 := Try.zeroValue0
  t3 := Try.underlying3
  a3 := Try.isAgg3
  z3 := Try.sizeOf3
  v3 := Try.zeroValue3
  t9 := Try.underlying9
  a9 := Try.isAgg9
  z9 := Try.sizeOf9
  v9 := Try.zeroValue9
  t37 := Try.underlying155
  a37 := Try.isAgg155
  z37 := Try.sizeOf155
  v37 := Try.zeroValue155
  t70 := Try.underlying154
  a70 := Try.isAgg154
  z70 := Try.sizeOf154
  v70 := Try.zeroValue154
  t72 := Try.underlying157
  a72 := Try.isAgg157
  z72 := Try.sizeOf157
  v72 := Try.zeroValue157
  t127 := Try.underlying188
  a127 := Try.isAgg188
  z127 := Try.sizeOf188
  v127 := Try.zeroValue188 }
theorem bldExtra : Builder.Extra Try.prog bldLay := {
  sizeBuilder := by kernel_rfl
  liesBuilder := by kernel_rfl
  t5 := Try.underlying5
  a5 := Try.isAgg5
  z5 := Try.sizeOf5
  v5 := Try.zeroValue5
  infoByte := by kernel_rfl
  cellsByte := by kernel_rfl
  sizeByte := by kernel_rfl
  neB5 := by decide }
theorem bstr_c (B b : Nat) (l : List UInt8) (w : World) (h : Lib.IsBuilder 157 5 B b (Lib.byteCells l) w) (hBw : B ≤ w.heap.size) :
    Calls Try.prog 110 #[.pointer (some ⟨b, 0, none⟩)] w fun e w' => e = .returned (.string ⟨l.toArray⟩) ∧ Below B w w' := Any.Builder_String_any bldLays bldExtra B b l w h hBw
theorem bstr_enter (args : Array Value) (w : World) : (callFunc 110 args).run Try.prog w = .ok (.enter 110 args) w := enter_of Try.func110 (by kernel_rfl) rfl args w
end Go.Proofs.Ytmhkalalcmkpbaa

namespace Go.Proofs.Ytmhkalalcmkpbaa
open Go Go.RowKit
set_option linter.unusedVariables false
set_option linter.unusedSimpArgs false

theorem avS {a b : ByteArray} (h : a = b) : AV.x (.string a) = AV.x (.string b) := by rw [h]
theorem num_p (n : Int) : PFn Try.prog False 63 [iA n] (.tup [sA (numS n), iA (numE n)]) := pfn_ex rfl rfl (enter_of Try.func63 (by kernel_rfl) rfl) fun w => (num_c n w).mono fun e w' ⟨h1, h2⟩ => ⟨h1, bl_weak h2⟩
theorem rnum_p (n : Int) : PFn Try.prog False 66 [iA n] (.tup [sA (numS n), iA (numE n)]) := pfn_ex rfl rfl (enter_of Try.func66 (by kernel_rfl) rfl) fun w => (rnum_c n w).mono fun e w' ⟨h1, h2⟩ => ⟨h1, bl_weak h2⟩
theorem text_p (s : ByteArray) (hs : s.size < 9223372036854775807) : PFn Try.prog False 65 [sA s] (.tup [sA (txS s), iA (txE s)]) := pfn_ex rfl rfl (enter_of Try.func65 (by kernel_rfl) rfl) fun w => (Text_c s hs w).mono fun e w' ⟨h1, h2⟩ => ⟨h1, bl_weak h2⟩
theorem rtext_p (s : ByteArray) (hs : s.size < 9223372036854775807) : PFn Try.prog False 69 [sA s] (.tup [sA (txS s), iA (txE s)]) := pfn_ex rfl rfl (enter_of Try.func69 (by kernel_rfl) rfl) fun w => (rText_c s hs w).mono fun e w' ⟨h1, h2⟩ => ⟨h1, bl_weak h2⟩
theorem WsR.pq {b : Nat} {s : ByteArray} {r av : AV} {p q : HObj} (h : WsR b s r av [p, q]) : av = r ∧ ∃ v', p = bldC b (selfP b) v' ∧ q = bldR v' s := by
  obtain ⟨h1, v', h2⟩ := h
  simp only [List.cons.injEq, and_true] at h2
  exact ⟨h1, v', h2.1, h2.2⟩
theorem hput0 (l : List FactT) : (⟨#[]⟩ : ByteArray) ++ numS l.length = numS l.length ++ factsB (l.take 0) := by
  rw [nil_app]; show _ = _ ++ (⟨#[]⟩ : ByteArray); rw [app_nil]
theorem hnum0 (s : ByteArray) (d : FactT) : s = s ++ cat (((numsF d).take 0).map numS) := by show _ = _ ++ (⟨#[]⟩ : ByteArray); rw [app_nil]
theorem htxs0 (s : ByteArray) (d : FactT) : s ++ cat (((numsF d).take 5).map numS) = s ++ cat ((numsF d).map numS) ++ cat (((txsF d).take 0).map txS) := by show _ = _ ++ (⟨#[]⟩ : ByteArray); rw [app_nil]; rfl
theorem hfact (s : ByteArray) {l : List FactT} {i : Nat} {d : FactT} (h : l[i]? = some d) : s ++ factsB (l.take i) ++ cat ((numsF d).map numS) ++ cat (((txsF d).take 2).map txS) = s ++ factsB (l.take (i + 1)) := by
  have e : factsB (l.take (i + 1)) = factsB (l.take i) ++ factB d := by
    unfold factsB
    rw [List.take_add_one, h]
    simp only [Option.toList_some, List.map_append, List.map_cons, List.map_nil, cat_snoc]
  rw [e]
  unfold factB
  rw [← ByteArray.append_assoc, ← ByteArray.append_assoc]
  rfl
theorem take_size {l : List FactT} (h : ∀ f ∈ l, okF f) (hn : l.length ≤ 4096) (i : Nat) : (factsB (l.take i)).size ≤ 8192000229376 :=
  factsB_size _ (fun f hf => h f (List.mem_of_mem_take hf)) (by rw [List.length_take]; omega)

set_option maxRecDepth 100000 in
theorem num_m (b : Nat) (p v : Value) (hp : isBP b p) (s : ByteArray) (n : Int) (hs : s.size + (numS n).size ≤ 140737488355328) : MFn Try.prog False 108 [iA n, .x (selfP b)] [bldC b p v, bldR v s] (WsR b (s ++ numS n) (.tup [])) := by
  refine mfn Try.func108 rfl (by kernel_rfl) 12 rfl _ rfl (Nat.le_of_ble_eq_true rfl) (fun X w0 => ?_)
  refine wSeq ?_
  refine wReg ?_
  refine sP rfl rfl rfl (pM rfl rfl) ?_
  refine sP rfl rfl rfl (p_call rfl (num_p n) ⟨Sub.refl, trivial⟩) ?_
  refine sP rfl rfl rfl (pMt rfl rfl) ?_
  refine sP rfl rfl rfl (p_extract rfl rfl rfl) ?_
  refine sP rfl rfl rfl (p_extract rfl rfl rfl) ?_
  refine sP rfl rfl rfl (pA rfl rfl) ?_
  refine sP rfl rfl rfl (pA rfl rfl) ?_
  refine lNil ?_
  refine wReg ?_
  refine sP rfl rfl rfl (pM rfl rfl) ?_
  refine sM2 0 1 (by decide) rfl rfl rfl rfl (ws_m _ b p v hp s (numS n) hs) ⟨Sub.refl, Sub.refl, trivial⟩ (fun _ _ h => h.two) (fun av q1 q2 hr => ?_)
  obtain ⟨rfl, v1, rfl, rfl⟩ := hr.pq
  refine lNil ?_
  exact ⟨_, [bldC b (selfP b) v1, bldR v1 (s ++ numS n)], [], rfl, ⟨rfl, v1, rfl⟩, rgm_none⟩
theorem txF_size {d : FactT} (h : okF d) {k : Nat} {t : ByteArray} (ht : (txsF d)[k]? = some t) : t.size < 1000000000 := by
  have h2 : t ∈ txsF d := List.mem_of_getElem? ht
  simp only [txsF, List.mem_cons, List.not_mem_nil, or_false] at h2
  rcases h2 with rfl | rfl
  · exact h.1
  · exact h.2

set_option maxHeartbeats 1000000 in
set_option maxRecDepth 100000 in
theorem fput_p (l : List FactT) (hn : l.length < 1000000) (ho : ∀ f ∈ l, okF f) : PFn Try.prog False 45 [slF l] (.tup [sA (fputS l), iA (fputE l)]) := by
  refine pfn Try.func45 rfl (by kernel_rfl) 74 rfl _ rfl (Nat.le_of_ble_eq_true rfl) (fun X w0 => ?_)
  refine wSeq ?_
  refine wReg ?_
  refine sP rfl rfl rfl (pA rfl rfl) ?_
  refine sP rfl rfl rfl (pA rfl rfl) ?_
  refine lNil ?_
  refine wSeq ?_
  refine wSeq ?_
  refine wReg ?_
  refine sP rfl rfl rfl (pMs rfl rfl) ?_
  refine sP rfl rfl rfl (p_len_sl rfl rfl Try.underlying26) ?_
  refine sP rfl rfl rfl (p_icmp rfl rfl rfl rfl) ?_
  refine lNil ?_
  refine wCond rfl (fun hc1 => ?_) (fun hc1 => ?_)
  · refine wSeq ?_
    refine wReg ?_
    refine sP rfl rfl rfl (pA rfl rfl) ?_
    refine sP rfl rfl rfl (pA rfl rfl) ?_
    refine lNil ?_
    refine wRet ?_
    have h : 4096 < l.length := by have h := hc1; simp at h; omega
    have he : fputE l = 3 := fputE_long h
    exact rgs2 (rg_tmp (gives_sub (Sub.of_eq (avS (fputS_err (by rw [he]; decide)).symm)))) (rg_tmp (gives_sub (Sub.of_eq (avI he.symm))))
  · have hlen : ¬ 4096 < l.length := by have h := hc1; simp at h; omega
    have hlen2 : l.length ≤ 4096 := by omega
    refine wSkip ?_
    refine wSeq ?_
    refine wSeq ?_
    refine wReg ?_
    refine sP rfl rfl rfl (pMs rfl rfl) ?_
    refine sP rfl rfl rfl (p_call rfl (fmay_p l hn ho) ⟨Sub.refl, trivial⟩) ?_
    refine sP rfl rfl rfl (pA rfl rfl) ?_
    refine lNil ?_
    refine wSeq ?_
    refine wReg ?_
    refine sP rfl rfl rfl (pM rfl rfl) ?_
    refine sP rfl rfl rfl (p_icmp rfl rfl rfl rfl) ?_
    refine lNil ?_
    refine wCond rfl (fun hc2 => ?_) (fun hc2 => ?_)
    · refine wSeq ?_
      refine wReg ?_
      refine sP rfl rfl rfl (pM rfl rfl) ?_
      refine sP rfl rfl rfl (pA rfl rfl) ?_
      refine sP rfl rfl rfl (pA rfl rfl) ?_
      refine lNil ?_
      refine wRet ?_
      have h : mayG chkF ltF l ≠ 0 := by simpa using hc2
      rw [← fputE_may hlen] at h
      exact rgs2 (rg_tmp (gives_sub (Sub.of_eq (avS (fputS_err h).symm)))) (rg_tmp (gives_sub (Sub.of_eq (avI (fputE_may hlen).symm))))
    · have hz : fputE l = 0 := by rw [fputE_may hlen]; simpa using hc2
      have hnn := numS_size l.length
      refine wSkip ?_
      refine wSeq ?_
      refine wReg ?_
      refine sAlloc rfl rfl rfl rfl ze157 (fun g5 => ?_)
      refine sNilrow 5 1 ?_
      refine lNil ?_
      refine wSeq ?_
      refine wReg ?_
      refine sP rfl rfl rfl (p_makeFn rfl rfl (SubL.refl _)) ?_
      refine sP rfl rfl rfl (pAf rfl rfl) ?_
      refine lNil ?_
      refine wSeq ?_
      refine wReg ?_
      refine sP rfl rfl rfl (pMf rfl rfl) ?_
      refine sP rfl rfl rfl (pMs rfl rfl) ?_
      refine sP rfl rfl rfl (p_len_sl rfl rfl Try.underlying26) ?_
      refine sM2f 0 1 (by decide) rfl rfl rfl rfl rfl (num_m g5 _ _ (.inl rfl) ⟨#[]⟩ l.length (by show 0 + (numS _).size ≤ _; omega)) ⟨Sub.refl, Sub.refl, trivial⟩ (fun _ _ h => h.two) (fun av q1 q2 hr => ?_)
      obtain ⟨rfl, v1, rfl, rfl⟩ := hr.pq
      refine lNil ?_
      refine wSeq ?_
      refine wSeq ?_
      refine wReg ?_
      refine sP rfl rfl rfl (pMs rfl rfl) ?_
      refine sP rfl rfl rfl (p_len_sl rfl rfl Try.underlying26) ?_
      refine sP rfl rfl rfl (pM rfl rfl) ?_
      refine lNil ?_
      refine wBlock ?_
      refine wLoop (fun mm L h => ∃ i v s, mm = l.length - i ∧ i ≤ l.length ∧ s = numS l.length ++ factsB (l.take i) ∧ L = [(5, .x (selfP g5)), (6, .fn 108 [.x (selfP g5)]), (28, slF l), (29, iA l.length), (30, iA (i : Nat))] ∧ h = [bldC g5 (selfP g5) v, bldR v s]) ⟨_, _, _, _, ⟨0, _, _, rfl, Nat.zero_le _, (by exact hput0 l), rfl, rfl⟩, ⟨rfl, rfl, rfl, rfl, rfl, trivial⟩, rfl⟩ ?_
      rintro mm L h ⟨i, v, s, rfl, hi, hs, rfl, rfl⟩
      refine wSeq ?_
      refine wReg ?_
      refine sP rfl rfl rfl (p_icmp rfl rfl rfl rfl) ?_
      refine lNil ?_
      refine wSeq ?_
      refine wCond rfl (fun hc3 => ?_) (fun hc3 => ?_)
      · have hlt : i < l.length := by simpa using hc3
        obtain ⟨d, hd⟩ := getL hlt
        have hod := ho d (List.mem_of_getElem? hd)
        have hsz : s.size ≤ 8192000229384 := by
          rw [hs, ByteArray.size_append]; have := take_size ho hlen2 i; omega
        refine wSkip ?_
        refine wSeq ?_
        refine wBlock ?_
        refine wSeq ?_
        refine wReg ?_
        refine sP rfl rfl rfl (pIdx i rfl rfl Try.underlying26 ty87 (by decide) rfl (fun _ => rfl) rfl rfl hd) ?_
        refine sP rfl rfl rfl (pLdE rfl rfl ty87 rfl) ?_
        refine sAlloc rfl rfl rfl rfl ze87 (fun g8 => ?_)
        refine sStore 2 rfl rfl rfl rfl rfl ty87 rfl rfl rfl (Nat.le_of_ble_eq_true rfl) ?_
        refine lNil ?_
        refine wSeq ?_
        refine wSeq ?_
        refine wReg ?_
        refine sP rfl rfl rfl (p_fieldAddr_own rfl rfl fl87_0 ty23 (by decide)) ?_
        refine sP rfl rfl rfl (p_fieldAddr_own rfl rfl fl23_0 ty3 (by decide)) ?_
        refine sP rfl rfl rfl (pLdO1 2 rfl rfl rfl ty3 rfl) ?_
        refine sP rfl rfl rfl (p_fieldAddr_own rfl rfl fl87_0 ty23 (by decide)) ?_
        refine sP rfl rfl rfl (p_fieldAddr_own rfl rfl fl23_1 ty3 (by decide)) ?_
        refine sP rfl rfl rfl (pLdO1 2 rfl rfl rfl ty3 rfl) ?_
        refine sP rfl rfl rfl (p_fieldAddr_own rfl rfl fl87_1 ty25 (by decide)) ?_
        refine sP rfl rfl rfl (p_fieldAddr_own rfl rfl fl25_0 ty3 (by decide)) ?_
        refine sP rfl rfl rfl (pLdO1 2 rfl rfl rfl ty3 rfl) ?_
        refine sP rfl rfl rfl (p_fieldAddr_own rfl rfl fl87_1 ty25 (by decide)) ?_
        refine sP rfl rfl rfl (p_fieldAddr_own rfl rfl fl25_1 ty3 (by decide)) ?_
        refine sP rfl rfl rfl (pLdO1 2 rfl rfl rfl ty3 rfl) ?_
        refine sP rfl rfl rfl (p_fieldAddr_own rfl rfl fl87_2 ty3 (by decide)) ?_
        refine sP rfl rfl rfl (pLdO1 2 rfl rfl rfl ty3 rfl) ?_
        refine sP rfl rfl rfl (p_build_arr rfl ze163 Try.underlying163 ty3 rfl rfl) ?_
        refine sP rfl rfl rfl (pM rfl rfl) ?_
        refine lNil ?_
        refine wBlock ?_
        refine wLoop (fun mm L h => ∃ k v s2, mm = 5 - k ∧ k ≤ 5 ∧ s2 = s ++ cat (((numsF d).take k).map numS) ∧ L = [(5, .x (selfP g5)), (6, .fn 108 [.x (selfP g5)]), (28, slF l), (29, iA l.length), (30, iA (i : Nat)), (8, .x (.pointer (some ⟨g8, 0, none⟩))), (48, .agg ((numsF d).map iA)), (49, iA (k : Nat))] ∧ h = [bldC g5 (selfP g5) v, bldR v s2, .cells g8 87 (encF d)]) ⟨_, _, _, _, ⟨0, _, _, rfl, Nat.zero_le _, (by exact hnum0 s d), rfl, rfl⟩, ⟨rfl, rfl, rfl, rfl, rfl, rfl, rfl, rfl, trivial⟩, rfl⟩ ?_
        rintro mm L h ⟨k, v2, s2, rfl, hk, hs2, rfl, rfl⟩
        refine wSeq ?_
        refine wReg ?_
        refine sP rfl rfl rfl (p_icmp rfl rfl rfl rfl) ?_
        refine lNil ?_
        refine wSeq ?_
        refine wCond rfl (fun hc4 => ?_) (fun hc4 => ?_)
        · have hk5 : k < 5 := by have h := hc4; simp at h; omega
          obtain ⟨n, hx⟩ : ∃ n, (numsF d)[k]? = some n := getL (l := numsF d) hk5
          have hxA : ((numsF d).map iA)[k * 1]? = some (iA n) := by rw [Nat.mul_one, List.getElem?_map, hx]; rfl
          have hb2 : s2.size + (numS n).size ≤ 140737488355328 := by
            rw [hs2, ByteArray.size_append]; have := nums_size d k; have := numS_size n; omega
          refine wSkip ?_
          refine wSeq ?_
          refine wBlock ?_
          refine wSeq ?_
          refine wReg ?_
          refine sP rfl rfl rfl (p_index_arr rfl rfl Try.underlying163 ty3 rfl (i := k) rfl hk5 (.inr ⟨rfl, hxA⟩)) ?_
          refine sP rfl rfl rfl (pA rfl rfl) ?_
          refine lNil ?_
          refine wReg ?_
          refine sP rfl rfl rfl (pMf rfl rfl) ?_
          refine sP rfl rfl rfl (pM rfl rfl) ?_
          refine sM2f 0 1 (by decide) rfl rfl rfl rfl rfl (num_m g5 _ _ (.inr rfl) s2 n hb2) ⟨Sub.refl, Sub.refl, trivial⟩ (fun _ _ h => h.two) (fun av q1 q2 hr => ?_)
          obtain ⟨rfl, v4, rfl, rfl⟩ := hr.pq
          refine lNil ?_
          refine wReg ?_
          refine sP rfl rfl rfl (p_iar rfl rfl rfl rfl) ?_
          refine sP rfl rfl rfl (pM rfl rfl) ?_
          refine lNil ?_
          refine ⟨_, _, [bldC g5 (selfP g5) v4, bldR v4 (s2 ++ numS n), .cells g8 87 (encF d)], [], ?_, ⟨k + 1, v4, _, rfl, hk5, ?_, rfl, rfl⟩, ⟨rfl, rfl, rfl, rfl, rfl, rfl, rfl, avI (wrapI (by omega) (by omega)), trivial⟩, rfl⟩
          · omega
          · rw [hs2]; exact cat_take numS hx s
        · have hk6 : k = 5 := by have h := hc4; simp at h; omega
          subst hk6
          refine wExit ?_
          refine wSeq ?_
          refine wReg ?_
          refine sP rfl rfl rfl (p_fieldAddr_own rfl rfl fl87_3 ty9 (by decide)) ?_
          refine sP rfl rfl rfl (pLdO1 2 rfl rfl rfl ty9 rfl) ?_
          refine sP rfl rfl rfl (p_fieldAddr_own rfl rfl fl87_4 ty9 (by decide)) ?_
          refine sP rfl rfl rfl (pLdO1 2 rfl rfl rfl ty9 rfl) ?_
          refine sP rfl rfl rfl (p_build_arr rfl ze103 Try.underlying103 ty9 rfl rfl) ?_
          refine sP rfl rfl rfl (pM rfl rfl) ?_
          refine lNil ?_
          refine wBlock ?_
          refine wLoop (fun mm L h => ∃ k v s3, mm = 2 - k ∧ k ≤ 2 ∧ s3 = s ++ cat ((numsF d).map numS) ++ cat (((txsF d).take k).map txS) ∧ L = [(5, .x (selfP g5)), (6, .fn 108 [.x (selfP g5)]), (28, slF l), (29, iA l.length), (30, iA (i : Nat)), (60, .agg ((txsF d).map sA)), (61, iA (k : Nat))] ∧ h = [bldC g5 (selfP g5) v, bldR v s3]) ⟨_, _, _, _, ⟨0, _, _, rfl, Nat.zero_le _, (by rw [hs2]; exact htxs0 s d), rfl, rfl⟩, ⟨rfl, rfl, rfl, rfl, rfl, rfl, rfl, trivial⟩, rfl⟩ ?_
          rintro mm L h ⟨k2, v3, s3, rfl, hk3, hs3, rfl, rfl⟩
          refine wSeq ?_
          refine wReg ?_
          refine sP rfl rfl rfl (p_icmp rfl rfl rfl rfl) ?_
          refine lNil ?_
          refine wSeq ?_
          refine wCond rfl (fun hc5 => ?_) (fun hc5 => ?_)
          · have hk2 : k2 < 2 := by have h := hc5; simp at h; omega
            obtain ⟨t, ht⟩ : ∃ t, (txsF d)[k2]? = some t := getL (l := txsF d) hk2
            have htA : ((txsF d).map sA)[k2 * 1]? = some (sA t) := by rw [Nat.mul_one, List.getElem?_map, ht]; rfl
            have hb3 : s3.size + (txS t).size ≤ 140737488355328 := by
              rw [hs3, ByteArray.size_append, ByteArray.size_append]; have := nums_size d 5; have e5 : (numsF d).take 5 = numsF d := rfl; rw [e5] at this; have := txs_size d hod k2; have := txS_size t; have := txF_size hod ht; omega
            refine wSkip ?_
            refine wSeq ?_
            refine wBlock ?_
            refine wSeq ?_
            refine wReg ?_
            refine sP rfl rfl rfl (p_index_arr rfl rfl Try.underlying103 ty9 rfl (i := k2) rfl hk2 (.inr ⟨rfl, htA⟩)) ?_
            refine sP rfl rfl rfl (pA rfl rfl) ?_
            refine lNil ?_
            refine wSeq ?_
            refine wReg ?_
            refine sP rfl rfl rfl (pM rfl rfl) ?_
            refine sP rfl rfl rfl (p_call rfl (text_p t (by have := txF_size (ho d (List.mem_of_getElem? hd)) ht; omega)) ⟨Sub.refl, trivial⟩) ?_
            refine sP rfl rfl rfl (pMt rfl rfl) ?_
            refine sP rfl rfl rfl (p_extract rfl rfl rfl) ?_
            refine sP rfl rfl rfl (p_extract rfl rfl rfl) ?_
            refine sP rfl rfl rfl (pA rfl rfl) ?_
            refine sP rfl rfl rfl (pA rfl rfl) ?_
            refine lNil ?_
            refine wReg ?_
            refine sP rfl rfl rfl (pM rfl rfl) ?_
            refine sM2 0 1 (by decide) rfl rfl rfl rfl (ws_m _ g5 _ _ (.inr rfl) s3 (txS t) hb3) ⟨Sub.refl, Sub.refl, trivial⟩ (fun _ _ h => h.two) (fun av q1 q2 hr => ?_)
            obtain ⟨rfl, v5, rfl, rfl⟩ := hr.pq
            refine lNil ?_
            refine wReg ?_
            refine sP rfl rfl rfl (p_iar rfl rfl rfl rfl) ?_
            refine sP rfl rfl rfl (pM rfl rfl) ?_
            refine lNil ?_
            refine ⟨_, _, [bldC g5 (selfP g5) v5, bldR v5 (s3 ++ txS t)], [], ?_, ⟨k2 + 1, v5, _, rfl, hk2, ?_, rfl, rfl⟩, ⟨rfl, rfl, rfl, rfl, rfl, rfl, avI (wrapI (by omega) (by omega)), trivial⟩, rfl⟩
            · omega
            · rw [hs3]; exact cat_take txS ht _
          · have hk7 : k2 = 2 := by have h := hc5; simp at h; omega
            subst hk7
            refine wExit ?_
            refine wReg ?_
            refine sP rfl rfl rfl (p_iar rfl rfl rfl rfl) ?_
            refine sP rfl rfl rfl (pM rfl rfl) ?_
            refine lNil ?_
            refine ⟨_, _, [bldC g5 (selfP g5) v3, bldR v3 s3], [], ?_, ⟨i + 1, v3, _, rfl, hlt, ?_, rfl, rfl⟩, ⟨rfl, rfl, rfl, rfl, avI (wrapI (by omega) (by omega)), trivial⟩, rfl⟩
            · omega
            · rw [hs3, hs]; exact hfact _ hd
      · have hge : i = l.length := by
          have h : ¬ i < l.length := by simpa using hc3
          omega
        subst hge
        rw [List.take_length] at hs
        refine wExit ?_
        refine wSeq ?_
        refine wReg ?_
        refine sBldStr 0 1 rfl rfl rfl rfl rfl rfl rfl rfl rfl (by decide) (.inr rfl) (fun _ h => h) (fun h => h) bstr_enter bstr_c ?_
        subst hs
        refine sP rfl rfl rfl (pA rfl rfl) ?_
        refine sP rfl rfl rfl (pA rfl rfl) ?_
        refine lNil ?_
        refine wRet ?_
        exact rgs2 (rg_tmp (gives_sub (Sub.of_eq (avS (fputS_ok hz).symm)))) (rg_tmp (gives_sub (Sub.of_eq (avI hz.symm))))
end Go.Proofs.Ytmhkalalcmkpbaa
