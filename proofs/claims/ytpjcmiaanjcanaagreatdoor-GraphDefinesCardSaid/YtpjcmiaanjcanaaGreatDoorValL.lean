/-
Names, texts and types, for any name. No conditions.
-/
import Derived.Test.YtpjcmiaanjcanaaGreatDoorValD
import Derived.Test.YtpjcmiaanjcanaaGreatDoorValK
set_option linter.all false

namespace Go.Proofs.YtpjcmiaanjcanaaGreatDoor
open Go Go.Vm Go.Vm.T
set_option maxRecDepth 100000
set_option linter.unusedSimpArgs false
set_option linter.unusedVariables false
attribute [local simp] inFrame startLoc startVals Loc.clear blockC Loc.putO Loc.put idx evO constV Loc.get Vm.look intA unwindA resultsA resultV actA pureA storeA loadA fillE repElems TI.zeroV fieldOf fieldAddrA fieldA elemsA retE cellsOf? setCells nowhere

set_option maxHeartbeats 4000000

/-! closed calls -/
theorem sound_at {f : FuncId} {args : List AV} {r : FRes} {n : Nat} (h : (callS ED (sumOf []) n (.fn f) args S0).map (fun q => q.1.melt q.2) = some r) (hp : r.pers = true) : Sound Tryz.prog ED f args r := by
  cases hq : callS ED (sumOf []) n (.fn f) args S0 with
  | none => rw [hq] at h; cases h
  | some q =>
    obtain ⟨r', S'⟩ := q
    rw [hq] at h
    simp only [Option.map_some, Option.some.injEq] at h
    rw [← h]
    exact sound_of ED_ok ED_pers (sumOf_ok (cs := []) (by simp)) hq (by rw [h]; exact hp)

def namesV : AV := .slice (nms.map .str) .dead
def closedC (f : FuncId) (args : List AV) (r : FRes) : Con where
  f := f
  X := Unit
  dom _ := True
  enc _ := args
  res _ := r
theorem closed_use {cs : List Con} {f : FuncId} {args : List AV} {r : FRes} (h : sumOf cs f = (closedC f args r).look) (hd : args.map AV.dead = args) {n : Nat} {S : St} : callS ED (sumOf cs) n (.fn f) args S = some (r, S) :=
  Con.use (c := closedC f args r) (fun _ _ _ _ _ => rfl) h () trivial hd
theorem closed_ok {f : FuncId} {args : List AV} {r : FRes} (h : Sound Tryz.prog ED f args r) (ha : AV.persL args = true) (hp : r.pers = true) : (closedC f args r).Ok Tryz.prog ED := ⟨fun _ _ => ⟨ha, hp⟩, fun _ _ => h⟩

def names1C : Con := closedC 13 [] (.ret namesV)
def names2C : Con := closedC 14 [] (.ret namesV)
def eqTextsC : Con := closedC 12 [namesV, namesV] (.ret (.bool true))
theorem names1_run : (callS ED (sumOf []) 100 (.fn 13) [] S0).map (fun q => q.1.melt q.2) = some (.ret namesV) := by kernel_rfl
theorem names2_run : (callS ED (sumOf []) 100 (.fn 14) [] S0).map (fun q => q.1.melt q.2) = some (.ret namesV) := by kernel_rfl
theorem eqTexts_run : (callS ED (sumOf []) 100 (.fn 12) [namesV, namesV] S0).map (fun q => q.1.melt q.2) = some (.ret (.bool true)) := by kernel_rfl
theorem names1_ok : names1C.Ok Tryz.prog ED := closed_ok (sound_at names1_run (by kernel_rfl)) rfl (by kernel_rfl)
theorem names2_ok : names2C.Ok Tryz.prog ED := closed_ok (sound_at names2_run (by kernel_rfl)) rfl (by kernel_rfl)
theorem eqTexts_ok : eqTextsC.Ok Tryz.prog ED := closed_ok (sound_at eqTexts_run rfl) (by kernel_rfl) rfl

/-! texts -/
noncomputable def txts : List AV := match callS ED (sumOf []) 20 (.fn 27) [] S0 with
  | some (.ret (.slice es _), _) => es
  | _ => []
def strOf1 : Option AV → List UInt8
  | some (.str s) => s
  | _ => []
noncomputable def txtS (nm : List UInt8) : List UInt8 := strOf1 txts[nms.idxOf nm]?
noncomputable def txtRes (nm : List UInt8) : FRes := .ret (.tup [.str (txtS nm), .int .i64 0])
def noneRes : FRes := .ret (.tup [.str [], .int .i64 4])

theorem t6_1 : (callS ED (sumOf []) 100 (.fn 6) [.str nComps] S0).map (fun q => q.1.melt q.2) = some (txtRes nComps) := by kernel_rfl
theorem t6_2 : (callS ED (sumOf []) 100 (.fn 6) [.str nDist] S0).map (fun q => q.1.melt q.2) = some (txtRes nDist) := by kernel_rfl
theorem t6_3 : (callS ED (sumOf []) 100 (.fn 6) [.str nLevel] S0).map (fun q => q.1.melt q.2) = some (txtRes nLevel) := by kernel_rfl
theorem t6_4 : (callS ED (sumOf []) 100 (.fn 6) [.str nSpmv] S0).map (fun q => q.1.melt q.2) = some (txtRes nSpmv) := by kernel_rfl
theorem t6_5 : (callS ED (sumOf []) 100 (.fn 6) [.str nWalk] S0).map (fun q => q.1.melt q.2) = some (txtRes nWalk) := by kernel_rfl
theorem t6_6 : (callS ED (sumOf []) 100 (.fn 6) [.str nHull] S0).map (fun q => q.1.melt q.2) = some (txtRes nHull) := by kernel_rfl
theorem t7_1 : (callS ED (sumOf []) 100 (.fn 7) [.str nComps] S0).map (fun q => q.1.melt q.2) = some (txtRes nComps) := by kernel_rfl
theorem t7_2 : (callS ED (sumOf []) 100 (.fn 7) [.str nDist] S0).map (fun q => q.1.melt q.2) = some (txtRes nDist) := by kernel_rfl
theorem t7_3 : (callS ED (sumOf []) 100 (.fn 7) [.str nLevel] S0).map (fun q => q.1.melt q.2) = some (txtRes nLevel) := by kernel_rfl
theorem t7_4 : (callS ED (sumOf []) 100 (.fn 7) [.str nSpmv] S0).map (fun q => q.1.melt q.2) = some (txtRes nSpmv) := by kernel_rfl
theorem t7_5 : (callS ED (sumOf []) 100 (.fn 7) [.str nWalk] S0).map (fun q => q.1.melt q.2) = some (txtRes nWalk) := by kernel_rfl
theorem t7_6 : (callS ED (sumOf []) 100 (.fn 7) [.str nHull] S0).map (fun q => q.1.melt q.2) = some (txtRes nHull) := by kernel_rfl

end Go.Proofs.YtpjcmiaanjcanaaGreatDoor

namespace Go.Proofs.YtpjcmiaanjcanaaGreatDoor
open Go Go.Vm Go.Vm.T
set_option maxRecDepth 100000
set_option linter.unusedSimpArgs false
set_option linter.unusedVariables false
attribute [local simp] inFrame startLoc startVals Loc.clear blockC Loc.putO Loc.put idx evO constV Loc.get Vm.look intA unwindA resultsA resultV actA pureA storeA loadA fillE repElems TI.zeroV fieldOf fieldAddrA fieldA elemsA retE cellsOf? setCells nowhere

set_option maxHeartbeats 4000000

/-! the six programs -/
inductive Nm where
  | comps | dist | level | spmv | walk | hull
def Nm.str : Nm → List UInt8
  | .comps => nComps
  | .dist => nDist
  | .level => nLevel
  | .spmv => nSpmv
  | .walk => nWalk
  | .hull => nHull
def Nm.ty : Nm → Ty
  | .comps => tComps
  | .dist => tDist
  | .level => tComps
  | .spmv => tSpmv
  | .walk => tWalk
  | .hull => tDuos
def Nm.fn : Nm → FuncId
  | .comps => 41
  | .dist => 42
  | .level => 43
  | .spmv => 45
  | .walk => 46
  | .hull => 47
def clampO (n : Int) (o : Option (List Int)) : Option (List Int) := if 0 ≤ n ∧ n ≤ 4096 then o else none
noncomputable def Nm.out : Nm → RV → Option (List Int)
  | .comps, v => clampO (gN v) (compsOut (gN v).toNat (gE v))
  | .dist, v => clampO (gN v) (distOut (gN v).toNat (dStart v) (dE v))
  | .level, v => clampO (gN v) (levelOut (gN v).toNat (gE v))
  | .spmv, v => timesL (sRows v) (sWds v)
  | .walk, v => walkOut (gN v) (wRows v) (wWds v)
  | .hull, v => hullOut v.duos
def Nm.sh : Nm → List Int → AV
  | .comps => slcI
  | .dist => slcI
  | .level => slcI
  | .spmv => lstI
  | .walk => lstI
  | .hull => lstI
theorem graphR_clamp (n : Int) (f : List Int → AV) (o : Option (List Int)) : graphR n f o = optR f (clampO n o) := by
  unfold graphR clampO
  split <;> rfl

theorem Nm.five (k : Nm) : k.ty ∈ five := by cases k <;> simp [Nm.ty, _root_.Go.Proofs.YtpjcmiaanjcanaaGreatDoor.five]

/-! values of these types -/
theorem short_len {v : RV} {a : Ty} (h : isR (.seq a) v = true) (hl : v.long = false) : v.kids.length ≤ 4096 := by
  obtain ⟨h1, _, _⟩ := isR_seq h
  rw [RV.long_kids, Bool.or_eq_false_iff, decide_eq_false_iff_not, h1] at hl
  omega
theorem pair_2 {v : RV} {a b : Ty} (h : isR (.pair a b) v = true) : v.kids.length = 2 := by
  obtain ⟨_, _, x, y, e, _, _⟩ := isR_pair h
  rw [e]; rfl
theorem pair_0 {v : RV} {a b : Ty} (h : isR (.pair a b) v = true) : isR a (v.kids.getD 0 dflt) = true ∧ v.kids.getD 0 dflt ∈ v.kids := by
  obtain ⟨_, _, x, y, e, h1, h2⟩ := isR_pair h
  rw [e]; exact ⟨h1, by simp⟩
theorem pair_1 {v : RV} {a b : Ty} (h : isR (.pair a b) v = true) : isR b (v.kids.getD 1 dflt) = true ∧ v.kids.getD 1 dflt ∈ v.kids := by
  obtain ⟨_, _, x, y, e, h1, h2⟩ := isR_pair h
  rw [e]; exact ⟨h2, by simp⟩
structure Duos2 (v : RV) : Prop where
  len : v.kids.length ≤ 4096
  two : ∀ k ∈ v.kids, k.kids.length = 2
theorem duos_2 {v : RV} (h : isR tDuos v = true) (hl : v.long = false) : Duos2 v := ⟨short_len h hl, fun k hk => pair_2 ((isR_seq h).2.2 k hk)⟩
theorem Duos2.ok {v : RV} (h : Duos2 v) : v.duosOk := ⟨h.len, fun k hk => by have := h.two k hk; unfold RV.has2; omega⟩
theorem rows_2 {v : RV} (h : isR (.seq tDuos) v = true) (hl : v.long = false) : v.rows2 := by
  refine ⟨short_len h hl, fun k hk => ?_⟩
  have := duos_2 ((isR_seq h).2.2 k hk) (RV.long_kid hl hk)
  exact ⟨this.len, this.two⟩
theorem RV.rows2.ok {v : RV} (h : v.rows2) : v.rowsOk := ⟨h.1, fun k hk => ⟨(h.2 k hk).1, fun m hm => by have := (h.2 k hk).2 m hm; unfold RV.has2; omega⟩⟩

structure CompsV (v : RV) : Prop where
  two : v.kids.length = 2
  d : Duos2 (v.kids.getD 1 dflt)
theorem compsV {v : RV} (h : OkR tComps v) : CompsV v := by
  obtain ⟨h1, h2⟩ := pair_1 h.is
  exact ⟨pair_2 h.is, duos_2 h1 (RV.long_kid h.short h2)⟩
structure DistV (v : RV) : Prop where
  two : v.kids.length = 2
  two' : (v.kids.getD 1 dflt).kids.length = 2
  d : Duos2 ((v.kids.getD 1 dflt).kids.getD 1 dflt)
theorem distV {v : RV} (h : OkR tDist v) : DistV v := by
  obtain ⟨h1, h2⟩ := pair_1 h.is
  obtain ⟨h3, h4⟩ := pair_1 h1
  exact ⟨pair_2 h.is, pair_2 h1, duos_2 h3 (RV.long_kid (RV.long_kid h.short h2) h4)⟩
structure SpmvV (v : RV) : Prop where
  two : v.kids.length = 2
  r : (v.kids.getD 0 dflt).rows2
  w : (v.kids.getD 1 dflt).kids.length ≤ 4096
theorem spmvV {v : RV} (h : isR tSpmv v = true) (hl : v.long = false) : SpmvV v := by
  obtain ⟨h1, h2⟩ := pair_0 h
  obtain ⟨h3, h4⟩ := pair_1 h
  exact ⟨pair_2 h, rows_2 h1 (RV.long_kid hl h2), short_len h3 (RV.long_kid hl h4)⟩
structure WalkV (v : RV) : Prop where
  two : v.kids.length = 2
  s : SpmvV (v.kids.getD 1 dflt)
theorem walkV {v : RV} (h : OkR tWalk v) : WalkV v := by
  obtain ⟨h1, h2⟩ := pair_1 h.is
  exact ⟨pair_2 h.is, spmvV h1 (RV.long_kid h.short h2)⟩

theorem has2_of {v : RV} (h : v.kids.length = 2) : v.has2 := by unfold RV.has2; omega

/-! how long results are -/
theorem walkF_len {rs : List (List (Int × Int))} (hr : rs.length ≤ 4096) : ∀ (n : Nat) {l zs : List Int}, l.length ≤ 4096 → walkF rs n l = some zs → zs.length ≤ 4096
  | 0, l, zs, hl, h => by cases h; exact hl
  | n + 1, l, zs, hl, h => by
    simp only [walkF] at h
    split at h
    · rename_i m hm
      exact walkF_len hr n (by rw [timesL_len hm]; exact hr) h
    · cases h
theorem ofN_length (u : List Nat) : (ofN u).length = u.length := by simp [ofN]
theorem hullN_len {l : List (Int × Int)} (hb : Bnd l) : (hullN l).length ≤ l.length := by
  by_cases hne : l = []
  · subst hne; rw [hullN_nil]; simp
  · obtain ⟨vs, hH⟩ := hull_ok hb hne
    unfold hullN
    rw [hullVs_eq hH, List.length_map]
    exact subP_len hH.nodup hH.mem
theorem clamp_some {n : Int} {o : Option (List Int)} {zs : List Int} (h : clampO n o = some zs) : (0 ≤ n ∧ n ≤ 4096) ∧ o = some zs := by
  unfold clampO at h
  split at h
  · rename_i k; exact ⟨k, h⟩
  · cases h
theorem Nm.len {k : Nm} {v : RV} (h : OkR k.ty v) {zs : List Int} (ho : k.out v = some zs) : zs.length ≤ 4096 := by
  cases k with
  | comps =>
    obtain ⟨h1, h2⟩ := clamp_some ho
    unfold compsOut at h2
    split at h2
    · cases h2; rw [ofN_length, compsL_len]; omega
    · cases h2
  | dist =>
    obtain ⟨h1, h2⟩ := clamp_some ho
    unfold distOut at h2
    split at h2
    · cases h2
    · split at h2
      · rename_i hx
        cases h2
        rw [hx.choose_spec.len]; omega
      · cases h2
  | level =>
    obtain ⟨h1, h2⟩ := clamp_some ho
    unfold levelOut at h2
    split at h2
    · cases h2
    · split at h2
      · rename_i hx
        cases h2
        rw [hx.choose_spec.len]; omega
      · cases h2
  | spmv =>
    have := (spmvV h.is h.short).r.1
    have h2 := timesL_len ho
    unfold sRows RV.rows at h2
    rw [List.length_map] at h2
    omega
  | walk =>
    have hw := (walkV h).s
    have ho' : walkOut (gN v) (wRows v) (wWds v) = some zs := ho
    unfold walkOut at ho'
    split at ho'
    · refine walkF_len ?_ _ ?_ ho'
      · unfold wRows RV.rows; rw [List.length_map]; exact hw.r.1
      · unfold wWds RV.wds; rw [List.length_map]; exact hw.w
    · cases ho'
  | hull =>
    have hd := duos_2 h.is h.short
    have ho' : hullOut v.duos = some zs := ho
    unfold hullOut at ho'
    split at ho'
    · rename_i hb
      cases ho'
      have hb' : Bnd v.duos := fun p hp => inB_t.1 (List.all_eq_true.1 hb p hp)
      have := hullN_len hb'
      rw [ofN_length]
      unfold RV.duos at this
      rw [List.length_map] at this
      have := hd.len
      unfold RV.duos
      omega
    · cases ho'

/-! what the program's functions return -/
noncomputable def csP : List Con := [checkC', compsC, distC, levelC, spmvC, walkC, hullC]
theorem csP_ok : ∀ d ∈ csP, d.Ok Tryz.prog ED := by simpa [csP] using ⟨check_ok, comps_ok, dist_ok, level_ok, spmv_ok, walk_ok, hull_ok47⟩
theorem Nm.value {k : Nm} {v : RV} (h : OkR k.ty v) (n : Nat) (S : St) : callS ED (sumOf csP) n (.fn k.fn) [v.enc] S = some (optR k.sh (k.out v), S) := by
  cases k with
  | comps =>
    have hv := compsV h
    have := comps_use (cs := csP) (by funext a; rfl) (n := n) (S := S) (v := v) ⟨has2_of hv.two, hv.d.ok⟩
    rw [graphR_clamp] at this
    exact this
  | dist =>
    have hv := distV h
    have := dist_use (cs := csP) (by funext a; rfl) (n := n) (S := S) (v := v) ⟨has2_of hv.two, has2_of hv.two', hv.d.ok⟩
    rw [graphR_clamp] at this
    exact this
  | level =>
    have hv := compsV h
    have := level_use (cs := csP) (by funext a; rfl) (n := n) (S := S) (v := v) ⟨has2_of hv.two, hv.d.ok⟩
    rw [graphR_clamp] at this
    exact this
  | spmv =>
    have hv := spmvV h.is h.short
    exact spmv_use (cs := csP) (by funext a; rfl) (n := n) (S := S) (v := v) ⟨has2_of hv.two, hv.r.ok, hv.w⟩
  | walk =>
    have hv := walkV h
    exact walk_use (cs := csP) (by funext a; rfl) (n := n) (S := S) (v := v) ⟨has2_of hv.two, has2_of hv.s.two, hv.s.r.ok, hv.s.w⟩
  | hull =>
    have hv := duos_2 h.is h.short
    exact hull_use (cs := csP) (by funext a; rfl) (n := n) (S := S) (v := v) hv.ok
theorem Nm.sh_D (k : Nm) (zs : List Int) : IntsD (k.sh zs) zs := by
  cases k <;> first
    | exact .inr rfl
    | exact lstI_D zs

end Go.Proofs.YtpjcmiaanjcanaaGreatDoor

namespace Go.Proofs.YtpjcmiaanjcanaaGreatDoor
open Go Go.Vm Go.Vm.T
set_option maxRecDepth 100000
set_option linter.unusedSimpArgs false
set_option linter.unusedVariables false
attribute [local simp] inFrame startLoc startVals Loc.clear blockC Loc.putO Loc.put idx evO constV Loc.get Vm.look intA unwindA resultsA resultV actA pureA storeA loadA fillE repElems TI.zeroV fieldOf fieldAddrA fieldA elemsA retE cellsOf? setCells nowhere

set_option maxHeartbeats 4000000

/-! names that are none -/
def whichOf (s : List UInt8) : Option Nm :=
  if s = nComps then some .comps else if s = nDist then some .dist else if s = nLevel then some .level else if s = nSpmv then some .spmv else if s = nWalk then some .walk else if s = nHull then some .hull else none
theorem whichOf_none {s : List UInt8} (h : whichOf s = none) : s ≠ nComps ∧ s ≠ nDist ∧ s ≠ nLevel ∧ s ≠ nSpmv ∧ s ≠ nWalk ∧ s ≠ nHull := by
  unfold whichOf at h
  split at h
  · cases h
  split at h
  · cases h
  split at h
  · cases h
  split at h
  · cases h
  split at h
  · cases h
  split at h
  · cases h
  exact ⟨‹_›, ‹_›, ‹_›, ‹_›, ‹_›, ‹_›⟩
theorem whichOf_some {s : List UInt8} {k : Nm} (h : whichOf s = some k) : s = k.str := by
  unfold whichOf at h
  split at h
  · cases h; assumption
  split at h
  · cases h; assumption
  split at h
  · cases h; assumption
  split at h
  · cases h; assumption
  split at h
  · cases h; assumption
  split at h
  · cases h; assumption
  cases h

theorem eq_str {x y : Operand} {a b : List UInt8} : binA ED .eql 9 x y (.str a) (.str b) = some (.bool (decide (a = b))) := by
  have h : binA ED .eql 9 x y (.str a) (.str b) = some (.bool (a == b)) := by
    cases x <;> cases y <;> rfl
  rw [h]
  congr 2
  by_cases k : a = b
  · simp [k]
  · simp [k]

def keysOf : Option AO → List AV
  | some (.map es) => es.map (·.1)
  | _ => []
theorem find_none {s : List UInt8} (h : whichOf s = none) {es : List (AV × AV)} (hk : es.map (·.1) = nms.map .str) : findA (.str s) es = some none := by
  obtain ⟨h1, h2, h3, h4, h5, h6⟩ := whichOf_none h
  have hs : ∀ t, s ≠ t → keyEq (.str s) (.str t) = some false := fun t ht => by
    show some (s == t) = some false
    rw [beq_eq_false_iff_ne.2 ht]
  have key : ∀ (ns : List (List UInt8)) (es : List (AV × AV)), (∀ t ∈ ns, s ≠ t) → es.map (·.1) = ns.map .str → findA (.str s) es = some none := by
    intro ns
    induction ns with
    | nil =>
      intro es _ he
      have : es = [] := List.map_eq_nil_iff.1 he
      subst this
      rfl
    | cons t ns ih =>
      intro es hn he
      cases es with
      | nil => cases he
      | cons e es =>
        obtain ⟨a, b⟩ := e
        simp only [List.map_cons, List.cons.injEq] at he
        obtain ⟨rfl, he⟩ := he
        simp only [findA, hs t (hn t (by simp))]
        exact ih es (fun u hu => hn u (by simp [hu])) he
  refine key nms es (fun t ht => ?_) hk
  simp only [nms, List.mem_cons, List.not_mem_nil, or_false] at ht
  rcases ht with rfl | rfl | rfl | rfl | rfl | rfl <;> assumption
def zero51 : AV := .agg [.str [], .int .i64 0, .int .i64 0, .nils, .int .i64 0, .int .i64 0, .nils, .nilf]
theorem lookup_none {s : List UInt8} (h : whichOf s = none) {S : St} {i : Nat} (hk : keysOf (S.get i) = nms.map .str) : lookupA ED S 53 (.map i) (.str s) true = some (.tup [zero51, .bool false]) := by
  cases hg : S.get i with
  | none => rw [hg] at hk; cases hk
  | some o =>
    cases o with
    | map es =>
      rw [hg] at hk
      have := find_none h hk
      unfold lookupA
      have hd : ED.desc 53 = some (.map 9 51) := rfl
      have hp : plainKey ED 9 (.str s) = true := rfl
      have ht : (ED.ti 51) = some ti51 := rfl
      simp only [hd, hp, ht, if_true, hg, this]
      rfl
    | _ => rw [hg] at hk; cases hk

/-! texts -/
noncomputable def textRes (s : List UInt8) : FRes := match whichOf s with
  | some k => .ret (.tup [.str (txtS k.str), .int .i64 0])
  | none => noneRes

theorem head25 : (callS ED (sumOf []) 99 (.fn 25) [] S0).map (fun q => (q.1, keysOf (q.2.get 0))) = some (.ret (.map 0), nms.map .str) := by kernel_rfl
noncomputable def textC : Con where
  f := 6
  X := List UInt8
  dom _ := True
  enc s := [.str s]
  res s := textRes s
theorem textRes_pers (s : List UInt8) : (textRes s).pers = true := by
  unfold textRes
  split <;> rfl
theorem got_closed {f : FuncId} {args : List AV} {r : FRes} {n : Nat} (h : (callS ED (sumOf []) n (.fn f) args S0).map (fun q => q.1.melt q.2) = some r) : ∃ n, ∀ p : FRes → St → Prop, (∀ r' S', r'.melt S' = r → p r' S') → GotF (callS ED (sumOf []) n (.fn f) args S0) p := by
  refine ⟨n, fun p hp => ?_⟩
  cases hq : callS ED (sumOf []) n (.fn f) args S0 with
  | none => rw [hq] at h; cases h
  | some q =>
    rw [hq] at h
    simp only [Option.map_some, Option.some.injEq] at h
    exact hp _ _ h
theorem text_ok : textC.Ok Tryz.prog ED := by
  refine Con.ok_at ED_ok ED_pers [] (by simp) (fun (s : List UInt8) _ => ⟨rfl, textRes_pers s⟩) ?_
  intro (s : List UInt8) _
  show ∃ n, ∀ p : FRes → St → Prop, (∀ r S', r.melt S' = textRes s → p r S') → GotF (callS ED (sumOf []) n (.fn 6) [.str s] S0) p
  cases hw : whichOf s with
  | some k =>
    have hs := whichOf_some hw
    have hr : textRes s = txtRes k.str := by unfold textRes; rw [hw]; rfl
    rw [hr, hs]
    cases k with
    | comps => exact got_closed t6_1
    | dist => exact got_closed t6_2
    | level => exact got_closed t6_3
    | spmv => exact got_closed t6_4
    | walk => exact got_closed t6_5
    | hull => exact got_closed t6_6
  | none =>
    have hr : textRes s = noneRes := by unfold textRes; rw [hw]
    rw [hr]
    refine ⟨100, fun p hp => ?_⟩
    rw [callS_fn rfl]
    have hh := head25
    cases hq : callS ED (sumOf []) 99 (.fn 25) [] S0 with
    | none => rw [hq] at hh; cases hh
    | some q =>
      obtain ⟨r, S4⟩ := q
      rw [hq] at hh
      simp only [Option.map_some, Option.some.injEq, Prod.mk.injEq] at hh
      obtain ⟨rfl, hk⟩ := hh
      have hl := lookup_none hw hk
      simp only [fnA, ED_fn6, fi6, Tryz.f6]
      simp [vmS, lenA, indexAddrA, hq, eff_lookup, hl, zero51, unA]
      exact hp _ _ rfl
theorem text_use {cs : List Con} (h : sumOf cs 6 = textC.look) {n : Nat} {s : List UInt8} {S : St} : callS ED (sumOf cs) n (.fn 6) [.str s] S = some (textRes s, S) :=
  Con.use (c := textC) (fun (x y : List UInt8) _ _ h => by
    have h' : [AV.str x] = [AV.str y] := h
    simp only [List.cons.injEq, AV.str.injEq, and_true] at h'
    rw [h']) h (s : List UInt8) trivial rfl

/-! the reference's -/
def whereC : Con where
  f := 26
  X := List UInt8
  dom s := whichOf s = none
  enc s := [namesV, .str s]
  res _ := .ret (.int .i64 (-1))
theorem where_ok : whereC.Ok Tryz.prog ED := by
  refine Con.ok_at ED_ok ED_pers [] (by simp) (fun (s : List UInt8) _ => ⟨rfl, rfl⟩) ?_
  intro (s : List UInt8) hw
  replace hw : whichOf s = none := hw
  show ∃ n, ∀ p : FRes → St → Prop, (∀ r S', r.melt S' = .ret (.int .i64 (-1)) → p r S') → GotF (callS ED (sumOf []) n (.fn 26) [namesV, .str s] S0) p
  refine ⟨100, fun p hp => ?_⟩
  rw [callS_fn rfl]
  obtain ⟨h1, h2, h3, h4, h5, h6⟩ := whichOf_none hw
  have hlen : lenA ED 38 namesV = some (.int .i64 6) := rfl
  have hix : ∀ j, (h : j < 6) → ∃ t, indexAddrA ED 38 namesV (.int .i64 (j : Nat)) = some (.rptr [.str t]) ∧ ¬ t = s := fun j h => by
    match j, h with
    | 0, _ => exact ⟨nComps, rfl, fun e => h1 e.symm⟩
    | 1, _ => exact ⟨nDist, rfl, fun e => h2 e.symm⟩
    | 2, _ => exact ⟨nLevel, rfl, fun e => h3 e.symm⟩
    | 3, _ => exact ⟨nSpmv, rfl, fun e => h4 e.symm⟩
    | 4, _ => exact ⟨nWalk, rfl, fun e => h5 e.symm⟩
    | 5, _ => exact ⟨nHull, rfl, fun e => h6 e.symm⟩
  generalize namesV = V at *
  simp only [fnA, ED_fn26, fi26, Tryz.f26]
  simp [vmS]
  generalize hc : iter _ _ _ _ = c
  obtain ⟨e1, L1, S1, rfl, hq⟩ := loop_of hc
    (fun r L S => ∃ j sc, j + r = 6 ∧ L = vloc [V, .str s, .int .i64 0, .int .i64 (j : Nat)] sc)
    (fun e L S => e = .exit 0 ∧ ∃ j sc, L = vloc [V, .str s, .int .i64 0, j] sc)
    6 (by omega)
    ⟨0, _, by simp, rfl⟩
    (by
      rintro r L S ⟨j, sc, hjk, rfl⟩ q hq1 hq2
      by_cases hj : j < 6
      · have hw : IntKind.i64.wrap ((j : Int) + 1) = ((j : Int) + 1) := wrap_id (by omega) (by omega)
        obtain ⟨t, ht, hne⟩ := hix j hj
        have hj' : (j : Int) < 6 := by omega
        simp [vmS, vloc, hlen, hj', ht, eq_str, hne, hw]
        exact hq1 (r - 1) _ _ (by omega) ⟨j + 1, _, by omega, rfl⟩
      · have hj' : ¬ (j : Int) < 6 := by omega
        simp [vmS, vloc, hlen, hj']
        exact hq2 _ _ _ (by simp) ⟨rfl, _, _, rfl⟩)
  obtain ⟨rfl, j, sc, rfl⟩ := hq
  simp [vmS, vloc]
  exact hp _ _ rfl
theorem where_use {cs : List Con} (h : sumOf cs 26 = whereC.look) {n : Nat} {s : List UInt8} {S : St} (hw : whichOf s = none) : callS ED (sumOf cs) n (.fn 26) [namesV, .str s] S = some (.ret (.int .i64 (-1)), S) :=
  Con.use (c := whereC) (fun (x y : List UInt8) _ _ h => rfl) h (s : List UInt8) hw rfl

noncomputable def textRC : Con where
  f := 7
  X := List UInt8
  dom _ := True
  enc s := [.str s]
  res s := textRes s
theorem got_more {cs : List Con} {f : FuncId} {args : List AV} {r : FRes} (hcs : ∀ d ∈ cs, d.Ok Tryz.prog ED) (h : ∃ n, ∀ p : FRes → St → Prop, (∀ r' S', r'.melt S' = r → p r' S') → GotF (callS ED (sumOf cs) n (.fn f) args S0) p) (hp : r.pers = true) : Sound Tryz.prog ED f args r := by
  obtain ⟨n, hn⟩ := h
  obtain ⟨r', S', h1, h2⟩ := gotF_iff.1 (hn (fun r' S' => r'.melt S' = r) (fun _ _ h => h))
  rw [← h2]
  exact sound_of ED_ok ED_pers (sumOf_ok hcs) h1 (by rw [h2]; exact hp)
theorem textR_ok : textRC.Ok Tryz.prog ED := by
  refine ⟨fun (s : List UInt8) _ => ⟨rfl, textRes_pers s⟩, fun (s : List UInt8) _ => ?_⟩
  show Sound Tryz.prog ED 7 [.str s] (textRes s)
  cases hw : whichOf s with
  | some k =>
    have hs := whichOf_some hw
    have hr : textRes s = txtRes k.str := by unfold textRes; rw [hw]; rfl
    rw [hr, hs]
    refine got_more (cs := []) (by simp) ?_ rfl
    cases k with
    | comps => exact got_closed t7_1
    | dist => exact got_closed t7_2
    | level => exact got_closed t7_3
    | spmv => exact got_closed t7_4
    | walk => exact got_closed t7_5
    | hull => exact got_closed t7_6
  | none =>
    have hr : textRes s = noneRes := by unfold textRes; rw [hw]
    rw [hr]
    refine got_more (cs := [names2C, whereC]) (by simpa using ⟨names2_ok, where_ok⟩) ⟨100, fun p hp => ?_⟩ rfl
    rw [callS_fn rfl]
    have u1 := fun (n : Nat) (S : St) => closed_use (cs := [names2C, whereC]) (f := 14) (args := []) (r := .ret namesV) (by rfl) rfl (n := n) (S := S)
    have u2 := fun (n : Nat) (S : St) => where_use (cs := [names2C, whereC]) (by funext a; rfl) (n := n) (S := S) hw
    have hc1 : namesV.isCell = true := rfl
    have hc2 : namesV.known = true := rfl
    generalize namesV = V at *
    simp only [fnA, ED_fn7, fi7, Tryz.f7]
    simp [vmS, lenA, indexAddrA, u1, u2, hc1, hc2]
    exact hp _ _ rfl
theorem textR_use {cs : List Con} (h : sumOf cs 7 = textRC.look) {n : Nat} {s : List UInt8} {S : St} : callS ED (sumOf cs) n (.fn 7) [.str s] S = some (textRes s, S) :=
  Con.use (c := textRC) (fun (x y : List UInt8) _ _ h => by
    have h' : [AV.str x] = [AV.str y] := h
    simp only [List.cons.injEq, AV.str.injEq, and_true] at h'
    rw [h']) h (s : List UInt8) trivial rfl

end Go.Proofs.YtpjcmiaanjcanaaGreatDoor

namespace Go.Proofs.YtpjcmiaanjcanaaGreatDoor
open Go Go.Vm Go.Vm.T
set_option maxRecDepth 100000
set_option linter.unusedSimpArgs false
set_option linter.unusedVariables false
attribute [local simp] inFrame startLoc startVals Loc.clear blockC Loc.putO Loc.put idx evO constV Loc.get Vm.look intA unwindA resultsA resultV actA pureA storeA loadA fillE repElems TI.zeroV fieldOf fieldAddrA fieldA elemsA retE cellsOf? setCells nowhere

set_option maxHeartbeats 4000000

def errV : AV := .agg [.int .i64 0, .int .i64 0, .nils]
def typesRes (s : List UInt8) : FRes := match whichOf s with
  | some k => .ret (.tup [k.ty.enc, (Ty.seq .num).enc, .int .i64 0])
  | none => .ret (.tup [errV, errV, .int .i64 4])
theorem typesRes_pers (s : List UInt8) : (typesRes s).pers = true := by
  unfold typesRes
  split
  · simp [FRes.pers, AV.pers, AV.persL, Ty.enc_pers]
  · rfl

def St2 : St := (S0.push (.cells [.int .i64 0, .int .i64 0, .nils])).push (.cells [.int .i64 0, .int .i64 0, .nils])
theorem head25t : (callS ED (sumOf []) 99 (.fn 25) [] St2).map (fun q => (q.1, q.2.cells? 0, q.2.cells? 1, keysOf (q.2.get 2))) = some (.ret (.map 2), some [.int .i64 0, .int .i64 0, .nils], some [.int .i64 0, .int .i64 0, .nils], nms.map .str) := by kernel_rfl

theorem y8_1 : (callS ED (sumOf []) 100 (.fn 8) [.str nComps] S0).map (fun q => q.1.melt q.2) = some (typesRes nComps) := by kernel_rfl
theorem y8_2 : (callS ED (sumOf []) 100 (.fn 8) [.str nDist] S0).map (fun q => q.1.melt q.2) = some (typesRes nDist) := by kernel_rfl
theorem y8_3 : (callS ED (sumOf []) 100 (.fn 8) [.str nLevel] S0).map (fun q => q.1.melt q.2) = some (typesRes nLevel) := by kernel_rfl
theorem y8_4 : (callS ED (sumOf []) 100 (.fn 8) [.str nSpmv] S0).map (fun q => q.1.melt q.2) = some (typesRes nSpmv) := by kernel_rfl
theorem y8_5 : (callS ED (sumOf []) 100 (.fn 8) [.str nWalk] S0).map (fun q => q.1.melt q.2) = some (typesRes nWalk) := by kernel_rfl
theorem y8_6 : (callS ED (sumOf []) 100 (.fn 8) [.str nHull] S0).map (fun q => q.1.melt q.2) = some (typesRes nHull) := by kernel_rfl
theorem y9_1 : (callS ED (sumOf []) 100 (.fn 9) [.str nComps] S0).map (fun q => q.1.melt q.2) = some (typesRes nComps) := by kernel_rfl
theorem y9_2 : (callS ED (sumOf []) 100 (.fn 9) [.str nDist] S0).map (fun q => q.1.melt q.2) = some (typesRes nDist) := by kernel_rfl
theorem y9_3 : (callS ED (sumOf []) 100 (.fn 9) [.str nLevel] S0).map (fun q => q.1.melt q.2) = some (typesRes nLevel) := by kernel_rfl
theorem y9_4 : (callS ED (sumOf []) 100 (.fn 9) [.str nSpmv] S0).map (fun q => q.1.melt q.2) = some (typesRes nSpmv) := by kernel_rfl
theorem y9_5 : (callS ED (sumOf []) 100 (.fn 9) [.str nWalk] S0).map (fun q => q.1.melt q.2) = some (typesRes nWalk) := by kernel_rfl
theorem y9_6 : (callS ED (sumOf []) 100 (.fn 9) [.str nHull] S0).map (fun q => q.1.melt q.2) = some (typesRes nHull) := by kernel_rfl

def strC (f : FuncId) (res : List UInt8 → FRes) : Con where
  f := f
  X := List UInt8
  dom _ := True
  enc s := [.str s]
  res := res
theorem str_use {cs : List Con} {f : FuncId} {res : List UInt8 → FRes} (h : sumOf cs f = (strC f res).look) {n : Nat} {s : List UInt8} {S : St} : callS ED (sumOf cs) n (.fn f) [.str s] S = some (res s, S) :=
  Con.use (c := strC f res) (fun (x y : List UInt8) _ _ h => by
    have h' : [AV.str x] = [AV.str y] := h
    simp only [List.cons.injEq, AV.str.injEq, and_true] at h'
    rw [h']) h (s : List UInt8) trivial rfl
def typesC : Con := strC 8 typesRes
theorem types_ok : typesC.Ok Tryz.prog ED := by
  refine ⟨fun (s : List UInt8) _ => ⟨rfl, typesRes_pers s⟩, fun (s : List UInt8) _ => ?_⟩
  show Sound Tryz.prog ED 8 [.str s] (typesRes s)
  refine got_more (cs := []) (by simp) ?_ (typesRes_pers s)
  cases hw : whichOf s with
  | some k =>
    rw [whichOf_some hw]
    cases k with
    | comps => exact got_closed y8_1
    | dist => exact got_closed y8_2
    | level => exact got_closed y8_3
    | spmv => exact got_closed y8_4
    | walk => exact got_closed y8_5
    | hull => exact got_closed y8_6
  | none =>
    have hr : typesRes s = .ret (.tup [errV, errV, .int .i64 4]) := by unfold typesRes; rw [hw]
    rw [hr]
    refine ⟨100, fun p hp => ?_⟩
    rw [callS_fn rfl]
    have hh := head25t
    cases hq : callS ED (sumOf []) 99 (.fn 25) [] St2 with
    | none => rw [hq] at hh; cases hh
    | some q =>
      obtain ⟨r, S4⟩ := q
      rw [hq] at hh
      simp only [Option.map_some, Option.some.injEq, Prod.mk.injEq] at hh
      obtain ⟨rfl, k0, k1, hk⟩ := hh
      have hl := lookup_none hw hk
      have hb : buildA ED 32 [] = some (.agg [.int .i64 0, .int .i64 0, .nils]) := rfl
      unfold St2 at hq
      have b0 := cells_box (o := .cells [.str [], .int .i64 0, .int .i64 0, .nils, .int .i64 0, .int .i64 0, .nils, .nilf]) (o' := .cells [.str [], .int .i64 0, .int .i64 0, .nils, .int .i64 0, .int .i64 0, .nils, .nilf]) k0
      have b1 := cells_box (o := .cells [.str [], .int .i64 0, .int .i64 0, .nils, .int .i64 0, .int .i64 0, .nils, .nilf]) (o' := .cells [.str [], .int .i64 0, .int .i64 0, .nils, .int .i64 0, .int .i64 0, .nils, .nilf]) k1
      have b2 := cells_put (o := .cells [.int .i64 0, .int .i64 0, .nils]) b0 b1 (by decide)
      have b3 := cells_put_self (ds := [.int .i64 0, .int .i64 0, .nils]) b0
      have b4 := cells_put (o := .cells [.int .i64 0, .int .i64 0, .nils]) b2 b3 (by decide)
      have b5 := cells_put_self (ds := [.int .i64 0, .int .i64 0, .nils]) b2
      simp only [fnA, ED_fn8, fi8, Tryz.f8]
      simp [vmS, hq, eff_lookup, hl, zero51, unA, hb, b0, b2, b4, b5]
      exact hp _ _ rfl

/-! the reference's -/
def tnumC : Con := closedC 31 [] (.ret Ty.num.enc)
theorem tnum_ok : tnumC.Ok Tryz.prog ED := closed_ok (sound_at (n := 20) (by kernel_rfl) rfl) rfl rfl
def tbothC : Con where
  f := 30
  X := Ty × Ty
  dom _ := True
  enc x := [x.1.enc, x.2.enc]
  res x := .ret (Ty.pair x.1 x.2).enc
theorem tboth_ok : tbothC.Ok Tryz.prog ED := by
  refine Con.ok_at ED_ok ED_pers [] (by simp) (fun (x : Ty × Ty) _ => ⟨by show AV.persL [x.1.enc, x.2.enc] = true; simp [AV.persL, Ty.enc_pers], Ty.enc_pers _⟩) ?_
  rintro ⟨a, b⟩ _
  show ∃ n, ∀ p : FRes → St → Prop, (∀ r S', r.melt S' = .ret (Ty.pair a b).enc → p r S') → GotF (callS ED (sumOf []) n (.fn 30) [a.enc, b.enc] S0) p
  refine ⟨1, fun p hp => ?_⟩
  rw [callS_fn rfl]
  obtain ⟨k1, x1, e1, c1, q1⟩ := a.look
  obtain ⟨k2, x2, e2, c2, q2⟩ := b.look
  have hb2 : ∀ l, buildA ED 32 [(0, AV.int IntKind.i64 2), (2, AV.slice l .full)] = some (.agg [.int .i64 2, .int .i64 0, .slice l .full]) := fun l => rfl
  have d1 := dead_of_pers _ (Ty.enc_pers a)
  have d2 := dead_of_pers _ (Ty.enc_pers b)
  simp only [Ty.enc] at hp
  rw [e1] at d1 hp ⊢
  rw [e2] at d2 hp ⊢
  simp only [fnA, ED_fn30, fi30, Tryz.f30]
  simp [vmS, lenA, indexAddrA, hb2, c1, c2]
  refine hp _ _ ?_
  simp only [AV.dead, AV.deadL] at d1 d2
  simp [FRes.melt, AV.melt, AV.dead, AV.deadL, d1, d2]
theorem tboth_use {cs : List Con} (h : sumOf cs 30 = tbothC.look) {n : Nat} {a b : Ty} {S : St} : callS ED (sumOf cs) n (.fn 30) [a.enc, b.enc] S = some (.ret (Ty.pair a b).enc, S) :=
  Con.use (c := tbothC) (fun (x y : Ty × Ty) _ _ h => by
    have h' : [x.1.enc, x.2.enc] = [y.1.enc, y.2.enc] := h
    simp only [List.cons.injEq, and_true] at h'
    show FRes.ret (Ty.pair x.1 x.2).enc = .ret (Ty.pair y.1 y.2).enc
    rw [Ty.enc_inj h'.1, Ty.enc_inj h'.2]) h ((a, b) : Ty × Ty) trivial (by show [a.enc.dead, b.enc.dead] = [a.enc, b.enc]; rw [dead_of_pers _ (Ty.enc_pers a), dead_of_pers _ (Ty.enc_pers b)])
def tlistC : Con where
  f := 29
  X := Ty
  dom _ := True
  enc x := [x.enc]
  res x := .ret (Ty.seq x).enc
theorem tlist_ok : tlistC.Ok Tryz.prog ED := by
  refine Con.ok_at ED_ok ED_pers [] (by simp) (fun (x : Ty) _ => ⟨by show AV.persL [x.enc] = true; simp [AV.persL, Ty.enc_pers], Ty.enc_pers _⟩) ?_
  intro (a : Ty) _
  show ∃ n, ∀ p : FRes → St → Prop, (∀ r S', r.melt S' = .ret (Ty.seq a).enc → p r S') → GotF (callS ED (sumOf []) n (.fn 29) [a.enc] S0) p
  refine ⟨1, fun p hp => ?_⟩
  rw [callS_fn rfl]
  obtain ⟨k1, x1, e1, c1, q1⟩ := a.look
  have hb2 : ∀ l, buildA ED 32 [(0, AV.int IntKind.i64 4), (2, AV.slice l .full)] = some (.agg [.int .i64 4, .int .i64 0, .slice l .full]) := fun l => rfl
  have d1 := dead_of_pers _ (Ty.enc_pers a)
  simp only [Ty.enc] at hp
  rw [e1] at d1 hp ⊢
  simp only [fnA, ED_fn29, fi29, Tryz.f29]
  simp [vmS, lenA, indexAddrA, hb2, c1]
  refine hp _ _ ?_
  simp only [AV.dead, AV.deadL] at d1
  simp [FRes.melt, AV.melt, AV.dead, AV.deadL, d1]
theorem tlist_use {cs : List Con} (h : sumOf cs 29 = tlistC.look) {n : Nat} {a : Ty} {S : St} : callS ED (sumOf cs) n (.fn 29) [a.enc] S = some (.ret (Ty.seq a).enc, S) :=
  Con.use (c := tlistC) (fun (x y : Ty) _ _ h => by
    have h' : [x.enc] = [y.enc] := h
    simp only [List.cons.injEq, and_true] at h'
    rw [Ty.enc_inj h']) h (a : Ty) trivial (by show [a.enc.dead] = [a.enc]; rw [dead_of_pers _ (Ty.enc_pers a)])

def typesRC : Con := strC 9 typesRes
theorem typesR_ok : typesRC.Ok Tryz.prog ED := by
  refine ⟨fun (s : List UInt8) _ => ⟨rfl, typesRes_pers s⟩, fun (s : List UInt8) _ => ?_⟩
  show Sound Tryz.prog ED 9 [.str s] (typesRes s)
  cases hw : whichOf s with
  | some k =>
    refine got_more (cs := []) (by simp) ?_ (typesRes_pers s)
    rw [whichOf_some hw]
    cases k with
    | comps => exact got_closed y9_1
    | dist => exact got_closed y9_2
    | level => exact got_closed y9_3
    | spmv => exact got_closed y9_4
    | walk => exact got_closed y9_5
    | hull => exact got_closed y9_6
  | none =>
    have hr : typesRes s = .ret (.tup [errV, errV, .int .i64 4]) := by unfold typesRes; rw [hw]
    rw [hr]
    refine got_more (cs := [tnumC, tbothC, tlistC]) (by simpa using ⟨tnum_ok, tboth_ok, tlist_ok⟩) ⟨100, fun p hp => ?_⟩ rfl
    rw [callS_fn rfl]
    obtain ⟨h1, h2, h3, h4, h5, h6⟩ := whichOf_none hw
    have u1 := fun (n : Nat) (S : St) => closed_use (cs := [tnumC, tbothC, tlistC]) (f := 31) (args := []) (r := .ret Ty.num.enc) (by rfl) rfl (n := n) (S := S)
    have u2 := fun (n : Nat) (S : St) (a b : Ty) => tboth_use (cs := [tnumC, tbothC, tlistC]) (by funext a; rfl) (n := n) (S := S) (a := a) (b := b)
    have u3 := fun (n : Nat) (S : St) (a : Ty) => tlist_use (cs := [tnumC, tbothC, tlistC]) (by funext a; rfl) (n := n) (S := S) (a := a)
    have u2a := fun n S => u2 n S .num .num
    have u2b := fun n S => u2 n S (.seq tDuos) (.seq .num)
    have u3a := fun n S => u3 n S (.pair .num .num)
    have u3b := fun n S => u3 n S tDuos
    have u3c := fun n S => u3 n S .num
    simp only [tDuos, Ty.enc] at u1 u2a u2b u3a u3b u3c
    have hb : buildA ED 32 [] = some (.agg [.int .i64 0, .int .i64 0, .nils]) := rfl
    simp only [nComps, nDist, nLevel, nSpmv, nWalk, nHull] at h1 h2 h3 h4 h5 h6
    simp only [fnA, ED_fn9, fi9, Tryz.f9]
    simp [vmS, u1, u2a, u2b, u3a, u3b, u3c, eq_str, h1, h2, h3, h4, h5, h6, hb]
    exact hp _ _ rfl

end Go.Proofs.YtpjcmiaanjcanaaGreatDoor
