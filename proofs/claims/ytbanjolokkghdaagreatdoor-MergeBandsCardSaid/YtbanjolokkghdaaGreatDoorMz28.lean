/- Parts of the proof that follows: A run of closed code, whatever order is drawn and however much room append makes: the runner, on numbered memory of its own. No condition. | A run of closed code: how the runner's memory stands for a world's. No condition. -/
import Derived.RangeFuncLeaves
import Derived.Laws.Tables
import Derived.Test.YtbanjolokkghdaaGreatDoorMz27
set_option maxRecDepth 100000
set_option maxHeartbeats 8000000
set_option linter.unusedSimpArgs false
set_option linter.unusedVariables false
namespace Go.Proofs.YtbanjolokkghdaaGreatDoor
open Go.RowKit
inductive Tr (α : Type) where
  | nil
  | node (o : Option α) (l r : Tr α)
noncomputable def Tr.get {α : Type} (t : Tr α) : Nat → Option α :=
  Tr.rec (motive := fun _ => Nat → Option α) (fun _ => none) (fun o _ _ gl gr k => bif Nat.beq k 0 then o else bif Nat.beq (Nat.mod k 2) 1 then gl (Nat.div k 2) else gr (Nat.pred (Nat.div k 2))) t
noncomputable def Tr.set {α : Type} (n : Nat) : Tr α → Nat → Option α → Tr α :=
  Nat.rec (motive := fun _ => Tr α → Nat → Option α → Tr α) (fun t _ _ => t)
    (fun _ ih t k v => Tr.rec (motive := fun _ => Tr α)
      (bif Nat.beq k 0 then .node v .nil .nil else bif Nat.beq (Nat.mod k 2) 1 then .node none (ih .nil (Nat.div k 2) v) .nil else .node none .nil (ih .nil (Nat.pred (Nat.div k 2)) v))
      (fun o l r _ _ => bif Nat.beq k 0 then .node v l r else bif Nat.beq (Nat.mod k 2) 1 then .node o (ih l (Nat.div k 2) v) r else .node o l (ih r (Nat.pred (Nat.div k 2)) v)) t) n
/-- A block: a row of cells (behind which there may be more: op), a map's entries, a string's reader, a range's record, a block for deferred calls. -/
inductive AO where
  | cells (cs : List Value) (t : TypeId) (op : Bool)
  | map (es : List MapEntry) (clock : Nat)
  | iter (s : ByteArray) (pos : Nat)
  | loop (st : LoopState) (pend : Option Code) (t : Tr Value) (m : Nat) (ps : Array Tmp) (asg body : Code) (d : Nat)
  | dfr (open_ : Bool)
/-- The memory; the next number; below lim nothing may be written but one; hid: numbers that are not seen. -/
structure St where
  T : Tr AO
  next : Nat
  lim : Nat
  one : Nat
  hid : List (Nat × Nat)
  /-- numbers below this are package-level variables -/
  ng : Nat
structure Fr where
  t : Tr Value
  m : Nat
  marks : List Nat
  round : Option Nat
def hidden : List (Nat × Nat) → Nat → Bool
  | [], _ => false
  | (a, b) :: r, k => (Nat.ble a k && Nat.blt k b) || hidden r k
def big : Nat := 1000000
noncomputable def St.get (s : St) (k : Nat) : Option AO := bif hidden s.hid k then none else s.T.get k
noncomputable def St.new (s : St) (o : AO) : Option (Nat × St) := bif Nat.blt s.next big then some (s.next, { s with T := s.T.set 24 s.next (some o), next := Nat.succ s.next }) else none
noncomputable def St.put (s : St) (k : Nat) (o : Option AO) : Option St := bif (Nat.ble s.lim k || Nat.beq k s.one) && Nat.blt k s.next then some { s with T := s.T.set 24 k o } else none
noncomputable def Fr.get (f : Fr) (k : Nat) : Value := (f.t.get k).getD undef
noncomputable def Fr.put (f : Fr) (d : Option Tmp) (v : Value) : Option Fr := match d with
  | none => some f
  | some d => bif Nat.blt d f.m then some { f with t := f.t.set 24 d (some v) } else none
mutual
/-- no address in it -/
def pl : Value → Bool
  | .bool _ | .int _ _ | .string _ | .pointer none | .slice none _ _ | .map none | .nilFunc | .nilIface => true
  | .agg ⟨cs⟩ => pls cs
  | .tuple ⟨cs⟩ => pls cs
  | .func (.func _) ⟨[]⟩ ⟨[]⟩ => true
  | _ => false
def pls : List Value → Bool
  | [] => true
  | v :: r => pl v && pls r
end
def okOpd (ng : Nat) : Operand → Bool
  | .tmp _ => true
  | .const v => pl v
  | .func _ => true
  | .global g => Nat.blt g ng
noncomputable def Fr.ev (f : Fr) : Operand → Value
  | .tmp t => f.get t
  | .const v => v
  | .global g => .pointer (some ⟨g, 0, none⟩)
  | .func g => .func (.func g) #[] #[]
def pv {α : Type} (P : Program) : Sem α → Option α
  | .pure a => some a
  | .program k => pv P (k P)
  | .mark _ k => pv P k
  | _ => none
def ival : Value → Option Nat
  | .int _ n => match n with | .ofNat k => some k | _ => none
  | _ => none
def takeN : Nat → List Value → List Value
  | 0, _ => []
  | _, [] => []
  | n + 1, x :: l => x :: takeN n l
def dropN : Nat → List Value → List Value
  | 0, l => l
  | _, [] => []
  | n + 1, _ :: l => dropN n l
def aggB (P : Program) (t : TypeId) : Option Bool := match P.underlying t with
  | some (.struct _) => some true
  | some (.array _ _) => some true
  | some _ => some false
  | none => none
def elemB (P : Program) (t : TypeId) : Option TypeId := match P.underlying t with
  | some (.slice e) => some e
  | _ => none
def szB (P : Program) (t : TypeId) : Option Nat := (P.info? t).map (·.size)
def zeroB (P : Program) (t : TypeId) : Option Value := ((P.info? t).bind (·.zero)).bind fun z => bif pl z then some z else none
/-- n cells at a place -/
noncomputable def rd (s : St) (k off n : Nat) : Option (List Value) := match s.get k with
  | some (.cells cs _ _) => bif Nat.ble (Nat.add off n) cs.length then some (takeN n (dropN off cs)) else none
  | _ => none
def ones : List Value → Bool
  | [] => true
  | v :: l => v.oneCell' && ones l
noncomputable def wr (s : St) (k off : Nat) (vs : List Value) : Option St := match s.get k with
  | some (.cells cs t op) => bif Nat.ble (Nat.add off vs.length) cs.length && ones vs then s.put k (some (.cells (takeN off cs ++ (vs ++ dropN (Nat.add off vs.length) cs)) t op)) else none
  | _ => none
noncomputable def ld (P : Program) (s : St) (t : TypeId) (k off : Nat) : Option Value := match aggB P t, szB P t with
  | some true, some n => (rd s k off n).map fun l => .agg l.toArray
  | some false, some _ => match rd s k off 1 with | some (v :: _) => some v | _ => none
  | _, _ => none
def reps : Nat → List Value → List Value
  | 0, _ => []
  | n + 1, l => l ++ reps n l
def bnd (s : Option Value) (d : Nat) : Option Nat := match s with | none => some d | some v => ival v
/-- a part of a slice -/
def slB (sz : Nat) (a : Option Addr) (len cap : Nat) (lo hi mx : Option Value) : Option Value := match bnd mx cap, bnd hi len, bnd lo 0 with
  | some m, some h, some l => bif Nat.ble m cap && Nat.ble h m && Nat.ble l h && (mx.isNone || hi.isSome) then
      (match a with
       | none => some (.slice none (Nat.sub h l) (Nat.sub m l))
       | some a => match mx, a.spot with
         | none, some _ => bif Nat.beq m l then none else some (.slice (some ⟨a.block, Nat.add a.off (Nat.mul l sz), a.spot⟩) (Nat.sub h l) (Nat.sub m l))
         | _, _ => some (.slice (some (bif Nat.beq m l then ⟨a.block, a.off, none⟩ else ⟨a.block, Nat.add a.off (Nat.mul l sz), none⟩)) (Nat.sub h l) (Nat.sub m l)))
    else none
  | _, _, _ => none
def mfind (k : Value) : List MapEntry → Option (Option Value)
  | [] => some none
  | e :: es => match e.key, k with
    | .int a x, .int b y => bif decide (a = b) then (bif decide (y = x) then some (some e.val) else mfind k es) else none
    | _, _ => none
structure Rec where
  code : Code → Fr → St → Option (Exit × Fr × St)
  call : FuncId → List Value → St → Option (Value × St)
  yield : Nat → List Value → St → Option (Value × St)
  /-- code within a scope: a jump to a label of it goes on behind the label -/
  back : Code → Code → Fr → St → Option (Exit × Fr × St)
noncomputable def callV (R : Rec) (f : Value) (args : List Value) (st : St) : Option (Value × St) := match f with
  | .func (.func g) first cap => R.call g (first.toList ++ (args ++ cap.toList)) st
  | .func (.yield l) ⟨[]⟩ ⟨[]⟩ => R.yield l args st
  | _ => none
noncomputable def appB (P : Program) (st : St) (t : TypeId) (s x : Value) : Option (Value × St) := match elemB P t with
  | none => none
  | some e => match P.info? e, zeroB P e with
    | some i, some z => bif Nat.beq z.cells.size i.size then match s, x with
      | .slice a len cap, .slice (some ⟨kb, ob, _⟩) n _ =>
        match rd st kb ob (Nat.mul n i.size) with
        | none => none
        | some src => bif Nat.ble (Nat.add len n) cap then
            match a with
            | some ⟨k, 0, sp⟩ => match st.get k with
              | some (.cells _ t' _) => bif Nat.beq t' e then (wr st k (Nat.mul len i.size) src).map fun st => (.slice (some ⟨k, 0, sp⟩) (Nat.add len n) cap, st) else none
              | _ => none
            | _ => none
          else bif Nat.ble (Nat.mul (Nat.mul 8 (Nat.add (Nat.add len n) 64)) (Nat.add i.bytes 1)) 100000000 && ones src then
            match a with
            | none => bif Nat.beq len 0 && Nat.beq cap 0 then (bif Nat.blt 0 n then (st.new (.cells src e true)).map fun r => (.slice (some ⟨r.1, 0, some 0⟩) n n, r.2) else none) else none
            | some ⟨k, off, sp⟩ => match rd st k off (Nat.mul len i.size) with
              | none => none
              | some old => match sp with
                | none => (st.new (.cells (old ++ src) e true)).map fun r => (.slice (some ⟨r.1, 0, some 0⟩) (Nat.add len n) (Nat.add len n), r.2)
                | some _ => match st.get k, off with
                  | some (.cells cs t' true), 0 => bif Nat.beq t' e && Nat.beq cs.length (Nat.mul cap i.size) then
                      match st.put k none with
                      | none => none
                      | some st => (st.new (.cells (old ++ src) e true)).map fun r => (.slice (some ⟨r.1, 0, some 0⟩) (Nat.add len n) (Nat.add len n), r.2)
                    else none
                  | _, _ => none
          else none
      | .slice a len cap, .slice none n _ => bif Nat.beq n 0 && Nat.ble len cap then some (.slice a len cap, st) else none
      | _, _ => none
      else none
    | _, _ => none
/-- n zeros behind a slice that has no room for them (append of a make) -/
noncomputable def appZ (P : Program) (st : St) (t u : TypeId) (s : Value) (n : Nat) : Option (Value × St) := match P.underlying u with
  | some (.int _) => match elemB P t with
    | none => none
    | some e => match P.info? e, zeroB P e with
      | some i, some z => bif Nat.beq z.cells.size i.size && (Nat.blt 0 n && (Nat.blt 0 i.size && ones z.cells.toList)) then
          match s with
          | .slice none 0 0 => bif Nat.ble (Nat.mul (Nat.mul 8 (Nat.add n 64)) (Nat.add i.bytes 1)) 100000000 then (st.new (.cells (reps n z.cells.toList) e true)).map fun r => (.slice (some ⟨r.1, 0, some 0⟩) n n, r.2) else none
          | .slice (some ⟨k, off, none⟩) len cap => bif Nat.blt cap (Nat.add len n) && Nat.ble (Nat.mul (Nat.mul 8 (Nat.add (Nat.add len n) 64)) (Nat.add i.bytes 1)) 100000000 then
              match rd st k off (Nat.mul len i.size) with
              | none => none
              | some old => (st.new (.cells (old ++ reps n z.cells.toList) e true)).map fun r => (.slice (some ⟨r.1, 0, some 0⟩) (Nat.add len n) (Nat.add len n), r.2)
            else none
          | _ => none
        else none
      | _, _ => none
  | _ => none
def nilB (P : Program) (t : TypeId) (x y : Value) : Bool := match P.underlying t, x, y with
  | some (.slice _), .slice none _ _, .slice (some _) _ _ | some (.slice _), .slice (some _) _ _, .slice none _ _ | some (.pointer _), .pointer none, .pointer (some _) | some (.pointer _), .pointer (some _), .pointer none | some (.func _ _ _), .nilFunc, .func _ _ _ | some (.func _ _ _), .func _ _ _, .nilFunc => true
  | _, _, _ => false
def eqNil (P : Program) (t : TypeId) (op : BinOp) (x y : Value) : Option Value := bif nilB P t x y then (match op with | .eql => some (.bool false) | .neq => some (.bool true) | _ => none) else none
def pvV (P : Program) (ρ : Operand → Value) (o : Oper) : Option Value := match pv P (execOp ρ o) with
  | some (.value v) => bif pl v then some v else none
  | _ => none
/-- an operation that looks at no memory -/
def pureK (o : Oper) : Bool := match o.op with
  | .move _ | .assign _ | .pick _ _ _ | .extract _ _ | .field _ _ _ | .index _ _ _ | .build _ _ | .makeFunc _ _ _ | .nilCheck _ | .binOp _ _ _ _ _ | .unOp _ _ _ | .convert _ _ _ | .fieldAddr _ _ _ | .indexAddr _ _ _ | .slice _ _ _ _ _ => true
  | _ => false
def partB (P : Program) (t : TypeId) (cs : Array Value) (off : Nat) : Option Value := match aggB P t, szB P t with
  | some true, some n => some (.agg (cs.extract off (off + n)))
  | some false, some _ => cs[off]?
  | _, _ => none
def execP (P : Program) (ρ : Operand → Value) (o : Oper) : Option Value := match o.op with
  | .move x | .assign x => some (ρ x)
  | .pick c a b => match ρ c with | .bool t => some (bif t then ρ a else ρ b) | _ => none
  | .extract x i => match ρ x with | .tuple vs => vs[i]? | _ => none
  | .field t x f => match P.underlying t, ρ x with
    | some (.struct fs), .agg cs => match fs[f]? with | some fd => partB P fd.type cs fd.offset | none => none
    | _, _ => none
  | .index t x i => bif pl (ρ x) && pl (ρ i) then pvV P ρ o else match P.underlying t, ρ x, ival (ρ i) with
    | some (.array n e), .agg cs, some k => match szB P e with | some sz => bif Nat.blt k n then partB P e cs (k * sz) else none | none => none
    | _, _, _ => none
  | .build t parts => bif (zeroB P t).isSome then (P.built t (parts.toList.map fun p => (p.1, ρ p.2))).map .agg else none
  | .makeFunc (.func g) first cap => some (.func (.func g) (first.map ρ) (cap.map ρ))
  | .nilCheck x => match ρ x with
    | .pointer (some a) => some (.pointer (some a))
    | .func (.func g) a b => some (.func (.func g) a b)
    | .func (.yield g) a b => some (.func (.yield g) a b)
    | _ => none
  | .binOp op t x y _ => match eqNil P t op (ρ x) (ρ y) with
    | some v => some v
    | none => bif pl (ρ x) && pl (ρ y) then pvV P ρ o else none
  | .unOp _ _ x | .convert _ _ x => bif pl (ρ x) then pvV P ρ o else none
  | .fieldAddr s x f => match ρ x, P.underlying s with
    | .pointer (some ⟨k, off, none⟩), some (.struct fs) => match fs[f]? with
      | some fd => match szB P fd.type with | some (.succ _) => some (.pointer (some ⟨k, Nat.add off fd.offset, none⟩)) | _ => none
      | none => none
    | _, _ => none
  | .indexAddr t x i => match P.underlying t, ρ x, ival (ρ i) with
    | some (.array len e), .pointer (some ⟨k, off, none⟩), some n => match szB P e with | some sz => bif Nat.blt n len then some (.pointer (some ⟨k, Nat.add off (Nat.mul n sz), none⟩)) else none | none => none
    | some (.slice e), .slice (some ⟨k, off, _⟩) len _, some n => match szB P e with | some sz => bif Nat.blt n len then some (.pointer (some ⟨k, Nat.add off (Nat.mul n sz), none⟩)) else none | none => none
    | _, _, _ => none
  | .slice t x lo hi mx => match P.underlying t, ρ x with
    | some (.slice e), .slice a len cap => match szB P e with | some sz => slB sz a len cap (lo.map ρ) (hi.map ρ) (mx.map ρ) | none => none
    | some .string, .string _ => bif pl (ρ x) && ((lo.toList ++ hi.toList ++ mx.toList).all fun y => pl (ρ y)) then pvV P ρ o else none
    | _, _ => none
  | _ => none
noncomputable def allPl (l : List Value) : Bool := pls l
noncomputable def newC (s : St) (cs : List Value) (t : TypeId) : Option (Value × St) := bif ones cs then (s.new (.cells cs t false)).map fun r => (.pointer (some ⟨r.1, 0, none⟩), r.2) else none
def pvp (P : Program) (x : Sem Value) : Option Value := match pv P x with | some v => bif pl v then some v else none | none => none
noncomputable def bi (P : Program) (b : Builtin) (tys : List TypeId) (type : TypeId) (args : List Value) (st : St) : Option (Value × St) := match b, tys, args with
  | .len, t :: _, [.slice _ n _] => (elemB P t).map fun _ => (.int .i64 n, st)
  | .len, _, [.string s] => (pvp P (Builtin.len_ tys.toArray type #[.string s])).map fun v => (v, st)
  | .cap, t :: _, [.slice none _ n] => (elemB P t).map fun _ => (.int .i64 n, st)
  | .cap, t :: _, [.slice (some ⟨_, _, none⟩) _ n] => (elemB P t).map fun _ => (.int .i64 n, st)
  | .append, [t, u], [s, x] => bif Nat.beq t u then appB P st t s x else (match x with | .int _ (.ofNat n) => appZ P st t u s n | _ => none)
  | .copy, [t, u], [.slice a n _, .slice b m _] => bif Nat.beq t u then (match (elemB P t).bind (szB P) with
    | none => none
    | some sz => bif Nat.beq (Nat.min m n) 0 then some (.int .i64 0, st) else match a, b with
      | some ⟨ka, oa, _⟩, some ⟨kb, ob, _⟩ => match rd st kb ob (Nat.mul (Nat.min m n) sz) with
        | none => none
        | some src => (wr st ka oa src).map fun st => (.int .i64 (Nat.min m n), st)
      | _, _ => none) else none
  | .clear, t :: _, [.slice a n _] => bif Nat.beq n 0 then (elemB P t).map fun _ => (.tuple #[], st) else match (elemB P t).bind (zeroB P), a with
    | some z, some ⟨k, off, _⟩ => (wr st k off (reps n z.cells.toList)).map fun st => (.tuple #[], st)
    | _, _ => none
  | .max, _, l => bif pls l then (pvp P (Builtin.max_ tys.toArray type l.toArray)).map fun v => (v, st) else none
  | .min, _, l => bif pls l then (pvp P (Builtin.min_ tys.toArray type l.toArray)).map fun v => (v, st) else none
  | _, _, _ => none
/-- an operation that looks at memory, or calls -/
noncomputable def execH (P : Program) (R : Rec) (ρ : Operand → Value) (o : Oper) (st : St) : Option (Value × St) := match o.op with
  | .alloc e => match zeroB P e with | some z => newC st z.cells.toList e | none => none
  | .box e x => newC st (ρ x).cells.toList e
  | .buildSlice t len parts => match elemB P t with
    | none => none
    | some e => match szB P e, zeroB P e with
      | some sz, some z => bif Nat.beq sz 0 || Nat.blt 10000 (len * sz) || !(Nat.beq z.cells.size sz) then none else
        match Instr.fill (fun i => some (i * sz, sz)) (reps len z.cells.toList).toArray (parts.toList.map fun p => (p.1, ρ p.2)) with
        | none => none
        | some cs => bif ones cs.toList then (st.new (.cells cs.toList e false)).map fun r => (.slice (some ⟨r.1, 0, none⟩) len len, r.2) else none
      | _, _ => none
  | .load t a => match ρ a with
    | .pointer (some ⟨k, off, none⟩) => (ld P st t k off).map fun v => (v, st)
    | _ => none
  | .store t a x => match ρ a, szB P t with
    | .pointer (some ⟨k, off, none⟩), some n => bif Nat.beq (ρ x).cells.size n then (wr st k off (ρ x).cells.toList).map fun st => (undef, st) else none
    | _, _ => none
  | .makeSlice t l c => match elemB P t with
    | none => none
    | some e => match P.info? e, zeroB P e, ρ l, ρ c with
      | some i, some z, .int _ (.ofNat l), .int _ (.ofNat c) => bif Nat.ble l c && Nat.ble (Nat.mul c (Nat.add (Nat.add i.size i.bytes) 1)) 10000000 && Nat.beq z.cells.size i.size && ones z.cells.toList then
          (st.new (.cells (reps c z.cells.toList) e false)).map fun r => (.slice (some ⟨r.1, 0, none⟩) l c, r.2) else none
      | _, _, _, _ => none
  | .makeMap _ none => (st.new (.map [] 0)).map fun r => (.map (some r.1), r.2)
  | .insert t m k v => match ρ m, P.underlying t with
    | .map (some r), some (.map kt _) => match P.underlying kt, ρ k, st.get r with
      | some (.int _), .int a x, some (.map es c) => match mfind (.int a x) es with
        | some none => (st.put r (some (.map (es ++ [{ key := .int a x, val := ρ v, born := c }]) (c + 1)))).map fun st => (undef, st)
        | _ => none
      | _, _, _ => none
    | _, _ => none
  | .lookup t m k true => match ρ m, P.underlying t with
    | .map (some r), some (.map kt e) => match P.underlying kt, ρ k, st.get r with
      | some (.int _), .int a x, some (.map es _) => match mfind (.int a x) es, zeroB P e with
        | some none, some z => some (.tuple #[z, .bool false], st)
        | some (some v), some _ => some (.tuple #[v, .bool true], st)
        | _, _ => none
      | _, _, _ => none
    | _, _ => none
  | .range t x => match ρ x, P.underlying t with
    | .string s, some .string => (st.new (.iter s 0)).map fun r => (.pointer (some ⟨r.1, 0, none⟩), r.2)
    | _, _ => none
  | .next x true => match ρ x with
    | .pointer (some ⟨k, 0, none⟩) => match st.get k with
      | some (.iter s pos) => bif Nat.blt pos s.size then
          (st.put k (some (.iter s (pos + (Utf8.decode s pos).2)))).map fun st => (.tuple #[.bool true, .int .i64 pos, .int .i32 (Utf8.decode s pos).1], st)
        else some (.tuple #[.bool false], st)
      | _ => none
    | _ => none
  | .call c => match c.callee with
    | .builtin b => bi P b c.argTypes.toList o.type (c.args.toList.map ρ) st
    | .value f => callV R (ρ f) (c.args.toList.map ρ) st
    | _ => none
  | _ => none
noncomputable def exec (P : Program) (R : Rec) (ρ : Operand → Value) (o : Oper) (st : St) : Option (Value × St) := bif pureK o then (execP P ρ o).map fun v => (v, st) else execH P R ρ o st
/-- is the guard met? -/
noncomputable def guardB (ops : Array Oper) (f : Fr) (o : Oper) : Bool := match o.guard with
  | none => true
  | some (k, want) => match wrOf ops k with
    | some d => match f.get d with | .bool b => bif b then want else !want | _ => false
    | none => false
noncomputable def seqB (P : Program) (R : Rec) (ops : Array Oper) : List Oper → Fr → St → Option (Fr × St)
  | [], fr, st => some (fr, st)
  | o :: l, fr, st => bif guardB ops fr o then
      match exec P R fr.ev o st with
      | some r => match fr.put o.dst r.1 with | some fr => seqB P R ops l fr r.2 | none => none
      | none => none
    else match fr.put o.dst undef with | some fr => seqB P R ops l fr st | none => none
/-- what stands ahead of each operation, as a mask -/
def maskOf (A : List Nat) (es : List Edge) : Nat := es.foldr (fun e m => bif Region.binds .any e then Nat.lor (Nat.lor m (Nat.shiftLeft 1 e.on)) (A.getD e.on 0) else m) 0
def ancs : List Oper → List Nat → List Nat
  | [], A => A
  | o :: l, A => ancs l (A ++ [maskOf A o.after.toList])
def bitL (A : List Nat) (i k : Nat) : Bool := Nat.testBit (A.getD i 0) k
def aheadB (A : List Nat) (i k : Nat) : Bool := bif Nat.blt k i then bitL A i k else bitL A k i
/-- an operation that each other that looks at memory stands ahead of, or behind -/
def wrB (ops : Array Oper) (A : List Nat) (i : Nat) : Bool := (List.range ops.size).all fun k => Nat.beq k i || aheadB A i k || (match ops[k]? with | some o => pureK o | none => true)
def wrs (ops : Array Oper) (A : List Nat) : List Bool := (List.range ops.size).map fun i => wrB ops A i
def readsA (ops : Array Oper) (A : List Nat) : Bool := (List.range ops.size).all fun i => match ops[i]? with
  | some o => (o.looksAt ops).all fun s => (List.range ops.size).all fun j => (match wrOf ops j with | some d => !(Nat.beq d s) | none => true) || (bif Nat.beq i j then Nat.beq 0 0 else aheadB A i j)
  | none => true
def okOps (ng : Nat) (ops : Array Oper) : Bool := ops.toList.all fun o => o.op.operands.toList.all (okOpd ng)
def okR (ng : Nat) (ops : Array Oper) : Bool := backB ops && uniqB ops ops.size && readsA ops (ancs ops.toList []) && okOps ng ops
def wrIx (ops : Array Oper) (s : Tmp) : Option Nat := (List.range ops.size).find? fun j => match wrOf ops j with | some d => Nat.beq d s | none => false
/-- the block of a place whose block is known ahead of the region -/
noncomputable def baseB (ops : Array Oper) (fr : Fr) : Nat → Tmp → Option Nat
  | 0, _ => none
  | n + 1, s => match wrIx ops s with
    | none => match fr.get s with | .pointer (some ⟨b, _, none⟩) => some b | _ => none
    | some j => match ops[j]? with
      | some o => match o.op with
        | .move (.tmp x) => baseB ops fr n x
        | .nilCheck (.tmp x) => baseB ops fr n x
        | .fieldAddr _ (.tmp x) _ => baseB ops fr n x
        | _ => none
      | none => none
/-- stores into blocks that are known ahead of the region -/
noncomputable def psts (ops : Array Oper) (W : List Bool) (fr : Fr) : List Nat → List (Nat × Nat)
  | [] => []
  | i :: l => match (bif W.getD i false then none else match ops[i]? with | some o => (match o.op with | .store _ (.tmp s) _ => baseB ops fr 10 s | _ => none) | none => none) with
    | some b => (i, b) :: psts ops W fr l
    | none => psts ops W fr l
def userCall (o : Oper) : Bool := match o.op with | .call c => (match c.callee with | .builtin _ => false | _ => true) | _ => false
def mayPut (o : Oper) : Bool := match o.op with | .store .. => true | .call c => (match c.callee with | .builtin .append => true | .builtin .copy => true | _ => false) | _ => false
/-- the block that an operation writes, by a run in the text's order -/
noncomputable def putAt (ρ : Operand → Value) (o : Oper) : Option Nat := match o.op with
  | .store _ x _ => match ρ x with | .pointer (some ⟨b, _, none⟩) => some b | _ => none
  | .call c => match c.callee with
    | .builtin .append | .builtin .copy => match c.args.toList.map ρ with | .slice (some ⟨b, _, _⟩) _ _ :: _ => some b | _ => none
    | _ => none
  | _ => none
noncomputable def pass1 (P : Program) (R : Rec) (ops : Array Oper) (W : List Bool) (nx : Nat) : List Oper → Nat → Fr → St → List (Nat × Nat)
  | [], _, _, _ => []
  | o :: l, i, fr, st => bif guardB ops fr o then
      match exec P R fr.ev o st with
      | some r => match fr.put o.dst r.1 with
        | some fr' => match (bif W.getD i false then none else putAt fr.ev o) with
          | some b => bif Nat.blt b nx then (i, b) :: pass1 P R ops W nx l (Nat.succ i) fr' r.2 else pass1 P R ops W nx l (Nat.succ i) fr' r.2
          | none => pass1 P R ops W nx l (Nat.succ i) fr' r.2
        | none => []
      | none => []
    else match fr.put o.dst undef with | some fr => pass1 P R ops W nx l (Nat.succ i) fr st | none => []
/-- which operations write, and into what: found by any way, for it is looked at again -/
noncomputable def putsB (P : Program) (R : Rec) (ops : Array Oper) (W : List Bool) (fr : Fr) (st : St) : List (Nat × Nat) :=
  bif (List.range ops.size).any fun i => !(W.getD i false) && (match ops[i]? with | some o => mayPut o | none => false) then
    (bif ops.toList.any userCall then psts ops W fr (List.range ops.size) else pass1 P R ops W st.next ops.toList 0 fr st) else []
/-- what operation i does not see: what was made by those that stand neither ahead nor behind, and the blocks into which such store -/
def hidOf (A : List Nat) (i : Nat) (rs : List (Nat × Nat × Nat)) (ps : List (Nat × Nat)) : List (Nat × Nat) :=
  (rs.filterMap fun r => bif bitL A i r.1 then none else some (r.2.1, r.2.2)) ++ (ps.filterMap fun p => bif Nat.beq p.1 i || aheadB A i p.1 then none else some (p.2, Nat.succ p.2))
def oneOf (i : Nat) (ps : List (Nat × Nat)) : Nat := match ps with
  | [] => big
  | (k, b) :: l => bif Nat.beq k i then b else oneOf i l
/-- a region that draws its order; rs: what each made -/
noncomputable def anyB (P : Program) (R : Rec) (ops : Array Oper) (A : List Nat) (W : List Bool) (ps : List (Nat × Nat)) : List Oper → Nat → List (Nat × Nat × Nat) → Fr → St → Option (Fr × St)
  | [], _, _, fr, st => some (fr, st)
  | o :: l, i, rs, fr, st =>
    bif guardB ops fr o then
      bif pureK o then match execP P fr.ev o with
        | some v => match fr.put o.dst v with | some fr => anyB P R ops A W ps l (Nat.succ i) rs fr st | none => none
        | none => none
      else match execH P R fr.ev o (bif W.getD i false then st else { st with lim := st.next, one := oneOf i ps, hid := hidOf A i rs ps ++ st.hid }) with
        | some r => match fr.put o.dst r.1 with | some fr => anyB P R ops A W ps l (Nat.succ i) ((i, st.next, r.2.next) :: rs) fr { r.2 with lim := st.lim, one := st.one, hid := st.hid } | none => none
        | none => none
    else match fr.put o.dst undef with | some fr => anyB P R ops A W ps l (Nat.succ i) rs fr st | none => none
/-- these blocks may be written, and are apart -/
def apartB (lim one next : Nat) : List (Nat × Nat) → Bool
  | [] => true
  | (_, b) :: l => (Nat.ble lim b || Nat.beq b one) && Nat.blt b next && (l.all fun q => !(Nat.beq q.2 b)) && apartB lim one next l
noncomputable def regB (P : Program) (R : Rec) (ops : Array Oper) (draw : Bool) (fr : Fr) (st : St) : Option (Fr × St) :=
  bif draw then (bif okR st.ng ops then (match putsB P R ops (wrs ops (ancs ops.toList [])) fr st with | ps => bif apartB st.lim st.one st.next ps then anyB P R ops (ancs ops.toList []) (wrs ops (ancs ops.toList [])) ps ops.toList 0 [] fr st else none) else none) else (bif okOps st.ng ops then seqB P R ops ops.toList fr st else none)
def entersB (P : Program) : Value → Bool
  | .func (.func g) _ _ => match P.funcs[g]? with | some fn => fn.body.isSome && !(fn.name == "runtime.NumGoroutine") | none => false
  | _ => false
noncomputable def stepCode (P : Program) (R : Rec) (c : Code) (fr : Fr) (st : St) : Option (Exit × Fr × St) := match c with
  | .skip => some (.normal, fr, st)
  | .label _ => some (.normal, fr, st)
  | .region _ ops draw => (regB P R ops draw fr st).map fun r => (.normal, r.1, r.2)
  | .seq a b => match R.code a fr st with
    | some (.normal, fr, st) => R.code b fr st
    | r => r
  | .cond c a b => bif okOpd st.ng c then (match fr.ev c with | .bool t => bif t then R.code a fr st else R.code b fr st | _ => none) else none
  | .block id b => match R.code b fr st with
    | some (.exit k, fr, st) => bif Nat.beq k id then some (.normal, fr, st) else some (.exit k, fr, st)
    | r => r
  | .loop b => match R.code b fr st with
    | some (.normal, fr, st) => R.code c fr st
    | r => r
  | .exit id => some (.exit id, fr, st)
  | .goto l => some (.goto l, fr, st)
  | .ret => some (.ret, fr, st)
  | .scope b => match fr.round with | none => R.back b b fr st | some _ => none
  | .rangeFunc f ps asg body => bif okOpd st.ng f && entersB P (fr.ev f) then
      match (show Option (Nat × List Nat × St) from match fr.round with
        | some l => (match st.get l with | some (.loop _ _ _ _ _ _ _ d) => some (d, ([] : List Nat), st) | _ => none)
        | none => (st.new (.dfr true)).map fun r => (r.1, [r.1], r.2)) with
      | none => none
      | some (d, mk, st) => match st.new (.loop .ready none fr.t fr.m ps asg body d) with
        | none => none
        | some (l, st) => match callV R (fr.ev f) [.func (.yield l) #[] #[]] st with
          | none => none
          | some (_, st) => match st.get l with
            | some (.loop s pend t m ps asg body d) => match s with
              | .busy => none
              | _ => match st.put l (some (.loop .exhausted pend t m ps asg body d)) with
                | none => none
                | some st => match pend with
                  | none => some (.normal, { fr with marks := mk ++ fr.marks }, st)
                  | some .ret => some (.ret, { fr with marks := mk ++ fr.marks }, st)
                  | some (.exit k) => some (.exit k, { fr with marks := mk ++ fr.marks }, st)
                  | some _ => none
            | _ => none
    else none
  | .refuse _ => none
noncomputable def putAll : List Value → Nat → Tr Value → Tr Value
  | [], _, t => t
  | v :: l, i, t => putAll l (Nat.succ i) (t.set 24 i (some v))
noncomputable def putPar (m : Nat) : List (Tmp × Value) → Tr Value → Option (Tr Value)
  | [], t => some t
  | (d, v) :: l, t => bif Nat.blt d m then putPar m l (t.set 24 d (some v)) else none
noncomputable def takeMarks : List Nat → St → Option St
  | [], st => some st
  | d :: l, st => match st.get d with
    | some (.dfr true) => match st.put d (some (.dfr false)) with | some st => takeMarks l st | none => none
    | _ => none
noncomputable def resB (P : Program) (st : St) (fr : Fr) : List ResultVar → Option (List Value)
  | [] => some []
  | .tmp t :: l => match resB P st fr l with | some vs => some (fr.get t :: vs) | none => none
  | .cell a t :: l => match fr.get a with
    | .pointer (some ⟨k, off, none⟩) => match ld P st t k off, resB P st fr l with | some v, some vs => some (v :: vs) | _, _ => none
    | _ => none
/-- what is known of some functions without a walk -/
abbrev Orc := FuncId → List Value → St → Option (Value × St)
noncomputable def stepCall (P : Program) (O : Orc) (R : Rec) (f : FuncId) (args : List Value) (st : St) : Option (Value × St) := match O f args st with
 | some r => some r
 | none => match P.funcs[f]? with
  | none => none
  | some fn => bif fn.name == "runtime.NumGoroutine" then none else match fn.body with
    | none => bif pls args then (match pv P (callFunc f args.toArray) with | some (.value v) => bif pl v then some (v, st) else none | _ => none) else none
    | some c => bif Nat.ble args.length fn.ntmps && Nat.ble fn.ntmps big then
      match R.code c ⟨putAll args 0 .nil, fn.ntmps, [], none⟩ st with
      | some (e, fr, st) => match e with
        | .normal | .ret => match takeMarks fr.marks st with
          | none => none
          | some st => match resB P st fr fn.results.toList with
            | some [v] => some (v, st)
            | some vs => some (.tuple vs.toArray, st)
            | none => none
        | _ => none
      | none => none else none
noncomputable def stepYield (P : Program) (R : Rec) (l : Nat) (args : List Value) (st : St) : Option (Value × St) := match st.get l with
  | some (.loop .ready pend t m ps asg body d) => bif Nat.beq args.length ps.size then match putPar m (ps.toList.zip args) t with
    | none => none
    | some t' => match R.code asg ⟨t', m, [], some l⟩ st with
      | some (.normal, fr, st) => match st.get l with
        | some (.loop .ready pend t m ps asg body' d) => match st.put l (some (.loop .busy pend t m ps asg body' d)) with
          | none => none
          | some st => match R.code body fr st with
            | none => none
            | some (e, _, st) => match st.get l, (match e with | .normal => some none | .ret => some (some Code.ret) | .exit k => some (some (Code.exit k)) | _ => none) with
              | some (.loop _ _ t m ps asg body d), some jump => (st.put l (some (.loop (bif Option.isNone jump then .ready else .done) jump t m ps asg body d))).map fun st => (.bool (Option.isNone jump), st)
              | _, _ => none
        | _ => none
      | _ => none
    else none
  | _ => none
noncomputable def stepBack (R : Rec) (b c : Code) (fr : Fr) (st : St) : Option (Exit × Fr × St) := match R.code c fr st with
  | some (.goto l, fr, st) => (match findLabel b l with
    | some rest => R.back b rest fr st
    | none => some (.goto l, fr, st))
  | r => r
noncomputable def ev (P : Program) (O : Orc) (n : Nat) : Rec :=
  Nat.rec (motive := fun _ => Rec) ⟨fun _ _ _ => none, fun _ _ _ => none, fun _ _ _ => none, fun _ _ _ _ => none⟩ (fun _ R => ⟨stepCode P R, stepCall P O R, stepYield P R, stepBack R⟩) n
noncomputable def runB (P : Program) (O : Orc) (s : St) (f : FuncId) : Bool := match (ev P O 1000000).call f [] s with
  | some (.bool true, _) => true
  | _ => false
theorem Tr.get_nil {α : Type} (k : Nat) : (Tr.nil : Tr α).get k = none := rfl
theorem bq {α : Type} (a b : Nat) (x y : α) : (bif Nat.beq a b then x else y) = if a = b then x else y := by
  by_cases h : a = b
  · subst h; rw [if_pos rfl, show Nat.beq a a = true from Nat.beq_refl a]; rfl
  · rw [if_neg h]
    cases e : Nat.beq a b with
    | false => rfl
    | true => exact absurd (Nat.eq_of_beq_eq_true e) h
theorem Tr.get_node {α : Type} (o : Option α) (l r : Tr α) (k : Nat) : (Tr.node o l r).get k = if k = 0 then o else if k % 2 = 1 then l.get (k / 2) else r.get (k / 2 - 1) := by
  rw [← bq, ← bq]; rfl
theorem Tr.set_nil {α : Type} (n k : Nat) (v : Option α) : (Tr.nil : Tr α).set (n + 1) k v = if k = 0 then Tr.node v .nil .nil else if k % 2 = 1 then Tr.node none (Tr.nil.set n (k / 2) v) .nil else Tr.node none .nil (Tr.nil.set n (k / 2 - 1) v) := by
  rw [← bq, ← bq]; rfl
theorem Tr.set_node {α : Type} (n k : Nat) (o v : Option α) (l r : Tr α) : (Tr.node o l r).set (n + 1) k v = if k = 0 then Tr.node v l r else if k % 2 = 1 then Tr.node o (l.set n (k / 2) v) r else Tr.node o l (r.set n (k / 2 - 1) v) := by
  rw [← bq, ← bq]; rfl
theorem Tr.get_set {α : Type} : ∀ (n : Nat) (t : Tr α) (k : Nat) (v : Option α) (k' : Nat), k + 2 ≤ 2 ^ n → (t.set n k v).get k' = if k' = k then v else t.get k'
  | 0, _, _, _, _, h => by simp at h
  | n + 1, t, k, v, k', h => by
    have hp : 2 ^ (n + 1) = 2 * 2 ^ n := by rw [Nat.pow_succ]; omega
    cases t with
    | nil =>
      rw [Tr.set_nil, Tr.get_nil]
      by_cases h0 : k = 0
      · subst h0
        rw [if_pos rfl, Tr.get_node, Tr.get_nil, Tr.get_nil]
        split <;> simp [*]
      · rw [if_neg h0]
        by_cases h1 : k % 2 = 1
        · rw [if_pos h1, Tr.get_node, Tr.get_set n _ _ _ _ (by omega), Tr.get_nil, Tr.get_nil]
          by_cases e : k' = k
          · subst e; rw [if_neg h0, if_pos h1, if_pos rfl, if_pos rfl]
          · rw [if_neg e]
            split
            · rfl
            · split
              · rw [if_neg (by omega)]
              · rfl
        · rw [if_neg h1, Tr.get_node, Tr.get_set n _ _ _ _ (by omega), Tr.get_nil, Tr.get_nil]
          by_cases e : k' = k
          · subst e; rw [if_neg h0, if_neg h1, if_pos rfl, if_pos rfl]
          · rw [if_neg e]
            split
            · rfl
            · split
              · rfl
              · rw [if_neg (by omega)]
    | node o l r =>
      rw [Tr.set_node, Tr.get_node]
      by_cases h0 : k = 0
      · subst h0
        rw [if_pos rfl, Tr.get_node]
        split <;> simp [*]
      · rw [if_neg h0]
        by_cases h1 : k % 2 = 1
        · rw [if_pos h1, Tr.get_node, Tr.get_set n _ _ _ _ (by omega)]
          by_cases e : k' = k
          · subst e; rw [if_neg h0, if_pos h1, if_pos rfl, if_pos rfl]
          · rw [if_neg e]
            split
            · rfl
            · split
              · rw [if_neg (by omega)]
              · rfl
        · rw [if_neg h1, Tr.get_node, Tr.get_set n _ _ _ _ (by omega)]
          by_cases e : k' = k
          · subst e; rw [if_neg h0, if_neg h1, if_pos rfl, if_pos rfl]
          · rw [if_neg e]
            split
            · rfl
            · split
              · rfl
              · rw [if_neg (by omega)]
/-- Where the numbers lie: the block, and how much more room a row there has. -/
abbrev Rn := Nat → Option (Nat × Nat)
inductive VR (r : Rn) : Value → Value → Prop where
  | pln {v : Value} (h : pl v = true) : VR r v v
  | ptr {k off b x : Nat} (h : r k = some (b, x)) : VR r (.pointer (some ⟨k, off, none⟩)) (.pointer (some ⟨b, off, none⟩))
  | sl {k off b x n c : Nat} (h : r k = some (b, x)) : VR r (.slice (some ⟨k, off, none⟩) n c) (.slice (some ⟨b, off, none⟩) n c)
  | so {k off b x n c : Nat} (h : r k = some (b, x)) : VR r (.slice (some ⟨k, off, some 0⟩) n c) (.slice (some ⟨b, off, none⟩) n (c + x))
  | mp {k b x : Nat} (h : r k = some (b, x)) : VR r (.map (some k)) (.map (some b))
  | yl {k b x : Nat} (h : r k = some (b, x)) : VR r (.func (.yield k) #[] #[]) (.func (.yield b) #[] #[])
  | fn {g : FuncId} {f f' c c' : Array Value} (h1 : f.size = f'.size) (h2 : ∀ (i : Nat) v v', f[i]? = some v → f'[i]? = some v' → VR r v v') (h3 : c.size = c'.size) (h4 : ∀ (i : Nat) v v', c[i]? = some v → c'[i]? = some v' → VR r v v') : VR r (.func (.func g) f c) (.func (.func g) f' c')
  | ag {c c' : Array Value} (h3 : c.size = c'.size) (h4 : ∀ (i : Nat) v v', c[i]? = some v → c'[i]? = some v' → VR r v v') : VR r (.agg c) (.agg c')
  | tu {c c' : Array Value} (h3 : c.size = c'.size) (h4 : ∀ (i : Nat) v v', c[i]? = some v → c'[i]? = some v' → VR r v v') : VR r (.tuple c) (.tuple c')
def AR (r : Rn) (c c' : Array Value) : Prop := c.size = c'.size ∧ ∀ (i : Nat) v v', c[i]? = some v → c'[i]? = some v' → VR r v v'
def LR (r : Rn) (c c' : List Value) : Prop := c.length = c'.length ∧ ∀ (i : Nat) v v', c[i]? = some v → c'[i]? = some v' → VR r v v'
theorem AR.list {r : Rn} {c c' : Array Value} (h : AR r c c') : LR r c.toList c'.toList := ⟨by simpa using h.1, fun i v v' h1 h2 => h.2 i v v' (by simpa using h1) (by simpa using h2)⟩
theorem LR.arr {r : Rn} {c c' : List Value} (h : LR r c c') : AR r c.toArray c'.toArray := ⟨by simpa using h.1, fun i v v' h1 h2 => h.2 i v v' (by simpa using h1) (by simpa using h2)⟩
theorem LR.nil {r : Rn} : LR r [] [] := ⟨rfl, fun i v v' h => by simp at h⟩
theorem LR.cons {r : Rn} {v v' : Value} {l l' : List Value} (h : VR r v v') (hl : LR r l l') : LR r (v :: l) (v' :: l') := ⟨by simp [hl.1], fun i a a' h1 h2 => by
  cases i with
  | zero => simp at h1 h2; subst h1; subst h2; exact h
  | succ i => exact hl.2 i a a' (by simpa using h1) (by simpa using h2)⟩
theorem LR.uncons {r : Rn} {v : Value} {l l' : List Value} (h : LR r (v :: l) l') : ∃ v' q, l' = v' :: q ∧ VR r v v' ∧ LR r l q := by
  cases l' with
  | nil => have := h.1; simp at this
  | cons v' q => exact ⟨v', q, rfl, h.2 0 v v' rfl rfl, by have := h.1; simpa using this, fun i a a' h1 h2 => h.2 (i + 1) a a' (by simpa using h1) (by simpa using h2)⟩
theorem LR.nil' {r : Rn} {l' : List Value} (h : LR r [] l') : l' = [] := by have := h.1; simpa using this.symm
theorem LR.get {r : Rn} {c c' : List Value} (h : LR r c c') {i : Nat} {v : Value} (hv : c[i]? = some v) : ∃ v', c'[i]? = some v' ∧ VR r v v' := by
  have hi : i < c.length := (List.getElem?_eq_some_iff.1 hv).1
  exact ⟨c'[i]'(by rw [← h.1]; exact hi), by simp [h.1 ▸ hi], h.2 i v _ hv (by simp [h.1 ▸ hi])⟩
theorem AR.get {r : Rn} {c c' : Array Value} (h : AR r c c') {i : Nat} {v : Value} (hv : c[i]? = some v) : ∃ v', c'[i]? = some v' ∧ VR r v v' := by
  obtain ⟨v', h1, h2⟩ := h.list.get (i := i) (v := v) (by simpa using hv)
  exact ⟨v', by simpa using h1, h2⟩
theorem LR.app {r : Rn} : ∀ {a a' b b' : List Value}, LR r a a' → LR r b b' → LR r (a ++ b) (a' ++ b')
  | [], a', b, b', h, k => by rw [h.nil']; exact k
  | v :: a, a', b, b', h, k => by
    obtain ⟨v', q, rfl, h1, h2⟩ := h.uncons
    exact LR.cons h1 (LR.app h2 k)
theorem takeN_eq : ∀ (n : Nat) (l : List Value), takeN n l = l.take n
  | 0, l => by simp [takeN]
  | n + 1, [] => rfl
  | n + 1, v :: l => by simp [takeN, takeN_eq n l]
theorem dropN_eq : ∀ (n : Nat) (l : List Value), dropN n l = l.drop n
  | 0, l => rfl
  | n + 1, [] => rfl
  | n + 1, v :: l => by simp [dropN, dropN_eq n l]
theorem LR.take {r : Rn} (n : Nat) {c c' : List Value} (h : LR r c c') : LR r (c.take n) (c'.take n) := ⟨by simp [h.1], fun i v v' h1 h2 => by
  rw [List.getElem?_take] at h1 h2
  by_cases hi : i < n
  · rw [if_pos hi] at h1 h2; exact h.2 i v v' h1 h2
  · rw [if_neg hi] at h1; cases h1⟩
theorem LR.drop {r : Rn} (n : Nat) {c c' : List Value} (h : LR r c c') : LR r (c.drop n) (c'.drop n) := ⟨by simp [h.1], fun i v v' h1 h2 => by
  rw [List.getElem?_drop] at h1 h2
  exact h.2 _ v v' h1 h2⟩
theorem LR.map {r : Rn} {α : Type} (f f' : α → Value) : ∀ (l : List α), (∀ x ∈ l, VR r (f x) (f' x)) → LR r (l.map f) (l.map f')
  | [], _ => LR.nil
  | x :: l, h => LR.cons (h x (by simp)) (LR.map f f' l fun y hy => h y (by simp [hy]))
theorem VR.mono {r r' : Rn} (hr : ∀ k p, r k = some p → r' k = some p) {v v' : Value} (h : VR r v v') : VR r' v v' := by
  induction h with
  | pln h => exact .pln h
  | ptr h => exact .ptr (hr _ _ h)
  | sl h => exact .sl (hr _ _ h)
  | so h => exact .so (hr _ _ h)
  | mp h => exact .mp (hr _ _ h)
  | yl h => exact .yl (hr _ _ h)
  | fn h1 _ h3 _ i2 i4 => exact .fn h1 i2 h3 i4
  | ag h3 _ i4 => exact .ag h3 i4
  | tu h3 _ i4 => exact .tu h3 i4
theorem AR.mono {r r' : Rn} (hr : ∀ k p, r k = some p → r' k = some p) {c c' : Array Value} (h : AR r c c') : AR r' c c' := ⟨h.1, fun i v v' h1 h2 => (h.2 i v v' h1 h2).mono hr⟩
theorem LR.mono {r r' : Rn} (hr : ∀ k p, r k = some p → r' k = some p) {c c' : List Value} (h : LR r c c') : LR r' c c' := ⟨h.1, fun i v v' h1 h2 => (h.2 i v v' h1 h2).mono hr⟩
theorem pls_mem : ∀ {l : List Value}, pls l = true → ∀ v ∈ l, pl v = true
  | [], _, v, hv => by cases hv
  | a :: l, h, v, hv => by
    simp only [pls, Bool.and_eq_true] at h
    rcases List.mem_cons.1 hv with rfl | hv
    · exact h.1
    · exact pls_mem h.2 v hv
theorem LR.plain {r : Rn} {l : List Value} (h : pls l = true) : LR r l l := ⟨rfl, fun i v v' h1 h2 => by
  rw [h1] at h2; injection h2 with e; subst e
  exact .pln (pls_mem h v (List.mem_of_getElem? h1))⟩
theorem arr_same {c c' : Array Value} (h3 : c.size = c'.size) (i4 : ∀ (i : Nat) v v', c[i]? = some v → c'[i]? = some v' → pl v = true → v' = v) (hp : pls c.toList = true) : c' = c := by
  apply Array.ext h3.symm
  intro i h1 h2
  have e1 : c[i]? = some c[i] := by simp [h2]
  have e2 : c'[i]? = some c'[i] := by simp [h1]
  exact i4 i _ _ e1 e2 (pls_mem hp _ (by simp))
theorem VR.same {r : Rn} {v v' : Value} (h : VR r v v') : pl v = true → v' = v := by
  induction h with
  | pln h => exact fun _ => rfl
  | ptr h => intro h; simp [pl] at h
  | sl h => intro h; simp [pl] at h
  | so h => intro h; simp [pl] at h
  | mp h => intro h; simp [pl] at h
  | yl h => intro h; simp [pl] at h
  | @fn g f f' c c' h1 _ h3 _ i2 i4 =>
    intro h
    obtain ⟨f⟩ := f; obtain ⟨c⟩ := c; obtain ⟨f'⟩ := f'; obtain ⟨c'⟩ := c'
    cases f <;> cases c <;> simp [pl] at h
    obtain rfl : f' = [] := List.length_eq_zero_iff.1 (by simpa using h1.symm)
    obtain rfl : c' = [] := List.length_eq_zero_iff.1 (by simpa using h3.symm)
    rfl
  | @ag c c' h3 _ i4 =>
    intro h
    rw [arr_same h3 i4 (by obtain ⟨c⟩ := c; simpa [pl] using h)]
  | @tu c c' h3 _ i4 =>
    intro h
    rw [arr_same h3 i4 (by obtain ⟨c⟩ := c; simpa [pl] using h)]
theorem LR.same {r : Rn} : ∀ {l l' : List Value}, LR r l l' → pls l = true → l' = l
  | [], l', h, _ => h.nil'
  | v :: l, l', h, hp => by
    obtain ⟨v', q, rfl, h1, h2⟩ := h.uncons
    simp only [pls, Bool.and_eq_true] at hp
    rw [h1.same hp.1, LR.same h2 hp.2]
theorem VR.cells {r : Rn} {v v' : Value} (h : VR r v v') : LR r v.cells.toList v'.cells.toList := by
  cases h with
  | pln h =>
    cases v <;> try exact LR.cons (.pln h) LR.nil
    rename_i c
    obtain ⟨c⟩ := c
    exact LR.plain (show pls c = true by simpa [pl] using h)
  | ptr h => exact LR.cons (.ptr h) LR.nil
  | sl h => exact LR.cons (.sl h) LR.nil
  | so h => exact LR.cons (.so h) LR.nil
  | mp h => exact LR.cons (.mp h) LR.nil
  | yl h => exact LR.cons (.yl h) LR.nil
  | fn h1 h2 h3 h4 => exact LR.cons (.fn h1 h2 h3 h4) LR.nil
  | ag h3 h4 => exact AR.list ⟨h3, h4⟩
  | tu h3 h4 => exact LR.cons (.tu h3 h4) LR.nil
theorem VR.bool {r : Rn} {b : Bool} {v' : Value} (h : VR r (.bool b) v') : v' = .bool b := h.same rfl
theorem VR.int {r : Rn} {k : IntKind} {n : Int} {v' : Value} (h : VR r (.int k n) v') : v' = .int k n := h.same rfl
theorem VR.str {r : Rn} {s : ByteArray} {v' : Value} (h : VR r (.string s) v') : v' = .string s := h.same rfl
theorem VR.one {r : Rn} {v v' : Value} (h : VR r v v') : v'.oneCell' = v.oneCell' := by cases h <;> rfl
theorem ones_mem : ∀ {l : List Value}, ones l = true → ∀ v ∈ l, v.oneCell' = true
  | [], _, v, hv => by cases hv
  | a :: l, h, v, hv => by
    simp only [ones, Bool.and_eq_true] at h
    rcases List.mem_cons.1 hv with rfl | hv
    · exact h.1
    · exact ones_mem h.2 v hv
theorem LR.oneAll {r : Rn} : ∀ {l l' : List Value}, LR r l l' → ones l = true → ∀ v ∈ l', v.oneCell' = true
  | [], l', h, _, v, hv => by rw [h.nil'] at hv; cases hv
  | a :: l, l', h, ho, v, hv => by
    obtain ⟨v', q, rfl, h1, h2⟩ := h.uncons
    simp only [ones, Bool.and_eq_true] at ho
    rcases List.mem_cons.1 hv with rfl | hv
    · rw [h1.one]; exact ho.1
    · exact LR.oneAll h2 ho.2 v hv
/-- the slots -/
def SlR (r : Rn) (t : Tr Value) (m : Nat) (tm : Array Value) : Prop := tm.size = m ∧ m ≤ big ∧ ∀ s, VR r ((t.get s).getD undef) (tm.getD s undef)
theorem SlR.mono {r r' : Rn} (hr : ∀ k p, r k = some p → r' k = some p) {t : Tr Value} {m : Nat} {tm : Array Value} (h : SlR r t m tm) : SlR r' t m tm := ⟨h.1, h.2.1, fun s => (h.2.2 s).mono hr⟩
theorem SlR.put {r : Rn} {t : Tr Value} {m : Nat} {tm : Array Value} (h : SlR r t m tm) {d : Nat} (hd : d < m) {v v' : Value} (hv : VR r v v') : SlR r (t.set 24 d (some v)) m (tm.setIfInBounds d v') := by
  refine ⟨by simpa using h.1, h.2.1, fun s => ?_⟩
  have hb : d + 2 ≤ 2 ^ 24 := by have := h.2.1; unfold big at this; omega
  rw [Tr.get_set 24 t d _ s hb]
  by_cases e : s = d
  · subst e
    rw [if_pos rfl]
    have : (tm.setIfInBounds s v').getD s undef = v' := by simp [h.1, hd]
    rw [this]; exact hv
  · rw [if_neg e]
    have : (tm.setIfInBounds d v').getD s undef = tm.getD s undef := by simp [Array.getElem?_setIfInBounds_ne (Ne.symm e)]
    rw [this]; exact h.2.2 s
/-- a block -/
def OR (P : Program) (r : Rn) (x : Nat) : AO → Obj → Prop
  | .cells cs t op, o => ∃ a : Array Value, o = .cells a t (0, 0) ∧ a.size = cs.length + (if op = true then x * (szB P t).getD 0 else 0) ∧ ∀ (i : Nat) v, cs[i]? = some v → ∃ v', a[i]? = some v' ∧ VR r v v' ∧ v.oneCell' = true
  | .map es c, o => ∃ es' : Array MapEntry, o = .map es' c ∧ es'.size = es.length ∧ ∀ (i : Nat) e, es[i]? = some e → ∃ e', es'[i]? = some e' ∧ e'.key = e.key ∧ VR r e.val e'.val
  | .iter s pos, o => o = .stringIter s pos
  | .loop st pend t m ps asg body d, o => ∃ fn tm b y, o = .loop { state := st, pending := pend, fn := fn, tmps := tm, params := ps, assign := asg, body := body, defers := b } ∧ r d = some (b, y) ∧ SlR r t m tm
  | .dfr op, o => o = .deferred (if op = true then some [] else none)
theorem OR.mono {P : Program} {r r' : Rn} (hr : ∀ k p, r k = some p → r' k = some p) {x : Nat} {o : AO} {o' : Obj} (h : OR P r x o o') : OR P r' x o o' := by
  cases o with
  | cells cs t op =>
    obtain ⟨a, h1, h2, h3⟩ := h
    exact ⟨a, h1, h2, fun i v hv => let ⟨v', a1, a2, a3⟩ := h3 i v hv; ⟨v', a1, a2.mono hr, a3⟩⟩
  | map es c =>
    obtain ⟨a, h1, h2, h3⟩ := h
    exact ⟨a, h1, h2, fun i v hv => let ⟨v', a1, a2, a3⟩ := h3 i v hv; ⟨v', a1, a2, a3.mono hr⟩⟩
  | iter s pos => exact h
  | loop st pend t m ps asg body d =>
    obtain ⟨fn, tm, b, y, h1, h2, h3⟩ := h
    exact ⟨fn, tm, b, y, h1, hr _ _ h2, h3.mono hr⟩
  | dfr op => exact h
structure Rel (P : Program) (B : Nat) (r : Rn) (s : St) (w : World) : Prop where
  nb : s.next ≤ big
  le : s.next ≤ B
  dom : ∀ k, s.next ≤ k → k < B → r k = none
  obj : ∀ k o, s.get k = some o → ∃ b x o', r k = some (b, x) ∧ w.heap[b]? = some o' ∧ OR P r x o o'
  inj : ∀ k k' b x x', s.get k ≠ none → s.get k' ≠ none → r k = some (b, x) → r k' = some (b, x') → k = k'
  up : ∀ k, s.next ≤ k → s.T.get k = none
  hlt : ∀ k, hidden s.hid k = true → k < s.next
  gl : ∀ g, g < s.ng → r g = some (g, 0)
  gn : s.ng ≤ s.next
def wrt (s : St) (k : Nat) : Prop := s.lim ≤ k ∨ k = s.one
structure Mono (s s' : St) : Prop where
  next : s.next ≤ s'.next
  lim : s'.lim = s.lim
  one : s'.one = s.one
  hid : s'.hid = s.hid
  same : ∀ k, k < s.next → (¬ wrt s k ∨ hidden s.hid k = true) → s'.T.get k = s.T.get k
  dead : ∀ k, k < s.next → s.T.get k = none → s'.T.get k = none
  up : (∀ k, s.next ≤ k → s.T.get k = none) → ∀ k, s'.next ≤ k → s'.T.get k = none
  ng : s'.ng = s.ng
structure Ext (s s' : St) (r r' : Rn) (w w' : World) : Prop where
  rr : ∀ k, k < s.next ∨ s'.next ≤ k → r' k = r k
  size : w.heap.size ≤ w'.heap.size
  os : w'.os = w.os
  tape : w'.tape = w.tape
  output : w'.output = w.output
  frame : ∀ b, b < w.heap.size → (∀ k x, k < s.next → wrt s k → s.get k ≠ none → r k ≠ some (b, x)) → w'.heap[b]? = w.heap[b]?
  new : ∀ k b x, s.next ≤ k → s'.get k ≠ none → r' k = some (b, x) → w.heap.size ≤ b ∨ ∃ k0 x0, k0 < s.next ∧ wrt s k0 ∧ s.get k0 ≠ none ∧ r k0 = some (b, x0)
structure Good (P : Program) (B : Nat) (s s' : St) (r r' : Rn) (w w' : World) : Prop where
  mono : Mono s s'
  ext : Ext s s' r r' w w'
  rel : Rel P B r' s' w'
theorem Rel.lt {P : Program} {B : Nat} {r : Rn} {s : St} {w : World} (h : Rel P B r s w) {k : Nat} (hk : s.get k ≠ none) : k < s.next := by
  rcases Nat.lt_or_ge k s.next with h1 | h1
  · exact h1
  · exfalso; apply hk
    unfold St.get
    rw [h.up k h1]
    cases hidden s.hid k <;> rfl
theorem Mono.refl (s : St) : Mono s s := ⟨Nat.le_refl _, rfl, rfl, rfl, fun _ _ _ => rfl, fun _ _ h => h, fun h => h, rfl⟩
theorem Mono.get {s s' : St} (m : Mono s s') {k : Nat} (hk : k < s.next) (h : s'.get k ≠ none) : s.get k ≠ none := by
  unfold St.get at h ⊢
  rw [m.hid] at h
  cases hh : hidden s.hid k with
  | true => rw [hh] at h; exact absurd rfl h
  | false =>
    rw [hh] at h
    intro h0
    exact h (m.dead k hk h0)
theorem Mono.trans {a b c : St} (m : Mono a b) (n : Mono b c) : Mono a c :=
  ⟨Nat.le_trans m.next n.next, n.lim.trans m.lim, n.one.trans m.one, n.hid.trans m.hid,
   fun k hk h => (n.same k (Nat.lt_of_lt_of_le hk m.next) (by unfold wrt at *; rw [m.lim, m.one, m.hid]; exact h)).trans (m.same k hk h),
   fun k hk h => n.dead k (Nat.lt_of_lt_of_le hk m.next) (m.dead k hk h), fun h => n.up (m.up h), n.ng.trans m.ng⟩
theorem Good.refl {P : Program} {B : Nat} {s : St} {r : Rn} {w : World} (h : Rel P B r s w) : Good P B s s r r w w :=
  ⟨Mono.refl s, ⟨fun _ _ => rfl, Nat.le_refl _, rfl, rfl, rfl, fun _ _ _ => rfl, fun k b x hk hg _ => absurd (h.lt hg) (by omega)⟩, h⟩
theorem Good.up {P : Program} {B : Nat} {s s' : St} {r r' : Rn} {w w' : World} (g : Good P B s s' r r' w w') (h : Rel P B r s w) : ∀ k p, r k = some p → r' k = some p := fun k p hk => by
  rw [g.ext.rr k ?_]
  · exact hk
  · rcases Nat.lt_or_ge k s.next with h1 | h1
    · exact .inl h1
    · rcases Nat.lt_or_ge k s'.next with h2 | h2
      · have := h.dom k h1 (Nat.lt_of_lt_of_le h2 g.rel.le)
        rw [this] at hk; cases hk
      · exact .inr h2
theorem Good.trans {P : Program} {B : Nat} {a b c : St} {ra rb rc : Rn} {wa wb wc : World} (g : Good P B a b ra rb wa wb) (h : Good P B b c rb rc wb wc) : Good P B a c ra rc wa wc := by
  have hn := g.mono.next
  refine ⟨g.mono.trans h.mono, ⟨fun k hk => (h.ext.rr k (by have := h.mono.next; omega)).trans (g.ext.rr k (by have := h.mono.next; omega)), Nat.le_trans g.ext.size h.ext.size, h.ext.os.trans g.ext.os, h.ext.tape.trans g.ext.tape, h.ext.output.trans g.ext.output, fun bl hb hi => ?_, fun k bl x hk hg hr => ?_⟩, h.rel⟩
  · refine (h.ext.frame bl (Nat.lt_of_lt_of_le hb g.ext.size) fun k x hk hw hg hr => ?_).trans (g.ext.frame bl hb hi)
    have hw' : wrt a k := by unfold wrt at *; rw [← g.mono.lim, ← g.mono.one]; exact hw
    rcases Nat.lt_or_ge k a.next with h1 | h1
    · exact hi k x h1 hw' (g.mono.get h1 hg) (by rw [← g.ext.rr k (.inl h1)]; exact hr)
    · rcases g.ext.new k bl x h1 hg hr with h2 | ⟨k0, x0, e1, e2, e3, e4⟩
      · omega
      · exact hi k0 x0 e1 e2 e3 e4
  · rcases Nat.lt_or_ge k b.next with h1 | h1
    · exact g.ext.new k bl x hk (h.mono.get h1 hg) (by rw [← h.ext.rr k (.inl h1)]; exact hr)
    · rcases h.ext.new k bl x h1 hg hr with h2 | ⟨k0, x0, e1, e2, e3, e4⟩
      · exact .inl (Nat.le_trans g.ext.size h2)
      · have e2' : wrt a k0 := by unfold wrt at *; rw [← g.mono.lim, ← g.mono.one]; exact e2
        rcases Nat.lt_or_ge k0 a.next with h3 | h3
        · exact .inr ⟨k0, x0, h3, e2', g.mono.get h3 e3, by rw [← g.ext.rr k0 (.inl h3)]; exact e4⟩
        · exact g.ext.new k0 bl x0 h3 e3 e4
end Go.Proofs.YtbanjolokkghdaaGreatDoor
