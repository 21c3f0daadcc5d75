/- A part of the proof. -/
import Derived.Test.YtmfcdppbnbfpjaaGreatDoorRerK3
set_option maxRecDepth 100000
set_option linter.unusedVariables false
namespace Go.DB
open Go Go.RowKit
structure Box where
 X:Int
 Y:Int
 W_:Int
 H:Int
 deriving Inhabited,DecidableEq
instance:Rep Box:=Rep.via (fun x=>(x.X,x.Y,x.W_,x.H))
instance:Flat Box:=Flat.via _
instance:Fits Box:=⟨fun x=>zT x.X∧zT x.Y∧zT x.W_∧zT x.H⟩
instance:FitsRep Box:=⟨fun h=>FitsRep.of (α:=Int×Int×Int×Int) h⟩
structure zm where
 Id:Str
 Kind:Int
 Box:Box
 Text:Str
 Class:Str
 Parent:Str
 Locked:Bool
 deriving Inhabited,DecidableEq
instance:Rep zm:=Rep.via (fun x=>(x.Id,x.Kind,x.Box,x.Text,x.Class,x.Parent,x.Locked))
instance:Flat zm:=Flat.via _
instance:Fits zm:=⟨fun x=>zT x.Id∧zT x.Kind∧zT x.Box∧zT x.Text∧zT x.Class∧zT x.Parent∧zT x.Locked⟩
instance:FitsRep zm:=⟨fun h=>FitsRep.of (α:=Str×Int×Box×Str×Str×Str×Bool) h⟩
structure yx where
 Node:Str
 Side:Int
 At:Int
 deriving Inhabited,DecidableEq
instance:Rep yx:=Rep.via (fun x=>(x.Node,x.Side,x.At))
instance:Flat yx:=Flat.via _
instance:Fits yx:=⟨fun x=>zT x.Node∧zT x.Side∧zT x.At⟩
instance:FitsRep yx:=⟨fun h=>FitsRep.of (α:=Str×Int×Int) h⟩
structure zd where
 X:Int
 Y:Int
 deriving Inhabited,DecidableEq
instance:Rep zd:=Rep.via (fun x=>(x.X,x.Y))
instance:Flat zd:=Flat.via _
instance:Fits zd:=⟨fun x=>zT x.X∧zT x.Y⟩
instance:FitsRep zd:=⟨fun h=>FitsRep.of (α:=Int×Int) h⟩
structure zJ where
 Id:Str
 From:yx
 To:yx
 Bends:(List zd)
 Text:Str
 Class:Str
 deriving Inhabited,DecidableEq
instance:Rep zJ:=Rep.via (fun x=>(x.Id,x.From,x.To,x.Bends,x.Text,x.Class))
instance:Fits zJ:=⟨fun x=>zT x.Id∧zT x.From∧zT x.To∧zT x.Bends∧zT x.Text∧zT x.Class⟩
instance:FitsRep zJ:=⟨fun h=>FitsRep.of (α:=Str×yx×yx×(List zd)×Str×Str) h⟩
structure Doc where
 Nodes:(List zm)
 Edges:(List zJ)
 deriving Inhabited,DecidableEq
instance:Rep Doc:=Rep.via (fun x=>(x.Nodes,x.Edges))
instance:Fits Doc:=⟨fun x=>zT x.Nodes∧zT x.Edges⟩
instance:FitsRep Doc:=⟨fun h=>FitsRep.of (α:=(List zm)×(List zJ)) h⟩
structure yk where
 d:Doc
 number:(GMap Str Int)
 members:(GMap Str (List Int))
 deriving Inhabited
instance:Rep yk:=Rep.via (fun x=>(x.d,x.number,x.members))
instance:Fits yk:=⟨fun x=>zT x.d∧zT x.number∧zT x.members⟩
instance:FitsRep yk:=⟨fun h=>FitsRep.of (α:=Doc×(GMap Str Int)×(GMap Str (List Int))) h⟩
structure vk where
 d:Doc
 number:Raw
 members:Raw
 deriving Inhabited
instance:Rep vk:=Rep.via (fun x=>(x.d,x.number,x.members))
structure YE where
 Nodes:(List zm)
 Edges:Raw
 deriving Inhabited
instance:Rep YE:=Rep.via (fun x=>(x.Nodes,x.Edges))
structure zA where
 From:zd
 FromSide:Int
 To:zd
 ToSide:Int
 Walls:(List Box)
 Clear:Int
 deriving Inhabited,DecidableEq
instance:Rep zA:=Rep.via (fun x=>(x.From,x.FromSide,x.To,x.ToSide,x.Walls,x.Clear))
instance:Fits zA:=⟨fun x=>zT x.From∧zT x.FromSide∧zT x.To∧zT x.ToSide∧zT x.Walls∧zT x.Clear⟩
instance:FitsRep zA:=⟨fun h=>FitsRep.of (α:=zd×Int×zd×Int×(List Box)×Int) h⟩
structure qT where
 p:zd
 side:Int
 deriving Inhabited,DecidableEq
instance:Rep qT:=Rep.via (fun x=>(x.p,x.side))
instance:Flat qT:=Flat.via _
instance:Fits qT:=⟨fun x=>zT x.p∧zT x.side⟩
instance:FitsRep qT:=⟨fun h=>FitsRep.of (α:=zd×Int) h⟩
structure zV where
 left:Int
 top:Int
 right:Int
 bottom:Int
 deriving Inhabited,DecidableEq
instance:Rep zV:=Rep.via (fun x=>(x.left,x.top,x.right,x.bottom))
instance:Flat zV:=Flat.via _
instance:Fits zV:=⟨fun x=>zT x.left∧zT x.top∧zT x.right∧zT x.bottom⟩
instance:FitsRep zV:=⟨fun h=>FitsRep.of (α:=Int×Int×Int×Int) h⟩
structure yd where
 xs:(List Int)
 ys:(List Int)
 across:(List Bool)
 down:(List Bool)
 deriving Inhabited,DecidableEq
instance:Rep yd:=Rep.via (fun x=>(x.xs,x.ys,x.across,x.down))
instance:Fits yd:=⟨fun x=>zT x.xs∧zT x.ys∧zT x.across∧zT x.down⟩
instance:FitsRep yd:=⟨fun h=>FitsRep.of (α:=(List Int)×(List Int)×(List Bool)×(List Bool)) h⟩
structure zbA where
 xs:(List Int)
 ys:(List Int)
 across:Raw
 down:(List Bool)
 deriving Inhabited
instance:Rep zbA:=Rep.via (fun x=>(x.xs,x.ys,x.across,x.down))
structure jO where
 xs:(List Int)
 ys:(List Int)
 across:Raw
 down:Raw
 deriving Inhabited
instance:Rep jO:=Rep.via (fun x=>(x.xs,x.ys,x.across,x.down))
structure zt where
 x:Int
 y:Int
 side:Int
 deriving Inhabited,DecidableEq
instance:Rep zt:=Rep.via (fun x=>(x.x,x.y,x.side))
instance:Flat zt:=Flat.via _
instance:Fits zt:=⟨fun x=>zT x.x∧zT x.y∧zT x.side⟩
instance:FitsRep zt:=⟨fun h=>FitsRep.of (α:=Int×Int×Int) h⟩
structure zF where
 spot:zt
 bends:Int
 long:Int
 deriving Inhabited,DecidableEq
instance:Rep zF:=Rep.via (fun x=>(x.spot,x.bends,x.long))
instance:Flat zF:=Flat.via _
instance:Fits zF:=⟨fun x=>zT x.spot∧zT x.bends∧zT x.long⟩
instance:FitsRep zF:=⟨fun h=>FitsRep.of (α:=zt×Int×Int) h⟩
structure qX where
 From:zd
 FromSide:Int
 To:zd
 ToSide:Int
 Walls:Raw
 Clear:Int
 deriving Inhabited
instance:Rep qX:=Rep.via (fun x=>(x.From,x.FromSide,x.To,x.ToSide,x.Walls,x.Clear))
structure zQ where
 x:Int
 y:Int
 way:Int
 deriving Inhabited,DecidableEq
instance:Rep zQ:=Rep.via (fun x=>(x.x,x.y,x.way))
instance:Flat zQ:=Flat.via _
instance:Fits zQ:=⟨fun x=>zT x.x∧zT x.y∧zT x.way⟩
instance:FitsRep zQ:=⟨fun h=>FitsRep.of (α:=Int×Int×Int) h⟩
end Go.DB
